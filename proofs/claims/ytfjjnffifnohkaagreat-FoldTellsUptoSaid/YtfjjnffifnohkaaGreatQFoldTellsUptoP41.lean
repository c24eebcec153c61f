import Derived.Test.YtfjjnffifnohkaaGreatQBkApURW
import Derived.Test.YtfjjnffifnohkaaGreatQFoldTellsUptoP15
import Derived.Test.YtfjjnffifnohkaaGreatQFoldTellsUptoP32
import Derived.Test.YtfjjnffifnohkaaGreatQFoldTellsUptoP27
import Derived.Test.YtfjjnffifnohkaaGreatQFoldTellsUptoP1

/- bedrockbook.Book.Deep, Book.Txn: versions with their vectors, a transaction's lists. By an AI agent. -/
section
set_option linter.unusedVariables false
set_option linter.unusedSimpArgs false
namespace Go.Proofs.YtfjjnffifnohkaaGreat
open Go.RowKit

theorem FI.wider {B B' : Nat} {w : World} {v : Value} {xs : List Int} (h : FI B w v xs) (hb : B' ≤ B) : FI B' w v xs := ⟨own_mono' h.own hb, h.cap, h.wf⟩
def vecV (x : VC) : Value := .slice x.ad x.n x.ca
/-- rows of unlike types lie in unlike blocks -/
theorem own_unlike {W : World} {A B E E' z z' n m : Nat} {u v : Value} {cs ds : List Value} (hx : W.ownsRow A E z u n cs) (hp : W.ownsRow B E' z' v m ds) (hE : E ≠ E') : ∀ b, u.ownBlock = some b → v.ownBlock ≠ some b := by
  intro b e1 e2
  obtain ⟨_, ⟨e, _⟩ | ⟨g, cap, cur, e, hB, hg, _⟩⟩ := hx
  · subst e; cases e1
  · subst e
    obtain ⟨_, ⟨e3, _⟩ | ⟨g2, cap2, cur2, e3, hB2, hg2, _⟩⟩ := hp
    · subst e3; cases e2
    · subst e3
      have h1 : g = b := Option.some.inj e1
      have h2 : g2 = b := Option.some.inj e2
      subst h1; subst h2
      rw [hg] at hg2
      simp only [Option.some.injEq, Obj.cells.injEq] at hg2
      exact hE hg2.2.1
/-- versions and their vectors, all lists the call's own, from block B on -/
structure OVL (B : Nat) (W : World) (a : Option Addr) (n c : Nat) (xs : List VC) : Prop where
  row : W.ownsRow B 59 8 (.slice a n c) n (flat xs)
  len : xs.length = n
  vec : ∀ i, i < n → FI B W (vecV (el xs i)) (el xs i).at_
  ap : ∀ i j, i < n → j < n → i ≠ j → ∀ b, (vecV (el xs i)).ownBlock = some b → (vecV (el xs j)).ownBlock ≠ some b
  ok : ∀ x ∈ xs, x.act.Ok
  few : ∀ x ∈ xs, x.at_.length ≤ 50000
theorem OVL.keep {B : Nat} {W W' : World} {a : Option Addr} {n c : Nat} {xs : List VC} (h : OVL B W a n c xs) (k : Bl W W') : OVL B W' a n c xs := ⟨ownsRow_bl h.row k, h.len, fun i hi => (h.vec i hi).keep k, h.ap, h.ok, h.few⟩
theorem OVL.wider {B B' : Nat} {W : World} {a : Option Addr} {n c : Nat} {xs : List VC} (h : OVL B W a n c xs) (k : B' ≤ B) : OVL B' W a n c xs := ⟨own_mono' h.row k, h.len, fun i hi => (h.vec i hi).wider k, h.ap, h.ok, h.few⟩
theorem OVL.fr {B : Nat} {W W' : World} {S : Nat → Prop} {a : Option Addr} {n c : Nat} {xs : List VC} (h : OVL B W a n c xs) (k : Fr S W W') (h1 : ∀ b, (Value.slice a n c).ownBlock = some b → ¬ S b) (h2 : ∀ i, i < n → ∀ b, (vecV (el xs i)).ownBlock = some b → ¬ S b) : OVL B W' a n c xs :=
  ⟨k.own h.row h1, h.len, fun i hi => (h.vec i hi).fr k (h2 i hi), h.ap, h.ok, h.few⟩
theorem OVL.ia {B : Nat} {W : World} {a : Option Addr} {n c : Nat} {xs : List VC} (h : OVL B W a n c xs) : ∀ x ∈ xs, IA W x.ad x.n x.at_ := by
  intro x hx
  obtain ⟨j, hj, rfl⟩ := List.getElem_of_mem hx
  have h1 := h.vec j (by rw [← h.len]; exact hj)
  rw [el_eq hj] at h1
  obtain ⟨a2, n2, c2, e, hi⟩ := FI.si h1
  simp only [vecV, Value.slice.injEq] at e
  obtain ⟨rfl, rfl, rfl⟩ := e
  exact hi
theorem OVL.rv {B : Nat} {W : World} {a : Option Addr} {n c : Nat} {xs : List VC} (h : OVL B W a n c xs) (hn : n ≤ 1000000) : RV W a n xs := RV.own h.row h.len hn h.ia h.ok
theorem bqURW_Vec (B g : Nat) (v : Value) (ps : List Int) (T U : Nat → Prop) (w : World) (hB : B ≤ w.heap.size) (h : BQU bkURW B w g T U) (ho : FI B w v ps) (hn : ps.length ≤ 50000) (hT : ∀ b, v.ownBlock = some b → T b) :
    Calls Tryz.prog 51 #[.pointer (some ⟨g, 0, none⟩), v] w fun e w' => e = .returned (.tuple #[]) ∧ BQU bkURW B w' g (fun b => T b ∧ v.ownBlock ≠ some b) U ∧ Fr (fun b => ¬ (T b ∨ U b)) w w' := by
  obtain ⟨a, c, e⟩ := row_shape' ho.own
  subst e
  have H := Lib.hid (bqURW_Vecs B g a ps.length c ps T U _ hB h ho.own rfl hn ho.wf hT)
  clear h ho hn hT hB
  go_enter Tryz.func51, Tryz.ntmps51
  go_wp2_with fail
  refine H.out.mono ?_
  rintro e W' ⟨rfl, hq, hf⟩
  have HQ := Lib.hid hq
  have HF := Lib.hid hf
  clear hq hf H
  go_wp2_with fail
  go_end0
  exact ⟨rfl, HQ.out, HF.out⟩
set_option maxHeartbeats 2000000 in
set_option maxRecDepth 100000 in
theorem deep_any (B g : Nat) (a : Option Addr) (n c : Nat) (xs : List VC) (T : Nat → Prop) (w : World) (hB : B ≤ w.heap.size) (h : BQ bkURW B w g T) (hl : OVL B w a n c xs) (hn : n ≤ 50000) (hT : ∀ b, (Value.slice a n c).ownBlock = some b → T b) (hTv : ∀ i, i < n → ∀ b, (vecV (el xs i)).ownBlock = some b → T b) :
    Calls Tryz.prog 18 #[.pointer (some ⟨g, 0, none⟩), .slice a n c] w fun e w' => e = .returned (.tuple #[]) ∧ BQ bkURW B w' g (fun b => T b ∧ (Value.slice a n c).ownBlock ≠ some b ∧ ∀ i, i < n → (vecV (el xs i)).ownBlock ≠ some b) ∧ Fr (fun b => ¬ T b) w w' := by
  obtain ⟨U, hU⟩ : ∃ U : Nat → Prop, U = fun b => (Value.slice a n c).ownBlock = some b ∨ ∃ i, i < n ∧ (vecV (el xs i)).ownBlock = some b := ⟨_, rfl⟩
  have hUT : ∀ b, U b → T b := fun b hb => by
    rw [hU] at hb
    rcases hb with q | ⟨i, hi, q⟩
    · exact hT b q
    · exact hTv i hi b q
  have HQ0 := Lib.hid (BQ.bqu h hUT)
  have HL := Lib.hid hl
  have HUE := Lib.hid hU
  have HTR := Lib.hid hT
  have HTV := Lib.hid hTv
  clear h hl hU hT hTv hUT
  go_enter Tryz.func18, Tryz.ntmps18
  go_wp2_with fail
  go_loopw [4] (fun t wr => ∃ k : Nat, k ≤ n ∧ t = .int .i64 k ∧ BQU bkURW B wr g (fun b => T b ∧ ∀ i, i < k → (vecV (el xs i)).ownBlock ≠ some b) U ∧ Fr (fun b => ¬ T b) w wr) (fun t _ => n - (intOf t).toNat)
  case atStart => exact ⟨0, Nat.zero_le _, rfl, HQ0.out.less (fun b hb => hb.1) (fun b hb => hb), Fr.refl _ _⟩
  case round =>
    obtain ⟨k, hk, rfl, hbq, hfr⟩ := hrel
    have HQ := Lib.hid hbq
    have HFR := Lib.hid hfr
    have HLK := Lib.hid (HL.out.fr hfr (fun b e => not_not_intro (HTR.out b e)) (fun i hi b e => not_not_intro (HTV.out i hi b e)))
    clear hbq hfr HQ0
    by_cases hlt : k < n
    · have hrv := HLK.out.rv (by omega)
      obtain ⟨bl, ol, rfl, -⟩ := hrv.cells k hlt
      have c1 := hrv.get hlt 1 (by omega)
      rw [(vcs_get (el xs k)).2.1] at c1
      have HV := Lib.hid (HLK.out.vec k hlt)
      have hkx : k < xs.length := by rw [HLK.out.len]; exact hlt
      have hfew := HLK.out.few _ (el_memR hkx)
      have HTK := Lib.hid (fun b (e : (vecV (el xs k)).ownBlock = some b) => (show T b ∧ ∀ i, i < k → (vecV (el xs i)).ownBlock ≠ some b from ⟨HTV.out k hlt b e, fun i hi e2 => HLK.out.ap i k (by omega) hlt (by omega) b e2 e⟩))
      have hBw : B ≤ wr.heap.size := Nat.le_trans hB HFR.out.size
      obtain ⟨x, hxe⟩ : ∃ x, el xs k = x := ⟨_, rfl⟩
      have HXE := Lib.hid hxe
      rw [hxe] at c1 HV hfew
      have HTK2 : Hid (∀ b, (vecV x).ownBlock = some b → T b ∧ ∀ i, i < k → (vecV (el xs i)).ownBlock ≠ some b) := Lib.hid (by rw [← hxe]; exact HTK.out)
      clear hrv hkx hxe HTK
      go_wp2_with fail
      clear c1
      refine (bqURW_Vec B g (vecV x) x.at_ _ U _ hBw HQ.out HV.out hfew HTK2.out).mono ?_
      rintro e w2 ⟨rfl, hq, hf⟩
      rw [← HXE.out] at hq
      have HQ2 := Lib.hid (hq.less (T' := fun b => T b ∧ ∀ i, i < k + 1 → (vecV (el xs i)).ownBlock ≠ some b) (U' := U) (fun b hb => ⟨⟨hb.1, fun i hi => hb.2 i (by omega)⟩, hb.2 k (by omega)⟩) (fun b hb => hb))
      have HF2 := Lib.hid (HFR.out.trans (hf.wider (fun b q ht => q (by
        by_cases e : ∀ i, i < k → (vecV (el xs i)).ownBlock ≠ some b
        · exact .inl ⟨ht, e⟩
        · right
          rw [HUE.out]
          obtain ⟨i, hi⟩ := Classical.not_forall.1 e
          obtain ⟨hi1, hi2⟩ := Classical.not_imp.1 hi
          exact .inr ⟨i, by omega, Classical.not_not.1 hi2⟩))))
      clear hq hf HQ HFR HV HLK
      go_wp2_with fail
      go_roundw
      case rel => exact ⟨k + 1, by omega, by go_num, HQ2.out, HF2.out⟩
      case measure => simp [intOf]; omega
    · have hkn : k = n := by omega
      subst hkn
      have hBw : B ≤ wr.heap.size := Nat.le_trans hB HFR.out.size
      go_wp2_with fail
      refine (bqURW_Versions B g a k c xs _ U _ hBw HQ.out HLK.out.row HLK.out.len hn HLK.out.ia HLK.out.ok (fun x hx b off e h0 => ?_) (fun b e => ⟨HTR.out b e, fun i hi e2 => own_unlike (HLK.out.vec i hi).own HLK.out.row (by decide) b e2 e⟩)).mono ?_
      · rw [HUE.out]
        obtain ⟨j, hj, rfl⟩ := List.getElem_of_mem hx
        refine .inr ⟨j, by rw [← HLK.out.len]; exact hj, ?_⟩
        rw [el_eq hj]
        unfold vecV
        rw [e]; rfl
      · rintro e w2 ⟨rfl, hq, hf⟩
        have HQ2 := Lib.hid (hq.bq.less (T' := fun b => T b ∧ (Value.slice a k c).ownBlock ≠ some b ∧ ∀ i, i < k → (vecV (el xs i)).ownBlock ≠ some b) (fun b hb => ⟨⟨hb.1, hb.2.2⟩, hb.2.1⟩))
        have HF2 := Lib.hid (HFR.out.trans (hf.wider (fun b q ht => q (by
          by_cases e : ∀ i, i < k → (vecV (el xs i)).ownBlock ≠ some b
          · exact .inl ⟨ht, e⟩
          · right
            rw [HUE.out]
            obtain ⟨i, hi⟩ := Classical.not_forall.1 e
            obtain ⟨hi1, hi2⟩ := Classical.not_imp.1 hi
            exact .inr ⟨i, by omega, Classical.not_not.1 hi2⟩))))
        clear hq hf
        go_wp2_with fail
        go_end0
        exact ⟨rfl, HQ2.out, HF2.out⟩
end Go.Proofs.YtfjjnffifnohkaaGreat
end

/- FoldTells, beside its walk: light versions, what Drop keeps is short too, two rows laid into one book. By an AI agent. -/
section
set_option linter.unusedVariables false
set_option linter.unusedSimpArgs false
namespace Go.Proofs.YtfjjnffifnohkaaGreat
open Go.RowKit

set_option maxHeartbeats 1600000 in
set_option maxRecDepth 100000 in
theorem light17s_any (a : Option Addr) (n ca : Nat) (vs : List VerL) (w : World) (hv : VA w a n vs) :
    Calls Tryz.prog 4 #[.slice a n ca] w fun e w' => ∃ b : Bool, e = .returned (.bool b) ∧ (b = true → n ≤ 60 ∧ ∀ j, j < n → (nthR vs j).at_.length ≤ 20) ∧ w = w' := by
  have hcap := hv.cap
  go_enter Tryz.func4, Tryz.ntmps4
  by_cases h60 : n ≤ 60
  · have q0 : decide ((60 : Int) < (n : Int)) = false := decide_eq_false (by omega)
    have q0n : decide (60 < n) = false := decide_eq_false (by omega)
    go_wp2_with fail
    go_loopw [3] (fun iv wr => ∃ k : Nat, k ≤ n ∧ iv = .int .i64 (k : Int) ∧ w = wr ∧ Hid (∀ j, j < k → (nthR vs j).at_.length ≤ 20)) (fun iv _ => n - (intOf iv).toNat)
    case atStart => exact ⟨0, Nat.zero_le _, by go_num, rfl, Lib.hid (fun j hj => absurd hj (Nat.not_lt_zero _))⟩
    case round =>
      obtain ⟨k, hk, rfl, rfl, HR⟩ := hrel
      by_cases hlt : k < n
      · obtain ⟨b, off, rfl, hc⟩ := hv.cells k hlt
        have E := hc k hlt
        obtain ⟨V, hV⟩ : ∃ V, nthR vs k = V := ⟨_, rfl⟩
        rw [hV] at E
        have HV := Lib.hid hV
        clear hV hc
        obtain ⟨va, vn, vc, e1, hI⟩ := E.at_
        have hvc := hI.cap
        have HVL := Lib.hid hI.len
        have e0 := E.c0
        have e2 := E.c2
        have e3 := E.c3
        have e4 := E.c4
        have e5 := E.c5
        have e6 := E.c6
        have e7 := E.c7
        clear hI E
        by_cases h20 : vn ≤ 20
        · have p0 : decide ((20 : Int) < (vn : Int)) = false := decide_eq_false (by omega)
          have p0n : decide (20 < vn) = false := decide_eq_false (by omega)
          have HN : Hid (∀ j, j < k + 1 → (nthR vs j).at_.length ≤ 20) := Lib.hid (fun j hj => by
            rcases Nat.lt_succ_iff_lt_or_eq.1 hj with q | rfl
            · exact HR.out j q
            · rw [HV.out, HVL.out]; exact h20)
          by_cases hT : V.act.s.size ≤ 1100
          case neg =>
            have x1 : decide ((1100 : Int) < (V.act.s.size : Int)) = true := decide_eq_true (by omega)
            have x1n : decide (1100 < V.act.s.size) = true := decide_eq_true (by omega)
            clear hT
            go_wp2_with fail
            go_ret
            exact ⟨false, rfl, fun h => (by cases h), rfl⟩
          have x1 : decide ((1100 : Int) < (V.act.s.size : Int)) = false := decide_eq_false (by omega)
          have x1n : decide (1100 < V.act.s.size) = false := decide_eq_false (by omega)
          by_cases hK : V.key.size ≤ 200
          case neg =>
            have x2 : decide ((200 : Int) < (V.key.size : Int)) = true := decide_eq_true (by omega)
            have x2n : decide (200 < V.key.size) = true := decide_eq_true (by omega)
            clear hT hK
            go_wp2_with fail
            go_ret
            exact ⟨false, rfl, fun h => (by cases h), rfl⟩
          have x2 : decide ((200 : Int) < (V.key.size : Int)) = false := decide_eq_false (by omega)
          have x2n : decide (200 < V.key.size) = false := decide_eq_false (by omega)
          clear hT hK
          go_wp2_with fail
          go_roundw
          case rel => exact ⟨k + 1, by omega, by go_num, trivial, HN⟩
          case measure => simp [intOf]; omega
        · have p0 : decide ((20 : Int) < (vn : Int)) = true := decide_eq_true (by omega)
          have p0n : decide (20 < vn) = true := decide_eq_true (by omega)
          go_wp2_with fail
          go_ret
          exact ⟨false, rfl, fun h => (by cases h), rfl⟩
      · obtain rfl : k = n := by omega
        go_wp2_with fail
        go_ret
        exact ⟨true, rfl, fun _ => ⟨h60, HR.out⟩, rfl⟩
  · have q0 : decide ((60 : Int) < (n : Int)) = true := decide_eq_true (by omega)
    have q0n : decide (60 < n) = true := decide_eq_true (by omega)
    go_wp2_with fail
    go_ret
    exact ⟨false, rfl, fun h => (by cases h), rfl⟩
/-- the vectors are short -/
def ShortV (N : Nat) (vs : List VerL) : Prop := ∀ v ∈ vs, v.at_.length ≤ N
theorem short_order {N : Nat} {vs : List VerL} (h : ShortV N vs) : ShortV N (orderOf vs) := fun v hv => h v (order_mem hv)
theorem join_short {N : Nat} {xs ys : List Int} (h1 : xs.length ≤ N) : (joinL xs ys).length ≤ N := by
  unfold joinL eachL
  split
  · rw [List.length_zipWith]; omega
  · simp
theorem oneF_short {N : Nat} {key : ByteArray} : ∀ (vs : List VerL) (o : VerL), o.at_.length ≤ N → (vs.foldl (oneStep key) o).at_.length ≤ N
  | [], o, h => h
  | v :: vs, o, h => oneF_short vs (oneStep key o v) (join_short h)
theorem oneL_short {N : Nat} {key : ByteArray} {vs : List VerL} (h : ShortV N vs) : (oneL key vs).at_.length ≤ N := by
  cases vs with
  | nil => show ([] : List Int).length ≤ N; simp
  | cons v vs => exact oneF_short vs _ (h v (by simp))
theorem short_drop {N : Nat} {key : ByteArray} {vs : List VerL} {floor : List Int} {all : Bool} (h : ShortV N vs) : ShortV N (dropL key vs floor all) := by
  have ho := short_order h
  have h1 : ShortV N (stayL floor (orderOf vs)) := fun v hv => ho v ((List.mem_filter.1 hv).1)
  have h2 : ShortV N (seenL key floor (orderOf vs)) := fun v hv => ho v ((List.mem_filter.1 hv).1)
  unfold dropL dropO
  split
  · cases e : seenL key floor (orderOf vs) with
    | nil => exact h1
    | cons first rest =>
      rw [e] at h2
      rw [keptL_cons]
      split
      · refine short_order (fun v hv => ?_)
        rcases List.mem_append.1 hv with q | q
        · exact h1 v q
        · split at q
          · cases q
          · rw [List.mem_singleton.1 q]; exact h2 first (by simp)
      · split
        · intro v hv
          rcases List.mem_append.1 hv with q | q
          · exact h1 v q
          · rw [List.mem_singleton.1 q]
            exact oneL_short (fun u hu => h2 u (List.mem_reverse.1 hu))
        · refine short_order (fun v hv => ?_)
          rcases List.mem_append.1 hv with q | q
          · exact h1 v q
          · exact h2 v q
  · exact ho
theorem OVX.ovl {B : Nat} {W : World} {a : Option Addr} {n c : Nat} {xs : List VC} {vs : List VerL} (h : OVX B W a n c xs) (e : xs.map VC.ver = vs) (hs : ShortV 20 vs) : OVL B W a n c xs := by
  refine ⟨h.row, h.len, fun i hi => h.vec _ (el_mem (by rw [h.len]; exact hi)), fun i j hi hj hne b e1 e2 => ?_, h.ok, fun x hx => ?_⟩
  · have li : i < xs.length := by rw [h.len]; exact hi
    have lj : j < xs.length := by rw [h.len]; exact hj
    rw [el_eq li] at e1
    rw [el_eq lj] at e2
    rcases Nat.lt_or_gt_of_ne hne with q | q
    · exact (List.pairwise_iff_getElem.1 h.ap i j li lj q) b e1 e2
    · exact (List.pairwise_iff_getElem.1 h.ap j i lj li q) b e2 e1
  · have := hs x.ver (by rw [← e]; exact List.mem_map_of_mem hx)
    have e3 : x.ver.at_ = x.at_ := rfl
    rw [e3] at this
    omega
theorem Bl.frS {w0 w w' : World} {S : Nat → Prop} (h : Bl w0 w) (k : Fr S w w') (hs : ∀ b, S b → w0.heap.size ≤ b) : Bl w0 w' := Below.trans h (k.below h.size hs)
/-- the blocks of versions and of their vectors -/
def OBk (a : Option Addr) (n c : Nat) (xs : List VC) (b : Nat) : Prop := (Value.slice a n c).ownBlock = some b ∨ ∃ i, i < n ∧ (vecV (el xs i)).ownBlock = some b
theorem OVL.blk2 {B : Nat} {W : World} {a : Option Addr} {n c : Nat} {xs : List VC} (h : OVL B W a n c xs) {b : Nat} (q : OBk a n c xs b) : B ≤ b ∧ b < W.heap.size := by
  rcases q with q | ⟨i, hi, q⟩
  · exact World.ownsRow.lt h.row b q
  · exact World.ownsRow.lt (h.vec i hi).own b q
/-- one row of versions, ahead of the book's call -/
structure D1 (w1 W : World) (g : Nat) (a : Option Addr) (n c : Nat) (xs : List VC) : Prop where
  bl : Bl w1 W
  bq : BQ bkURW w1.heap.size W g (fun b => b < w1.heap.size ∨ OBk a n c xs b)
  ov : OVL w1.heap.size W a n c xs
/-- two of them -/
structure D2 (w1 W : World) (g : Nat) (a : Option Addr) (n c : Nat) (xs : List VC) (a' : Option Addr) (n' c' : Nat) (ys : List VC) : Prop where
  bl : Bl w1 W
  bq : BQ bkURW w1.heap.size W g (fun b => b < w1.heap.size ∨ OBk a n c xs b ∨ OBk a' n' c' ys b)
  o : OVL w1.heap.size W a n c xs
  d : OVL w1.heap.size W a' n' c' ys
  ap : ∀ b, OBk a n c xs b → OBk a' n' c' ys b → False
theorem D2.new {w1 wr wa wb wd W : World} {g : Nat} {a : Option Addr} {n c : Nat} {xs : List VC} {a' : Option Addr} {n' c' : Nat} {ys : List VC} (hbl : Bl w1 wr) (hq : BQ bkURW w1.heap.size wr g (fun b => b < w1.heap.size))
    (ha : Bl wr wa) (ho : OVL wa.heap.size wb a n c xs) (hab : Bl wa wb) (hd : OVL wb.heap.size wd a' n' c' ys) (hbd : Bl wb wd) (hW : Bl wd W) : D2 w1 W g a n c xs a' n' c' ys := by
  have l1 := hbl.size
  have l2 := ha.size
  have l3 := hab.size
  have B1 := ha.trans (hab.trans (hbd.trans hW))
  have hoW := ho.keep (hbd.trans hW)
  have hdW := hd.keep hW
  refine ⟨hbl.trans B1, (hq.more B1).less (fun b hb => ?_), hoW.wider (by omega), hdW.wider (by omega), fun b h1 h2 => ?_⟩
  · rcases hb with q | q | q
    · exact .inl q
    · have := hoW.blk2 q
      exact .inr ⟨by omega, this.2⟩
    · have := hdW.blk2 q
      exact .inr ⟨by omega, this.2⟩
  · have := ho.blk2 h1
    have := hd.blk2 h2
    omega
theorem deep_one (w1 W : World) (g g' : Nat) (a : Option Addr) (n c : Nat) (xs : List VC) (h : D1 w1 W g a n c xs) (hn : n ≤ 50000) (hg : g = g') :
    Calls Tryz.prog 18 #[.pointer (some ⟨g', 0, none⟩), .slice a n c] W fun e W' => e = .returned (.tuple #[]) ∧ Bl w1 W' ∧ BQ bkURW w1.heap.size W' g (fun b => b < w1.heap.size) := by
  subst hg
  refine (deep_any w1.heap.size g a n c xs _ W h.bl.size h.bq h.ov hn (fun b hb => .inr (.inl hb)) (fun i hi b hb => .inr (.inr ⟨i, hi, hb⟩))).mono ?_
  rintro e W' ⟨rfl, hq, hf⟩
  exact ⟨rfl, h.bl.frS hf (fun b hb => Nat.le_of_not_lt (fun q => hb (.inl q))), hq.less (fun b hb => ⟨.inl hb, fun e => by have := h.ov.blk2 (.inl e); omega, fun i hi e => by have := h.ov.blk2 (.inr ⟨i, hi, e⟩); omega⟩)⟩
theorem deep_two (w1 W : World) (g g' : Nat) (a : Option Addr) (n c : Nat) (xs : List VC) (a' : Option Addr) (n' c' : Nat) (ys : List VC) (h : D2 w1 W g a n c xs a' n' c' ys) (hn : n ≤ 50000) (hg : g = g') :
    Calls Tryz.prog 18 #[.pointer (some ⟨g', 0, none⟩), .slice a n c] W fun e W' => e = .returned (.tuple #[]) ∧ D1 w1 W' g a' n' c' ys := by
  subst hg
  refine (deep_any w1.heap.size g a n c xs _ W h.bl.size h.bq h.o hn (fun b hb => .inr (.inl (.inl hb))) (fun i hi b hb => .inr (.inl (.inr ⟨i, hi, hb⟩)))).mono ?_
  rintro e W' ⟨rfl, hq, hf⟩
  refine ⟨rfl, h.bl.frS hf (fun b hb => Nat.le_of_not_lt (fun q => hb (.inl q))), hq.less (fun b hb => ?_), h.d.fr hf (fun b e q => q (.inr (.inr (.inl e)))) (fun i hi b e q => q (.inr (.inr (.inr ⟨i, hi, e⟩))))⟩
  rcases hb with q | q
  · exact ⟨.inl q, fun e => by have := h.o.blk2 (.inl e); omega, fun i hi e => by have := h.o.blk2 (.inr ⟨i, hi, e⟩); omega⟩
  · exact ⟨.inr (.inr q), fun e => h.ap b (.inl e) q, fun i hi e => h.ap b (.inr ⟨i, hi, e⟩) q⟩
end Go.Proofs.YtfjjnffifnohkaaGreat
end

/- slices of ints that are written out; a string of known bytes. By an AI agent. -/
section
namespace Go.Proofs.YtfjjnffifnohkaaGreat
open Go.RowKit

theorem IA.lit (w : World) (xs : List Int) (t : TypeId) (hc : xs.length ≤ 1000) (hw : ∀ x ∈ xs, -9223372036854775808 ≤ x ∧ x ≤ 9223372036854775807) :
    IA (w.alloc (.cells (xs.map (Value.int .i64)).toArray t)) (some ⟨w.heap.size, 0, none⟩) xs.length xs :=
  ⟨rfl, by omega, fun j hj => ⟨w.heap.size, 0, rfl, fun j hj => by
    rw [Nat.zero_add, cell_of_row _ w.heap.size j _ t (0, 0) (heap_alloc_new w _)]
    simp [nth_eq hj, hj]⟩, hw⟩

theorem IA.lit_at (w : World) (g : Nat) (xs : List Int) (t : TypeId) (hg : g = w.heap.size) (hc : xs.length ≤ 1000) (hw : ∀ x ∈ xs, -9223372036854775808 ≤ x ∧ x ≤ 9223372036854775807) :
    IA (w.alloc (.cells (xs.map (Value.int .i64)).toArray t)) (some ⟨g, 0, none⟩) xs.length xs := by subst hg; exact IA.lit w xs t hc hw


end Go.Proofs.YtfjjnffifnohkaaGreat
end

/- bedrocklaw17: alive. By an AI agent. -/
section
set_option linter.unusedVariables false
set_option linter.unusedSimpArgs false
namespace Go.Proofs.YtfjjnffifnohkaaGreat
open Go.RowKit
attribute [local go_sem] eOp eOper eUpon

def va1 : VerL := ⟨nilS, [1], 0, 1, ⟨1, 0, 5, nilS⟩⟩
def va2 : VerL := ⟨nilS, [2], 0, 2, ⟨1, 0, 7, nilS⟩⟩
def kc : ByteArray := ⟨#[99]⟩
theorem alive_order : orderOf [va1, va2] = [va2, va1] := by
  have h1 : leV va1 va2 = false := by decide +kernel
  have h2 : eqV va1 va2 = false := by decide +kernel
  have h3 : srt leV [va1, va2] = [va2, va1] := by
    rw [srt_cons, srt_one]
    unfold mrg
    rw [List.merge, h1]
    simp
  unfold orderOf
  rw [h3]
  show va2 :: (if eqV va1 va2 then _ else _) = _
  rw [h2]; rfl
theorem alive_drop : dropL kc [va1, va2] [9] true = [oneStep kc (oneV kc va1) va2] := by
  have h1 : isKeyB kc = true := by decide +kernel
  have h2 : validL [9] = true := by decide +kernel
  have h3 : stayL [9] [va2, va1] = [] := by decide +kernel
  have h4 : seenL kc [9] [va2, va1] = [va2, va1] := by
    have a1 : leqV [9] va1 = true := by decide +kernel
    have a2 : leqV [9] va2 = true := by decide +kernel
    have a3 : fitsB kc va1.act = true := by decide +kernel
    have a4 : fitsB kc va2.act = true := by decide +kernel
    unfold seenL
    simp [List.filter, a1, a2, a3, a4]
  unfold dropL dropO
  rw [alive_order, h1, h2, h3, h4]
  show keptL kc [] [9] true [va2, va1] = _
  exact kept_one (key := kc) (stay := []) (first := va2) (rest := [va1]) (floor := [9]) (by decide +kernel) (by simp)
theorem alive_int : (oneStep kc (oneV kc va1) va2).act.n = 12 := by
  show (bothL kc va1.act va2.act).n = 12
  decide +kernel
theorem alive_read : readL kc [va1, va2] [1] = ⟨true, 0, 5, nilS⟩ := by
  have a1 : leqV [1] va1 = true := by decide +kernel
  have a2 : leqV [1] va2 = false := by decide +kernel
  unfold readL
  rw [alive_order]
  have : ([va2, va1] : List VerL).filter (leqV [1]) = [va1] := by simp [List.filter, a1, a2]
  rw [this, out_val (by decide +kernel)]
  show afterL kc noVal ⟨1, 0, 5, nilS⟩ = _
  rw [after_add _ (by decide +kernel) (by decide +kernel)]
  rfl
set_option maxHeartbeats 3200000 in
set_option maxRecDepth 100000 in
theorem alive17_any (w : World) : Calls Tryz.prog 5 #[] w fun e w' => e = .returned (.bool true) ∧ Bl w w' := by
  have hsf := store_fl
  obtain ⟨a1, ha1⟩ : ∃ a, w.alloc (.cells #[.int .i64 1] 3) = a := ⟨_, rfl⟩
  obtain ⟨a2, ha2⟩ : ∃ a, a1.alloc (.cells #[.int .i64 2] 3) = a := ⟨_, rfl⟩
  obtain ⟨a3, ha3⟩ : ∃ a, a2.alloc (.cells #[.string ⟨#[]⟩, .slice (some ⟨w.heap.size, 0, none⟩) 1 1, .int .i64 0, .int .i64 1, .int .i64 1, .float .f64 0, .int .i64 5, .string ⟨#[]⟩, .string ⟨#[]⟩, .slice (some ⟨w.heap.size + 1, 0, none⟩) 1 1, .int .i64 0, .int .i64 2, .int .i64 1, .float .f64 0, .int .i64 7, .string ⟨#[]⟩] 59) = a := ⟨_, rfl⟩
  obtain ⟨a4, ha4⟩ : ∃ a, a3.alloc (.cells #[.int .i64 9] 3) = a := ⟨_, rfl⟩
  have s1 : a1.heap.size = w.heap.size + 1 := by rw [← ha1]; simp
  have s2 : a2.heap.size = w.heap.size + 1 + 1 := by rw [← ha2]; simp [s1]
  have s3 : a3.heap.size = w.heap.size + 1 + 1 + 1 := by rw [← ha3]; simp [s2]
  have b1 : Bl w a1 := ha1 ▸ (Bl.refl w).alloc _
  have b2 : Bl a1 a2 := ha2 ▸ (Bl.refl a1).alloc _
  have b3 : Bl a2 a3 := ha3 ▸ (Bl.refl a2).alloc _
  have b4 : Bl a3 a4 := ha4 ▸ (Bl.refl a3).alloc _
  have i1 : IA a1 (some ⟨w.heap.size, 0, none⟩) 1 [1] := ha1 ▸ IA.lit w [1] 3 (by decide) (by decide)
  have i2 : IA a2 (some ⟨w.heap.size + 1, 0, none⟩) 1 [2] := ha2 ▸ IA.lit_at a1 (w.heap.size + 1) [2] 3 s1.symm (by decide) (by decide)
  have i9 : IA a4 (some ⟨w.heap.size + 1 + 1 + 1, 0, none⟩) 1 [9] := ha4 ▸ IA.lit_at a3 (w.heap.size + 1 + 1 + 1) [9] 3 s3.symm (by decide) (by decide)
  have ac : AC a3 (w.heap.size + 1 + 1) _ := ha3 ▸ AC.new a2 (w.heap.size + 1 + 1) s2.symm [.string ⟨#[]⟩, .slice (some ⟨w.heap.size, 0, none⟩) 1 1, .int .i64 0, .int .i64 1, .int .i64 1, .float .f64 0, .int .i64 5, .string ⟨#[]⟩, .string ⟨#[]⟩, .slice (some ⟨w.heap.size + 1, 0, none⟩) 1 1, .int .i64 0, .int .i64 2, .int .i64 1, .float .f64 0, .int .i64 7, .string ⟨#[]⟩] 59
  have k1 : va1.act.Ok := ⟨by decide, by decide, by decide, by decide⟩
  have k2 : va2.act.Ok := ⟨by decide, by decide, by decide, by decide⟩
  have V3 : VA a3 (some ⟨w.heap.size + 1 + 1, 0, none⟩) 2 [va1, va2] := by
    refine ⟨rfl, by omega, fun _ _ => ⟨_, 0, rfl, fun j hj => ?_⟩⟩
    have hj2 : j = 0 ∨ j = 1 := by omega
    rcases hj2 with rfl | rfl
    · exact ⟨ac.cell 0 _ rfl, ⟨_, _, _, ac.cell 1 _ rfl, (i1.keep b2).keep b3⟩, ac.cell 2 _ rfl, ac.cell 3 _ rfl, ac.cell 4 _ rfl, ac.cell 5 _ rfl, ac.cell 6 _ rfl, ac.cell 7 _ rfl, k1⟩
    · exact ⟨ac.cell 8 _ rfl, ⟨_, _, _, ac.cell 9 _ rfl, i2.keep b3⟩, ac.cell 10 _ rfl, ac.cell 11 _ rfl, ac.cell 12 _ rfl, ac.cell 13 _ rfl, ac.cell 14 _ rfl, ac.cell 15 _ rfl, k2⟩
  have HV := Lib.hid (V3.keep b4)
  have H9 := Lib.hid i9
  have HB := Lib.hid (((b1.trans b2).trans b3).trans b4)
  have HA1 := Lib.hid ha1
  have HA2 := Lib.hid ha2
  have HA3 := Lib.hid ha3
  have HA4 := Lib.hid ha4
  clear ha1 ha2 ha3 ha4
  clear s1 s2 s3 b1 b2 b3 b4 i1 i2 i9 ac k1 k2 V3
  go_enter Tryz.func5, Tryz.ntmps5
  go_wp2_with fail
  rw [HA1.out, HA2.out, HA3.out, HA4.out]
  clear HA1 HA2 HA3 HA4
  refine (fdrop_any kc _ 2 2 [va1, va2] _ 1 1 [9] true a4 (by decide) HV.out (by omega) H9.out).mono ?_
  rintro e w1 ⟨x1, n1, c1, rfl, hv1, hb1⟩
  rw [alive_drop] at hv1
  obtain rfl : n1 = 1 := hv1.len.symm
  obtain ⟨b, off, rfl, hc⟩ := hv1.cells 0 (by omega)
  have E := hc 0 (by omega)
  rw [show nthR [oneStep kc (oneV kc va1) va2] 0 = oneStep kc (oneV kc va1) va2 from rfl, Nat.zero_mul, Nat.add_zero] at E
  have HE := Lib.hid E
  have HV1 := Lib.hid (HV.out.keep hb1)
  have HB1 := Lib.hid (HB.out.trans hb1)
  clear hv1 hc E hb1 HV H9 HB
  obtain ⟨g1, hg1⟩ : ∃ g, w1.heap.size = g := ⟨_, rfl⟩
  have i1 := Lib.hid (IA.lit_at w1 w1.heap.size [1] 3 rfl (by decide) (by decide))
  have bb : Bl w1 (w1.alloc (.cells (([1] : List Int).map (Value.int .i64)).toArray 3)) := (Bl.refl w1).alloc _
  have HE1 := Lib.hid (HE.out.keep bb)
  have HV2 := Lib.hid (HV1.out.keep bb)
  have HB2 := Lib.hid (HB1.out.trans bb)
  clear bb HE HV1 HB1 hg1
  go_wp2_with fail
  refine (fread_any kc _ 2 2 [va1, va2] _ 1 1 [1] _ (by decide) HV2.out (by omega) i1.out).mono ?_
  rintro e w2 ⟨rfl, hb2⟩
  rw [alive_read]
  have HE2 := Lib.hid (HE1.out.keep hb2)
  have HV3 := Lib.hid (HV2.out.keep hb2)
  have HB3 := Lib.hid (HB2.out.trans hb2)
  clear hb2 HE1 HV2 HB2 i1
  unfold ValL.v
  have bc : Bl w2 (w2.alloc (.cells #[.bool true, .float .f64 0, .int .i64 5, .string nilS] 51)) := (Bl.refl w2).alloc _
  have HBX := Lib.hid (AC.new w2 w2.heap.size rfl [.bool true, .float .f64 0, .int .i64 5, .string nilS] 51)
  have HE4 := HE2.out.keep bc
  have HV4 := Lib.hid (HV3.out.keep bc)
  have HB4 := Lib.hid (HB3.out.trans bc)
  have e2 := HE4.c2
  have e6 := HE4.c6
  rw [show (oneStep kc (oneV kc va1) va2).origin = 254 from rfl] at e2
  rw [alive_int] at e6
  have c0 := HBX.out.cell 0 _ rfl
  have c2 := HBX.out.cell 2 _ rfl
  clear HE4 bc HE2 HV3 HB3
  go_wp2_with fail
  refine (fOrder_any _ 2 2 [va1, va2] _ HV4.out (by omega)).mono ?_
  rintro e w5 ⟨x5, n5, c5, rfl, hv5, hb5⟩
  rw [alive_order] at hv5
  obtain rfl : n5 = 2 := hv5.len.symm
  have HB5 := Lib.hid (HB4.out.trans hb5)
  clear hv5 hb5
  go_wp2_with fail
  go_ret
  exact ⟨rfl, HB5.out⟩
end Go.Proofs.YtfjjnffifnohkaaGreat
end

/- bedrockref5.SameVersions of versions that are the same. By an AI agent. -/
section
set_option linter.unusedVariables false
namespace Go.Proofs.YtfjjnffifnohkaaGreat
open Go.RowKit
attribute [local go_sem] eOp eOper eUpon

set_option maxHeartbeats 3200000 in
set_option maxRecDepth 100000 in
theorem sameVers5_yes (a b : Option Addr) (n ca cb : Nat) (vs : List VerL) (w : World) (hx : VA w a n vs) (hy : VA w b n vs) :
    Calls Tryz.prog 10 #[.slice a n ca, .slice b n cb] w fun e w' => e = .returned (.bool true) ∧ Bl w w' := by
  have hcap := hx.cap
  go_enter Tryz.func10, Tryz.ntmps10
  go_wp2_with fail
  go_loopw [5] (fun i wr => ∃ k : Nat, k ≤ n ∧ i = .int .i64 k ∧ Bl w wr) (fun i _ => n - (intOf i).toNat)
  case atStart => exact ⟨0, Nat.zero_le _, rfl, Bl.refl _⟩
  case round =>
    obtain ⟨k, hk, rfl, hb⟩ := hrel
    by_cases hlt : k < n
    · obtain ⟨bx, ox, rfl, hcx⟩ := hx.cells k hlt
      obtain ⟨by', oy, rfl, hcy⟩ := hy.cells k hlt
      have E := (hcx k hlt).keep hb
      have E2 := (hcy k hlt).keep hb
      clear hcx hcy
      generalize nthR vs k = V at *
      go_wp2_with fail
      refine wp_region_allS (by kernel_rfl) (by kernel_rfl) ?_
      have hb1 := hb.drew
      have E := E.keep ((Bl.refl wr).drew)
      have E2 := E2.keep ((Bl.refl wr).drew)
      generalize wr.drew = W at *
      obtain ⟨va, vn, vc, v1, vI⟩ := E.at_
      obtain ⟨ua, un, uc, u1', uI⟩ := E2.at_
      obtain ⟨p0, p1, p2, p3, p4, p5, p6, p7⟩ := E.all v1
      obtain ⟨q0, q1, q2, q3, q4, q5, q6, q7⟩ := E2.all u1'
      have ok := E.ok
      clear E E2 v1 u1'
      have hO : ∀ m : Ext W, _ := fun m => sameVer_yes V va vn vc ua un uc m.at (vI.keep m.bl) (uI.keep m.bl) ok
      have HO := Lib.hid hO
      clear hO vI uI
      repeat (refine wpS_step (fun K hK => ?_); go_simp; first | (refine hK _ ?_; clear hK K) | (apply Exists.intro; refine ⟨fun m => ?_, hK _ ?_⟩; (exact HO.out m); clear hK K))
      clear p0 p1 p2 p3 p4 p5 p6 p7 q0 q1 q2 q3 q4 q5 q6 q7
      refine wpS_nil ?_
      intro m
      have hb2 := hb1.trans m.bl
      generalize ExtC.at m = W9 at *
      go_wp2_with fail
      go_roundw
      case rel => exact ⟨k + 1, by omega, by go_num, hb2⟩
      case measure => simp [intOf]; omega
    · go_wp2_with fail
      go_ret
      exact ⟨rfl, hb⟩
end Go.Proofs.YtfjjnffifnohkaaGreat
end
