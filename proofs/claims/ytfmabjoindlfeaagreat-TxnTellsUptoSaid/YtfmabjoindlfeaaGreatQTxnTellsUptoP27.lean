import Derived.Test.YtfmabjoindlfeaaGreatQBkApURW
import Derived.Test.YtfmabjoindlfeaaGreatQTxnTellsUptoP7
import Derived.Test.YtfmabjoindlfeaaGreatQTxnTellsUptoP1
import Derived.Deep.QuietTactic
import Derived.BigQuiet
import Derived.Laws.AppendOwnNone
import Derived.Test.YtfmabjoindlfeaaGreatQTxnTellsUptoP23

/- bedrockbook.Book.Deep, Book.Txn: versions with their vectors, a transaction's lists. By an AI agent. -/
section
set_option linter.unusedVariables false
set_option linter.unusedSimpArgs false
namespace Go.Proofs.YtfmabjoindlfeaaGreat
open Go.RowKit

theorem FI.wider {B B' : Nat} {w : World} {v : Value} {xs : List Int} (h : FI B w v xs) (hb : B' ≤ B) : FI B' w v xs := ⟨own_mono' h.own hb, h.cap, h.wf⟩
def vecV (x : VC) : Value := .slice x.ad x.n x.ca
/-- rows of unlike types lie in unlike blocks -/
theorem own_unlike {W : World} {A B E E' z z' n m : Nat} {u v : Value} {cs ds : List Value} (hx : W.ownsRow A E z u n cs) (hp : W.ownsRow B E' z' v m ds) (hE : E ≠ E') : ∀ b, u.ownBlock = some b → v.ownBlock ≠ some b := by
  intro b e1 e2
  obtain ⟨_, ⟨e, _⟩ | ⟨g, cap, cur, e, hB, hg, _⟩⟩ := hx
  · subst e; cases e1
  · subst e
    obtain ⟨_, ⟨e3, _⟩ | ⟨g2, cap2, cur2, e3, hB2, hg2, _⟩⟩ := hp
    · subst e3; cases e2
    · subst e3
      have h1 : g = b := Option.some.inj e1
      have h2 : g2 = b := Option.some.inj e2
      subst h1; subst h2
      rw [hg] at hg2
      simp only [Option.some.injEq, Obj.cells.injEq] at hg2
      exact hE hg2.2.1
/-- versions and their vectors, all lists the call's own, from block B on -/
structure OVL (B : Nat) (W : World) (a : Option Addr) (n c : Nat) (xs : List VC) : Prop where
  row : W.ownsRow B 72 8 (.slice a n c) n (flat xs)
  len : xs.length = n
  vec : ∀ i, i < n → FI B W (vecV (el xs i)) (el xs i).at_
  ap : ∀ i j, i < n → j < n → i ≠ j → ∀ b, (vecV (el xs i)).ownBlock = some b → (vecV (el xs j)).ownBlock ≠ some b
  ok : ∀ x ∈ xs, x.act.Ok
  few : ∀ x ∈ xs, x.at_.length ≤ 50000
theorem OVL.keep {B : Nat} {W W' : World} {a : Option Addr} {n c : Nat} {xs : List VC} (h : OVL B W a n c xs) (k : Bl W W') : OVL B W' a n c xs := ⟨ownsRow_bl h.row k, h.len, fun i hi => (h.vec i hi).keep k, h.ap, h.ok, h.few⟩
theorem OVL.wider {B B' : Nat} {W : World} {a : Option Addr} {n c : Nat} {xs : List VC} (h : OVL B W a n c xs) (k : B' ≤ B) : OVL B' W a n c xs := ⟨own_mono' h.row k, h.len, fun i hi => (h.vec i hi).wider k, h.ap, h.ok, h.few⟩
theorem OVL.fr {B : Nat} {W W' : World} {S : Nat → Prop} {a : Option Addr} {n c : Nat} {xs : List VC} (h : OVL B W a n c xs) (k : Fr S W W') (h1 : ∀ b, (Value.slice a n c).ownBlock = some b → ¬ S b) (h2 : ∀ i, i < n → ∀ b, (vecV (el xs i)).ownBlock = some b → ¬ S b) : OVL B W' a n c xs :=
  ⟨k.own h.row h1, h.len, fun i hi => (h.vec i hi).fr k (h2 i hi), h.ap, h.ok, h.few⟩
theorem FI.len' {B : Nat} {W : World} {a : Option Addr} {n c : Nat} {xs : List Int} (h : FI B W (.slice a n c) xs) : xs.length = n := by
  obtain ⟨a2, c2, e⟩ := row_shape' h.own
  simp only [Value.slice.injEq] at e
  exact e.2.1.symm
theorem OVL.ia {B : Nat} {W : World} {a : Option Addr} {n c : Nat} {xs : List VC} (h : OVL B W a n c xs) : ∀ x ∈ xs, IA W x.ad x.n x.at_ := by
  intro x hx
  obtain ⟨j, hj, rfl⟩ := List.getElem_of_mem hx
  have h1 := h.vec j (by rw [← h.len]; exact hj)
  rw [el_eq hj] at h1
  obtain ⟨a2, n2, c2, e, hi⟩ := FI.si h1
  simp only [vecV, Value.slice.injEq] at e
  obtain ⟨rfl, rfl, rfl⟩ := e
  exact hi
theorem OVL.rv {B : Nat} {W : World} {a : Option Addr} {n c : Nat} {xs : List VC} (h : OVL B W a n c xs) (hn : n ≤ 1000000) : RV W a n xs := RV.own h.row h.len hn h.ia h.ok
theorem bqURW_Vec (B g : Nat) (v : Value) (ps : List Int) (T U : Nat → Prop) (w : World) (hB : B ≤ w.heap.size) (h : BQU bkURW B w g T U) (ho : FI B w v ps) (hn : ps.length ≤ 50000) (hT : ∀ b, v.ownBlock = some b → T b) :
    Calls Tryz.prog 49 #[.pointer (some ⟨g, 0, none⟩), v] w fun e w' => e = .returned (.tuple #[]) ∧ BQU bkURW B w' g (fun b => T b ∧ v.ownBlock ≠ some b) U ∧ Fr (fun b => ¬ (T b ∨ U b)) w w' := by
  obtain ⟨a, c, e⟩ := row_shape' ho.own
  subst e
  have H := Lib.hid (bqURW_Vecs B g a ps.length c ps T U _ hB h ho.own rfl hn ho.wf hT)
  clear h ho hn hT hB
  go_enter Tryz.func49, Tryz.ntmps49
  go_wp2_with fail
  refine H.out.mono ?_
  rintro e W' ⟨rfl, hq, hf⟩
  have HQ := Lib.hid hq
  have HF := Lib.hid hf
  clear hq hf H
  go_wp2_with fail
  go_end0
  exact ⟨rfl, HQ.out, HF.out⟩
set_option maxHeartbeats 2000000 in
set_option maxRecDepth 100000 in
theorem deep_any (B g : Nat) (a : Option Addr) (n c : Nat) (xs : List VC) (T : Nat → Prop) (w : World) (hB : B ≤ w.heap.size) (h : BQ bkURW B w g T) (hl : OVL B w a n c xs) (hn : n ≤ 50000) (hT : ∀ b, (Value.slice a n c).ownBlock = some b → T b) (hTv : ∀ i, i < n → ∀ b, (vecV (el xs i)).ownBlock = some b → T b) :
    Calls Tryz.prog 16 #[.pointer (some ⟨g, 0, none⟩), .slice a n c] w fun e w' => e = .returned (.tuple #[]) ∧ BQ bkURW B w' g (fun b => T b ∧ (Value.slice a n c).ownBlock ≠ some b ∧ ∀ i, i < n → (vecV (el xs i)).ownBlock ≠ some b) ∧ Fr (fun b => ¬ T b) w w' := by
  obtain ⟨U, hU⟩ : ∃ U : Nat → Prop, U = fun b => (Value.slice a n c).ownBlock = some b ∨ ∃ i, i < n ∧ (vecV (el xs i)).ownBlock = some b := ⟨_, rfl⟩
  have hUT : ∀ b, U b → T b := fun b hb => by
    rw [hU] at hb
    rcases hb with q | ⟨i, hi, q⟩
    · exact hT b q
    · exact hTv i hi b q
  have HQ0 := Lib.hid (BQ.bqu h hUT)
  have HL := Lib.hid hl
  have HUE := Lib.hid hU
  have HTR := Lib.hid hT
  have HTV := Lib.hid hTv
  clear h hl hU hT hTv hUT
  go_enter Tryz.func16, Tryz.ntmps16
  go_wp2_with fail
  go_loopw [4] (fun t wr => ∃ k : Nat, k ≤ n ∧ t = .int .i64 k ∧ BQU bkURW B wr g (fun b => T b ∧ ∀ i, i < k → (vecV (el xs i)).ownBlock ≠ some b) U ∧ Fr (fun b => ¬ T b) w wr) (fun t _ => n - (intOf t).toNat)
  case atStart => exact ⟨0, Nat.zero_le _, rfl, HQ0.out.less (fun b hb => hb.1) (fun b hb => hb), Fr.refl _ _⟩
  case round =>
    obtain ⟨k, hk, rfl, hbq, hfr⟩ := hrel
    have HQ := Lib.hid hbq
    have HFR := Lib.hid hfr
    have HLK := Lib.hid (HL.out.fr hfr (fun b e => not_not_intro (HTR.out b e)) (fun i hi b e => not_not_intro (HTV.out i hi b e)))
    clear hbq hfr HQ0
    by_cases hlt : k < n
    · have hrv := HLK.out.rv (by omega)
      obtain ⟨bl, ol, rfl, -⟩ := hrv.cells k hlt
      have c1 := hrv.get hlt 1 (by omega)
      rw [(vcs_get (el xs k)).2.1] at c1
      have HV := Lib.hid (HLK.out.vec k hlt)
      have hkx : k < xs.length := by rw [HLK.out.len]; exact hlt
      have hfew := HLK.out.few _ (el_memR hkx)
      have HTK := Lib.hid (fun b (e : (vecV (el xs k)).ownBlock = some b) => (show T b ∧ ∀ i, i < k → (vecV (el xs i)).ownBlock ≠ some b from ⟨HTV.out k hlt b e, fun i hi e2 => HLK.out.ap i k (by omega) hlt (by omega) b e2 e⟩))
      have hBw : B ≤ wr.heap.size := Nat.le_trans hB HFR.out.size
      obtain ⟨x, hxe⟩ : ∃ x, el xs k = x := ⟨_, rfl⟩
      have HXE := Lib.hid hxe
      rw [hxe] at c1 HV hfew
      have HTK2 : Hid (∀ b, (vecV x).ownBlock = some b → T b ∧ ∀ i, i < k → (vecV (el xs i)).ownBlock ≠ some b) := Lib.hid (by rw [← hxe]; exact HTK.out)
      clear hrv hkx hxe HTK
      go_wp2_with fail
      clear c1
      refine (bqURW_Vec B g (vecV x) x.at_ _ U _ hBw HQ.out HV.out hfew HTK2.out).mono ?_
      rintro e w2 ⟨rfl, hq, hf⟩
      rw [← HXE.out] at hq
      have HQ2 := Lib.hid (hq.less (T' := fun b => T b ∧ ∀ i, i < k + 1 → (vecV (el xs i)).ownBlock ≠ some b) (U' := U) (fun b hb => ⟨⟨hb.1, fun i hi => hb.2 i (by omega)⟩, hb.2 k (by omega)⟩) (fun b hb => hb))
      have HF2 := Lib.hid (HFR.out.trans (hf.wider (fun b q ht => q (by
        by_cases e : ∀ i, i < k → (vecV (el xs i)).ownBlock ≠ some b
        · exact .inl ⟨ht, e⟩
        · right
          rw [HUE.out]
          obtain ⟨i, hi⟩ := Classical.not_forall.1 e
          obtain ⟨hi1, hi2⟩ := Classical.not_imp.1 hi
          exact .inr ⟨i, by omega, Classical.not_not.1 hi2⟩))))
      clear hq hf HQ HFR HV HLK
      go_wp2_with fail
      go_roundw
      case rel => exact ⟨k + 1, by omega, by go_num, HQ2.out, HF2.out⟩
      case measure => simp [intOf]; omega
    · have hkn : k = n := by omega
      subst hkn
      have hBw : B ≤ wr.heap.size := Nat.le_trans hB HFR.out.size
      go_wp2_with fail
      refine (bqURW_Versions B g a k c xs _ U _ hBw HQ.out HLK.out.row HLK.out.len hn HLK.out.ia HLK.out.ok (fun x hx b off e h0 => ?_) (fun b e => ⟨HTR.out b e, fun i hi e2 => own_unlike (HLK.out.vec i hi).own HLK.out.row (by decide) b e2 e⟩)).mono ?_
      · rw [HUE.out]
        obtain ⟨j, hj, rfl⟩ := List.getElem_of_mem hx
        refine .inr ⟨j, by rw [← HLK.out.len]; exact hj, ?_⟩
        rw [el_eq hj]
        unfold vecV
        rw [e]; rfl
      · rintro e w2 ⟨rfl, hq, hf⟩
        have HQ2 := Lib.hid (hq.bq.less (T' := fun b => T b ∧ (Value.slice a k c).ownBlock ≠ some b ∧ ∀ i, i < k → (vecV (el xs i)).ownBlock ≠ some b) (fun b hb => ⟨⟨hb.1, hb.2.2⟩, hb.2.1⟩))
        have HF2 := Lib.hid (HFR.out.trans (hf.wider (fun b q ht => q (by
          by_cases e : ∀ i, i < k → (vecV (el xs i)).ownBlock ≠ some b
          · exact .inl ⟨ht, e⟩
          · right
            rw [HUE.out]
            obtain ⟨i, hi⟩ := Classical.not_forall.1 e
            obtain ⟨hi1, hi2⟩ := Classical.not_imp.1 hi
            exact .inr ⟨i, by omega, Classical.not_not.1 hi2⟩))))
        clear hq hf
        go_wp2_with fail
        go_end0
        exact ⟨rfl, HQ2.out, HF2.out⟩
end Go.Proofs.YtfmabjoindlfeaaGreat
end

/- bedrockbook.Book.Txn: a transaction's lists. By an AI agent. -/
section
set_option linter.unusedVariables false
set_option linter.unusedSimpArgs false
namespace Go.Proofs.YtfmabjoindlfeaaGreat
open Go.RowKit

set_option maxHeartbeats 2000000 in
set_option maxRecDepth 100000 in
theorem bookTxn_any (B g : Nat) (o num prev : Int) (da : Option Addr) (dn dc : Nat) (ds : List Int) (aa : Option Addr) (an ac : Nat) (xs : List Int) (wa : Option Addr) (wn wc : Nat) (ws : List (ByteArray × ActL)) (T : Nat → Prop) (w : World) (hB : B ≤ w.heap.size) (h : BQ bkURW B w g T)
    (hd : FI B w (.slice da dn dc) ds) (hx : FI B w (.slice aa an ac) xs) (hw : w.ownsRow B 63 5 (.slice wa wn wc) wn (cellsW ws)) (hwl : ws.length = wn) (hok : ∀ p ∈ ws, WrOk p) (hds : ds.length ≤ 50000) (hxs : xs.length ≤ 50000) (hwn : wn ≤ 50000)
    (hT1 : ∀ b, (Value.slice da dn dc).ownBlock = some b → T b) (hT2 : ∀ b, (Value.slice aa an ac).ownBlock = some b → T b) (hT3 : ∀ b, (Value.slice wa wn wc).ownBlock = some b → T b) (hap : ∀ b, (Value.slice da dn dc).ownBlock = some b → (Value.slice aa an ac).ownBlock ≠ some b) :
    Calls Tryz.prog 18 #[.pointer (some ⟨g, 0, none⟩), .agg #[.int .i64 o, .int .i64 num, .int .i64 prev, .slice da dn dc, .slice aa an ac, .slice wa wn wc]] w fun e w' => e = .returned (.tuple #[]) ∧
      BQ bkURW B w' g (fun b => T b ∧ (Value.slice da dn dc).ownBlock ≠ some b ∧ (Value.slice aa an ac).ownBlock ≠ some b ∧ (Value.slice wa wn wc).ownBlock ≠ some b) ∧ Fr (fun b => ¬ T b) w w' := by
  have hg := AC.new w _ rfl [.int .i64 o, .int .i64 num, .int .i64 prev, .slice da dn dc, .slice aa an ac, .slice wa wn wc] 26
  have hb := (Bl.refl w).alloc (.cells [Value.int .i64 o, .int .i64 num, .int .i64 prev, .slice da dn dc, .slice aa an ac, .slice wa wn wc].toArray 26)
  have hgl := hg.lt
  obtain ⟨W, hW⟩ : ∃ W, w.alloc (.cells [Value.int .i64 o, .int .i64 num, .int .i64 prev, .slice da dn dc, .slice aa an ac, .slice wa wn wc].toArray 26) = W := ⟨_, rfl⟩
  rw [hW] at hg hb hgl
  obtain ⟨T2, hT⟩ : ∃ T2 : Nat → Prop, T2 = fun b => T b ∨ w.heap.size ≤ b ∧ b < W.heap.size := ⟨_, rfl⟩
  have hq : BQ bkURW B W g T2 := by rw [hT]; exact h.more hb
  have HQ := Lib.hid (hq.bqu (U := T2) (fun b hb => hb))
  have HT12 := Lib.hid (show ∀ b, T b → T2 b from fun b hb => by rw [hT]; exact .inl hb)
  have HTG := Lib.hid (show T2 w.heap.size from by rw [hT]; exact .inr ⟨Nat.le_refl _, hgl⟩)
  have HD := Lib.hid (hd.keep hb)
  have HX := Lib.hid (hx.keep hb)
  have HW := Lib.hid (ownsRow_bl hw hb)
  have HF0 := Lib.hid ((Fr.refl (fun b => ¬ T b) w).bl hb)
  have HT1 := Lib.hid hT1
  have HT2 := Lib.hid hT2
  have HT3 := Lib.hid hT3
  have HAP := Lib.hid hap
  have HG := Lib.hid hg
  have HOK := Lib.hid hok
  have HWL := Lib.hid hwl
  have HDN : Hid (∀ b, (Value.slice wa wn wc).ownBlock = some b → (Value.slice da dn dc).ownBlock ≠ some b) := Lib.hid (fun b e e2 => own_unlike hd.own hw (by decide) b e2 e)
  have hBW := Nat.le_trans hB hb.size
  clear h hq hd hx hw hT1 hT2 hT3 hap hg hok hwl hT hb hgl
  have HWE := Lib.hid hW
  clear hW
  have c3 := HG.out.cell 3 _ rfl
  have e3 : (w.alloc (.cells #[Value.int .i64 o, .int .i64 num, .int .i64 prev, .slice da dn dc, .slice aa an ac, .slice wa wn wc] 26)).cell? ⟨w.heap.size, 3, none⟩ = some (.slice da dn dc) := by
    have := HWE.out
    subst this
    exact c3
  go_enter Tryz.func18, Tryz.ntmps18
  go_wp2_with fail
  rw [show w.alloc (.cells #[Value.int .i64 o, .int .i64 num, .int .i64 prev, .slice da dn dc, .slice aa an ac, .slice wa wn wc] 26) = W from HWE.out]
  clear e3 c3 HWE
  refine (bqURW_Vec B g (.slice da dn dc) ds _ T2 _ hBW HQ.out HD.out hds (fun b e => HT12.out b (HT1.out b e))).mono ?_
  rintro e W1 ⟨rfl, hq, hf⟩
  have hf' : Fr (fun b => ¬ T2 b) W W1 := hf.wider (fun b q s => q (.inl s))
  have HQ1 := Lib.hid hq
  have HG1 := Lib.hid (hf'.ac HG.out (not_not_intro HTG.out))
  have HX1 := Lib.hid (HX.out.fr hf' (fun b e => not_not_intro (HT12.out b (HT2.out b e))))
  have HW1 := Lib.hid (hf'.own HW.out (fun b e => not_not_intro (HT12.out b (HT3.out b e))))
  have HF1 := Lib.hid (HF0.out.trans (hf'.wider (fun b q s => q (HT12.out b s))))
  have hB1 := Nat.le_trans hBW hf'.size
  clear hq hf hf' HQ HG HX HW HF0 HD
  have c4 := HG1.out.cell 4 _ rfl
  go_wp2_with fail
  clear c4
  refine (bqURW_Vec B g (.slice aa an ac) xs _ T2 _ hB1 HQ1.out HX1.out hxs (fun b e => ⟨HT12.out b (HT2.out b e), fun e2 => HAP.out b e2 e⟩)).mono ?_
  rintro e W2 ⟨rfl, hq, hf⟩
  have hf' : Fr (fun b => ¬ T2 b) W1 W2 := hf.wider (fun b q s => q (.inr s))
  have HQ2 := Lib.hid hq
  have HG2 := Lib.hid (hf'.ac HG1.out (not_not_intro HTG.out))
  have HW2 := Lib.hid (hf'.own HW1.out (fun b e => not_not_intro (HT12.out b (HT3.out b e))))
  have HXN := Lib.hid (fun b (e : (Value.slice aa an ac).ownBlock = some b) => own_unlike HX1.out.own HW1.out (by decide) b e)
  have HF2 := Lib.hid (HF1.out.trans (hf'.wider (fun b q s => q (HT12.out b s))))
  have hB2 := Nat.le_trans hB1 hf'.size
  clear hq hf hf' HQ1 HG1 HW1 HF1 HX1
  have c5 := HG2.out.cell 5 _ rfl
  go_wp2_with fail
  clear c5
  refine (bqURW_Writes B g wa wn wc ws _ T2 _ hB2 HQ2.out HW2.out HWL.out hwn HOK.out (fun b e => ⟨⟨HT12.out b (HT3.out b e), HDN.out b e⟩, fun e2 => HXN.out b e2 e⟩)).mono ?_
  rintro e W3 ⟨rfl, hq, hf⟩
  have hf' : Fr (fun b => ¬ T2 b) W2 W3 := hf.wider (fun b q s => q (.inr s))
  have HQ3 := Lib.hid (hq.bq.less (T' := fun b => T b ∧ (Value.slice da dn dc).ownBlock ≠ some b ∧ (Value.slice aa an ac).ownBlock ≠ some b ∧ (Value.slice wa wn wc).ownBlock ≠ some b) (fun b hb => ⟨⟨⟨HT12.out b hb.1, hb.2.1⟩, hb.2.2.1⟩, hb.2.2.2⟩))
  have HF3 := Lib.hid (HF2.out.trans (hf'.wider (fun b q s => q (HT12.out b s))))
  clear hq hf hf'
  go_wp2_with fail
  go_end0
  exact ⟨rfl, HQ3.out, HF3.out⟩
end Go.Proofs.YtfmabjoindlfeaaGreat
end

/- parts of other texts. By an AI agent. -/
section
set_option linter.unusedVariables false
set_option linter.unusedSimpArgs false
namespace Go.Proofs.YtfmabjoindlfeaaGreat
open Go.RowKit

set_option maxHeartbeats 400000 in
theorem equal_any (a b : Option Addr) (n m ca cb : Nat) (xs ys : List Int) (w : World) (hx : IA w a n xs) (hy : IA w b m ys) :
    Calls Tryz.prog 124 #[.slice a n ca, .slice b m cb] w fun e w' => e = .returned (.bool (decide (xs = ys))) ∧ Bl w w' := by
  have hx1 := hx.cap
  have hy1 := hy.cap
  by_cases hl : n = m
  · subst hl
    have HLL := Lib.hid (hx.len.trans hy.len.symm)
    have HX := Lib.hid hx.len
    have h2 : ((n : Int) != (n : Int)) = false := by simp
    go_enter Tryz.func124, Tryz.ntmps124
    go_wp2
    go_loopw [13] (fun i w' => ∃ k : Nat, k ≤ n ∧ i = .int .i64 k ∧ Bl w w' ∧ ∀ j, j < k → nth xs j = nth ys j) (fun i _ => n - (intOf i).toNat)
    case atStart => exact ⟨0, Nat.zero_le _, rfl, Bl.refl _, fun j h => by omega⟩
    case round =>
      obtain ⟨k, hk, rfl, hbl, hle⟩ := hrel
      have HLE := Lib.hid hle; clear hle
      by_cases hlt : k < n
      · obtain ⟨ba, oa, rfl, hca⟩ := hx.cells k hlt
        obtain ⟨bb, ob, rfl, hcb⟩ := hy.cells k hlt
        have ha := hbl.cell (hca k hlt)
        have hb := hbl.cell (hcb k hlt)
        clear hca hcb
        by_cases hgt : nth xs k = nth ys k
        · have hbo : (nth xs k != nth ys k) = false := by simp [hgt]
          have HE := Lib.hid hgt; clear hgt
          go_wp2
          go_quiet (fail)
          go_wp2
          go_roundw
          case rel => exact ⟨k + 1, by omega, by go_num, hbl.drewN _, fun j hj => by
            by_cases e : j = k
            · subst e; exact HE.out
            · exact HLE.out j (by omega)⟩
          case measure => simp [intOf]; omega
        · have hbo : (nth xs k != nth ys k) = true := by simp [hgt]
          have HR := Lib.hid (show decide (xs = ys) = false from decide_eq_false (fun e => hgt (by rw [e])))
          clear hgt
          go_wp2
          go_quiet (fail)
          go_wp2
          go_ret
          exact ⟨ret_bool HR.out.symm, hbl.drewN _⟩
      · have HR := Lib.hid (show decide (xs = ys) = true from decide_eq_true (getD_ext HLL.out (fun j hj => HLE.out j (by rw [HX.out] at hj; omega))))
        go_wp2
        go_ret
        exact ⟨ret_bool HR.out.symm, hbl⟩
  · have h2 : ((n : Int) != (m : Int)) = true := by simp; omega
    have HR := Lib.hid (show decide (xs = ys) = false from decide_eq_false (fun e => hl (by rw [← hx.len, ← hy.len, e])))
    go_enter Tryz.func124, Tryz.ntmps124
    go_wp2
    go_ret
    exact ⟨ret_bool HR.out.symm, Bl.refl _⟩
theorem same_any (a b : Option Addr) (n m ca cb : Nat) (xs ys : List Int) (w : World) (hx : IA w a n xs) (hy : IA w b m ys) :
    Calls Tryz.prog 34 #[.slice a n ca, .slice b m cb] w fun e w' => e = .returned (.bool (decide (xs = ys))) ∧ Bl w w' := by
  go_enter Tryz.func34, Tryz.ntmps34
  go_wp2_with fail
  refine (equal_any a b n m ca cb xs ys _ hx hy).mono ?_
  rintro e w' ⟨rfl, hb⟩
  go_wp2
  go_ret
  exact ⟨rfl, hb⟩
end Go.Proofs.YtfmabjoindlfeaaGreat
end

/- slices.Clone of a vector. By an AI agent. -/
section
set_option linter.unusedVariables false
set_option linter.unusedSimpArgs false
namespace Go.Proofs.YtfmabjoindlfeaaGreat
open Go.RowKit

set_option maxHeartbeats 400000 in
theorem vclone_any (a : Option Addr) (n ca : Nat) (xs : List Int) (w : World) (hx : IA w a n xs) :
    Calls Tryz.prog 25 #[.slice a n ca] w fun e w' => ∃ v, e = .returned v ∧ FI w.heap.size w' v xs ∧ Bl w w' := by
  obtain ⟨i0, hi, hz0, hz1, hz2⟩ := info_parts info_int
  have hx1 := hx.cap
  have hnil := fun (w : World) => Lib.run_eql_slice_nil w 23 3 a n ca 0 0 Tryz.underlying23
  cases a with
  | none =>
    have hn : n = 0 := by
      rcases Nat.eq_zero_or_pos n with h | h
      · exact h
      · obtain ⟨_, _, h', _⟩ := hx.cells 0 h
        simp at h'
    have hxs : xs = [] := List.eq_nil_of_length_eq_zero (hx.len.trans hn)
    subst hn hxs
    go_enter Tryz.func25, Tryz.ntmps25
    go_wp2
    go_ret
    exact ⟨_, rfl, FI.nil _ _, Bl.refl _⟩
  | some ad =>
    have hcells : ∀ j u, (xs.map (Value.int .i64))[j]? = some u → ∀ o, (w.alloc o).cell? (ad.add j) = some u := by
      intro j u hj o
      have hjl : j < n := by
        have := (List.getElem?_eq_some_iff.1 hj).1
        simpa [hx.len] using this
      obtain ⟨b, off, e, hc⟩ := hx.cells j hjl
      obtain rfl := Option.some.inj e
      have h1 := hc j hjl
      rw [← Go.WideShapes.add_plain] at h1
      rw [((Bl.refl w).alloc o).cell h1]
      have hjx : j < xs.length := by rw [hx.len]; exact hjl
      simp [hjx] at hj
      rw [nth_eq hjx, hj]
    have HC := Lib.hid hcells; clear hcells
    have HX := Lib.hid hx
    have HL := Lib.hid hx.len
    clear hx
    go_enter Tryz.func25, Tryz.ntmps25
    go_wp2_with (at_builtin; refine wpList_append_own _ rfl _ _ 23 rfl (w.heap.size) 3 i0 (.int .i64 0) 1 8 Tryz.underlying23 hi hz0 hz1 hz2 rfl (by decide) _ 0 [] rfl (World.ownsRow_lit w #[] 0 (Nat.le_refl _) (by decide) rfl) ad n ca (xs.map (Value.int .i64)) rfl ?c1 ?c2 ?c3 ?c4 ?c5 ?c6 ?_)
    case c1 => simp [HL.out]
    case c2 => intro j u hj; exact HC.out j u hj _
    case c3 => intro u hu; simp at hu; obtain ⟨x, _, rfl⟩ := hu; rfl
    case c4 => unfold maxLen; omega
    case c5 => omega
    case c6 => simp
    intro v' w1 hown' hgrow _
    have hb : Bl w w1 := ((Bl.refl w).alloc _).grown hgrow (by simp) (fun k hk => by simp [Value.ownBlock] at hk; omega)
    have hf : FI w.heap.size w1 v' xs := ⟨by simpa [OI, HL.out] using hown', by rw [HL.out]; exact hx1, HX.out.wf⟩
    clear hown' hgrow
    go_wp2
    go_ret
    exact ⟨_, rfl, hf, hb⟩
end Go.Proofs.YtfmabjoindlfeaaGreat
end

/- vec.With. By an AI agent. -/
section
set_option linter.unusedVariables false
set_option linter.unusedSimpArgs false
namespace Go.Proofs.YtfmabjoindlfeaaGreat
open Go.RowKit

set_option maxHeartbeats 400000 in
theorem with_any (a : Option Addr) (n ca : Nat) (xs : List Int) (i t : Int) (w : World) (hx : IA w a n xs) (ht : -9223372036854775808 ≤ t ∧ t ≤ 9223372036854775807) :
    Calls Tryz.prog 35 #[.slice a n ca, .int .i64 i, .int .i64 t] w fun e w' => ∃ v, e = .returned v ∧ FI w.heap.size w' v (withL xs i t) ∧ Bl w w' := by
  have HX := Lib.hid hx.len
  by_cases hin : 0 ≤ i ∧ i < n
  · obtain ⟨h0, h1⟩ := hin
    obtain ⟨k, rfl⟩ := Int.eq_ofNat_of_zero_le h0
    have hkn : k < n := by omega
    go_enter Tryz.func35, Tryz.ntmps35
    go_wp2_with fail
    refine (vclone_any a n ca xs w hx).mono ?_
    rintro e w' ⟨v, rfl, hf, hb⟩
    have hn0 := hf.own.1
    obtain ⟨h1', ⟨rfl, h2⟩ | ⟨g, cap, cur, rfl, hB, hg, hn, hm, hs, htk⟩⟩ := hf.own
    · exfalso; have := HX.out; omega
    · have hown : w'.ownsRow w.heap.size 3 1 (.slice (some ⟨g, 0, none⟩) xs.length cap) xs.length (xs.map (Value.int .i64)) := ⟨h1', .inr ⟨g, cap, cur, rfl, hB, hg, hn, hm, hs, htk⟩⟩
      have hst := hown.stored k (.int .i64 t)
      have hc : w'.cell? ⟨g, k, none⟩ = some (.int .i64 (nth xs k)) := by
        rw [hown.cellAt k (by rw [HX.out]; omega)]
        have : k < xs.length := by rw [HX.out]; exact hkn
        simp [nth_eq this, this]
      have hfz : w'.frozen? ⟨g, k, none⟩ = false := hown.frozenAt k
      have hkx : k < xs.length := by rw [HX.out]; exact hkn
      have hnm : xs.length ≤ 9223372036854775807 := by have := hf.cap; omega
      have HST := Lib.hid hst
      have HF := Lib.hid hf
      clear hst hown htk hs hg h1' hf hn0
      go_wp2
      go_ret
      refine ⟨_, rfl, ⟨?_, ?_, ?_⟩, hb.grown HST.out.2 hb.size (fun k hk => by cases hk; exact hB)⟩
      · have := HST.out.1
        simpa [OI, withL, List.map_set] using this
      · rw [withL_len]; exact HF.out.cap
      · intro x hx
        unfold withL at hx
        rw [if_pos h0] at hx
        rcases List.mem_or_eq_of_mem_set hx with h | h
        · exact HF.out.wf x h
        · rw [h]; exact ht
  · have hw : withL xs i t = xs := by
      unfold withL
      split
      · rw [List.set_eq_of_length_le]; have := HX.out; omega
      · rfl
    have HW := Lib.hid hw; clear hw
    by_cases h0 : 0 ≤ i
    · have h1 : ¬ i < n := fun h => hin ⟨h0, h⟩
      clear hin
      go_enter Tryz.func35, Tryz.ntmps35
      go_wp2_with fail
      refine (vclone_any a n ca xs w hx).mono ?_
      rintro e w' ⟨v, rfl, hf, hb⟩
      obtain ⟨a', n', cap', rfl, hI⟩ := hf.si
      have hnn : n' = n := hI.len.symm.trans HX.out
      subst hnn
      go_wp2
      go_ret
      exact ⟨_, rfl, by rw [HW.out]; exact hf, hb⟩
    · clear hin
      go_enter Tryz.func35, Tryz.ntmps35
      go_wp2_with fail
      refine (vclone_any a n ca xs w hx).mono ?_
      rintro e w' ⟨v, rfl, hf, hb⟩
      obtain ⟨a', n', cap', rfl, hI⟩ := hf.si
      go_wp2
      go_ret
      exact ⟨_, rfl, by rw [HW.out]; exact hf, hb⟩
end Go.Proofs.YtfmabjoindlfeaaGreat
end
