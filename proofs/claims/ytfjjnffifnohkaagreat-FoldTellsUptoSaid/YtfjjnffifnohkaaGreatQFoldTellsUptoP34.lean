import Derived.Test.YtfjjnffifnohkaaGreatQFoldTellsUptoP18
import Derived.Test.YtfjjnffifnohkaaGreatQFoldTellsUptoP2
import Derived.Test.YtfjjnffifnohkaaGreatQFoldTellsUptoP33
import Derived.Test.YtfjjnffifnohkaaGreatQFoldTellsUptoP24
import Derived.Deep.DeepCutAuto

/- values that lie one behind the other. By an AI agent. -/
section
namespace Go.Proofs.YtfjjnffifnohkaaGreat
open Go.RowKit

/-- n values that lie one behind the other -/
def LA (W : World) (a : Option Addr) (n : Nat) (vs : Nat → Value) : Prop := ∀ j, j < n → ∃ b off, a = some ⟨b, off, none⟩ ∧ ∀ j, j < n → W.cell? ⟨b, off + j, none⟩ = some (vs j)
theorem LA.keep {W W' : World} {a : Option Addr} {n : Nat} {vs : Nat → Value} (h : LA W a n vs) (hb : Bl W W') : LA W' a n vs := fun j hj => by
  obtain ⟨b, off, e, hc⟩ := h j hj
  exact ⟨b, off, e, fun j hj => hb.cell (hc j hj)⟩
theorem Fr.la {S : Nat → Prop} {w w' : World} (h : Fr S w w') {a : Option Addr} {n : Nat} {vs : Nat → Value} (hl : LA w a n vs) (hs : ∀ b off, a = some ⟨b, off, none⟩ → ¬ S b) : LA w' a n vs := fun j hj => by
  obtain ⟨b, off, e, hc⟩ := hl j hj
  exact ⟨b, off, e, fun j hj => h.cell (hc j hj) (hs b off e)⟩
theorem Fr.ac {S : Nat → Prop} {w w' : World} (h : Fr S w w') {g : Nat} {cs : List Value} (ha : AC w g cs) (hs : ¬ S g) : AC w' g cs := by
  obtain ⟨t, ha⟩ := ha
  exact ⟨t, by rw [h.block g (lt_of_heap ha) hs]; exact ha⟩
theorem row_la {W : World} {B n : Nat} {E : TypeId} {out : Value} {gs : Nat → Value} (h : W.ownsRow B E 1 out n ((List.range n).map gs)) : ∃ oa oc, out = .slice oa n oc ∧ LA W oa n gs := by
  obtain ⟨h1, ⟨rfl, h2⟩ | ⟨g, cap, cur, rfl, hB, hg, hn, hm, hs, ht⟩⟩ := h
  · subst h2
    exact ⟨none, 0, rfl, fun j hj => absurd hj (Nat.not_lt_zero _)⟩
  · refine ⟨some ⟨g, 0, none⟩, cap, rfl, fun j0 hj0 => ⟨g, 0, rfl, fun j hj => ?_⟩⟩
    have := World.ownsRow.cellAt (w := W) (base := B) (e := E) (size := 1) (g := g) (n := n) (cap := cap) ⟨h1, .inr ⟨g, cap, cur, rfl, hB, hg, hn, hm, hs, ht⟩⟩ j (by omega)
    rw [Nat.zero_add, this]
    simp [hj]
end Go.Proofs.YtfjjnffifnohkaaGreat
end

/- bedrockbook over vectors that are kept: stillVecs, markedVecs. By an AI agent. -/
section
namespace Go.Proofs.YtfjjnffifnohkaaGreat
open Go.RowKit
attribute [local go_sem] eOp eOper eUpon


theorem stillVecs_any (g : Nat) (va ua : Option Addr) (n cv cu : Nat) (vs us : Nat → Value) (xs : Nat → List Int) (w : World) (hn : n ≤ 250) (hc4 : w.cell? ⟨g, 4, none⟩ = some (.slice va n cv)) (hc5 : w.cell? ⟨g, 5, none⟩ = some (.slice ua n cu))
    (hv : LA w va n vs) (hu : LA w ua n us) (h : ∀ j, j < n → SI w (vs j) (xs j) ∧ SI w (us j) (xs j)) :
    Calls Tryz.prog 55 #[.pointer (some ⟨g, 0, none⟩)] w fun e w' => e = .returned (.bool true) ∧ Bl w w' := by
  have HC4 := Lib.hid hc4
  have HC5 := Lib.hid hc5
  have HH := Lib.hid h
  clear hc4 hc5 h
  go_enter Tryz.func55, Tryz.ntmps55
  go_wp2_with fail
  go_loopw [3] (fun i w' => ∃ k : Nat, k ≤ n ∧ i = .int .i64 k ∧ Bl w w') (fun i _ => n - (intOf i).toNat)
  case atStart => exact ⟨0, Nat.zero_le _, rfl, Bl.refl _⟩
  case round =>
    obtain ⟨k, hk, rfl, hbl⟩ := hrel
    have c4 := hbl.cell HC4.out
    by_cases hlt : k < n
    · obtain ⟨b, off, rfl, hcv⟩ := hv k hlt
      obtain ⟨b2, off2, rfl, hcu⟩ := hu k hlt
      obtain ⟨⟨a1, n1, c1, e1, I1⟩, ⟨a2, n2, c2, e2, I2⟩⟩ := HH.out k hlt
      have HV := Lib.hid (hcv k hlt)
      have HU := Lib.hid (hcu k hlt)
      rw [e1] at HV
      rw [e2] at HU
      have HS := Lib.hid (fun (W : World) (hb : Bl w W) => (show Calls Tryz.prog 143 #[.slice a1 n1 c1, .slice a2 n2 c2] W fun e w' => e = .returned (.bool true) ∧ Bl W w' from by
        have := sameVecs_any a1 a2 n1 n2 c1 c2 (xs k) (xs k) W (I1.keep hb) (I2.keep hb)
        rwa [decide_eq_true (rfl : xs k = xs k)] at this))
      clear e1 e2 I1 I2 hcv hcu
      go_upto_region 4 with fail
      refine wp_region_extall (by kernel_rfl) (by kernel_rfl) ?_
      have HBZ := Lib.hid hbl.drew
      generalize World.drew _ = Z at *
      clear c4
      have p0 : ∀ q : Ext Z, _ := fun q => (HBZ.out.trans q.bl).cell HC4.out
      have p1 : ∀ q : Ext Z, _ := fun q => (HBZ.out.trans q.bl).cell HC5.out
      have p2 : ∀ q : Ext Z, _ := fun q => (HBZ.out.trans q.bl).cell HV.out
      have p3 : ∀ q : Ext Z, _ := fun q => (HBZ.out.trans q.bl).cell HU.out
      repeat (refine wpE_step (fun K hK => ?_); go_simp; first | (refine hK _ ?_; clear hK K) | (apply Exists.intro; refine ⟨fun q => ?_, hK _ ?_⟩; (with_reducible exact HS.out _ (HBZ.out.trans q.bl)); clear hK K))
      refine wpE_nil ?_
      intro q9
      have HBX := Lib.hid (HBZ.out.trans q9.bl)
      clear p0 p1 p2 p3 HBZ
      generalize ExtC.at q9 = X at *
      go_wp2_with fail
      go_roundw
      case rel => exact ⟨k + 1, by omega, by go_num, HBX.out⟩
      case measure => simp [intOf]; omega
    · go_wp2_with fail
      go_ret
      exact ⟨rfl, hbl⟩

theorem markedVecs_any (la : Option Addr) (n lc : Nat) (vs : Nat → Value) (ms : Nat → Nat) (w : World) (hn : n ≤ 250) (hv : LA w la n vs) (h : ∀ j, j < n → SI w (vs j) (markL j 0 (ms j)) ∧ ms j ≤ 100000) :
    Calls Tryz.prog 100 #[.slice la n lc] w fun e w' => e = .returned (.bool true) ∧ Bl w w' := by
  have HH := Lib.hid h
  clear h
  go_enter Tryz.func100, Tryz.ntmps100
  go_wp2_with fail
  go_loopw [3] (fun i w' => ∃ k : Nat, k ≤ n ∧ i = .int .i64 k ∧ Bl w w') (fun i _ => n - (intOf i).toNat)
  case atStart => exact ⟨0, Nat.zero_le _, rfl, Bl.refl _⟩
  case round =>
    obtain ⟨k, hk, rfl, hbl⟩ := hrel
    by_cases hlt : k < n
    · obtain ⟨b, off, rfl, hcv⟩ := hv k hlt
      obtain ⟨⟨a1, n1, c1, e1, I1⟩, hm⟩ := HH.out k hlt
      have HV := Lib.hid (hcv k hlt)
      rw [e1] at HV
      have hn1 : ms k = n1 := by have := I1.len; rw [markL_len] at this; exact this
      rw [hn1] at I1 hm
      have HI := Lib.hid I1
      clear e1 I1 hcv hn1
      go_upto_region 4 with fail
      refine wp_region_idx [0, 1, 2, 3, 4, 5, 6, 7, 8, 9] 3 (Bl w) (fun _ _ h k => h.trans k) hbl.drew (by kernel_rfl) rfl (by kernel_rfl) (by kernel_rfl) ?_
      have HBZ := Lib.hid hbl.drew
      generalize World.drew _ = Z at *
      clear hbl
      haveI : Nonempty (ExtC (Bl w)) := ⟨⟨Z, HBZ.out⟩⟩
      have p2 : ∀ q : ExtC (Bl w), _ := fun q => q.ok.cell HV.out
      repeat (refine wpI_step rfl (fun K hK => ?_); go_simp; first | (refine hK _ ?_; clear hK K) | (apply Exists.intro; refine ⟨fun q => ?_, hK _ ?_⟩; fail; clear hK K))
      refine wpI_nil ?_
      clear p2 this
      refine wpAnyE_one (i := 10) (by kernel_rfl) ?_
      intro X1 hx1
      have HB1 := Lib.hid (HBZ.out.trans hx1)
      clear HBZ hx1
      go_simp
      refine (markVecs_any k 0 n1 X1 (by omega) (by omega)).mono ?_
      rintro e X2 ⟨v, rfl, hf, hb2⟩
      have HB2 := Lib.hid (HB1.out.trans hb2)
      obtain ⟨a2, n2, c2, rfl, I2⟩ := hf.si
      have HI2 := Lib.hid I2
      clear HB1 hb2 hf I2
      go_simp
      refine ⟨HB2.out, ?_⟩
      refine wpAnyE_one (i := 11) (by kernel_rfl) ?_
      intro X3 hx3
      have HB3 := Lib.hid (HB2.out.trans hx3)
      go_simp
      have hs := sameVecs_any a1 a2 n1 n2 c1 c2 (markL k 0 n1) (markL k 0 n1) X3 (HI.out.keep HB3.out) (HI2.out.keep hx3)
      rw [decide_eq_true (rfl : markL k 0 n1 = markL k 0 n1)] at hs
      refine hs.mono ?_
      rintro e X4 ⟨rfl, hb4⟩
      have HB4 := Lib.hid (HB3.out.trans hb4)
      clear HB3 HB2 hx3 hb4 hs HI2
      go_simp
      refine ⟨HB4.out, ?_⟩
      refine wpAnyE_one (i := 12) (by kernel_rfl) ?_
      intro X5 hx5
      have HB5 := Lib.hid (HB4.out.trans hx5)
      clear HB4 hx5
      go_simp
      refine ⟨HB5.out, ?_⟩
      refine wpAnyE_done (by kernel_rfl) ?_
      intro X6 hx6
      have HB6 := Lib.hid (HB5.out.trans hx6)
      clear HB5 hx6
      go_wp2_with fail
      go_roundw
      case rel => exact ⟨k + 1, by omega, by go_num, HB6.out⟩
      case measure => simp [intOf]; omega
    · go_wp2_with fail
      go_ret
      exact ⟨rfl, hbl⟩
end Go.Proofs.YtfjjnffifnohkaaGreat
end

/- bedrockbook over vectors that are kept: putVecs. By an AI agent. -/
section
namespace Go.Proofs.YtfjjnffifnohkaaGreat
open Go.RowKit
attribute [local go_sem] eOp eOper eUpon

theorem OI.shape {B : Nat} {w : World} {v : Value} {xs : List Int} (h : OI B w v xs) : ∃ a c, v = .slice a xs.length c ∧ (0 < xs.length → ∃ g, a = some ⟨g, 0, none⟩ ∧ B ≤ g) := by
  obtain ⟨h1, ⟨rfl, h2⟩ | ⟨g, cap, cur, rfl, hB, hg, hn, hm, hs, ht⟩⟩ := h
  · rw [h2]; exact ⟨none, 0, rfl, fun h => absurd h (by decide)⟩
  · exact ⟨_, _, rfl, fun _ => ⟨g, rfl, hB⟩⟩
theorem OI.store {B : Nat} {w : World} {g n c : Nat} {xs : List Int} (h : OI B w (.slice (some ⟨g, 0, none⟩) n c) xs) (hn : xs.length = n) (j : Nat) (x : Int) : OI B (w.setCell ⟨g, j, none⟩ (.int .i64 x)) (.slice (some ⟨g, 0, none⟩) n c) (xs.set j x) ∧ w.grownBy (w.setCell ⟨g, j, none⟩ (.int .i64 x)) (some g) := by
  subst hn
  have h' := World.ownsRow.stored h j (.int .i64 x)
  refine ⟨?_, h'.2⟩
  unfold OI
  rw [List.length_set, List.map_set]
  exact h'.1
theorem mix_set {M X : List Int} {q : Nat} (h : M.length = X.length) (hq : q < M.length) : (M.take q ++ X.drop q).set q (nth M q) = M.take (q + 1) ++ X.drop (q + 1) := by
  refine List.ext_getElem (by simp; omega) fun i h1 h2 => ?_
  have hl : (M.take q).length = q := by rw [List.length_take]; omega
  have hl2 : (M.take (q + 1)).length = q + 1 := by rw [List.length_take]; omega
  rw [List.getElem_set]
  by_cases e : q = i
  · subst e
    rw [if_pos rfl, List.getElem_append_left (by omega), List.getElem_take, nth_eq hq]
  · rw [if_neg e]
    by_cases e2 : i < q
    · rw [List.getElem_append_left (by omega), List.getElem_append_left (by omega), List.getElem_take, List.getElem_take]
    · rw [List.getElem_append_right (by omega), List.getElem_append_right (by omega), List.getElem_drop, List.getElem_drop]
      congr 1
      omega
/-- what stands in the j-th list when the lists ahead of k are marked, and of this one the first q -/
def curP (xs : Nat → List Int) (k q j : Nat) : List Int := if j < k then markL j 0 (xs j).length else if j = k then (markL k 0 (xs k).length).take q ++ (xs k).drop q else xs j
theorem curP_zero (xs : Nat → List Int) (j : Nat) : curP xs 0 0 j = xs j := by
  unfold curP
  by_cases e : j = 0
  · subst e; simp
  · simp [e]
theorem curP_next (xs : Nat → List Int) (k j : Nat) : curP xs k (xs k).length j = curP xs (k + 1) 0 j := by
  unfold curP
  by_cases e1 : j < k
  · rw [if_pos e1, if_pos (by omega)]
  · by_cases e2 : j = k
    · subst e2
      rw [if_neg e1, if_pos rfl, if_pos (by omega), List.take_of_length_le (by rw [markL_len]; exact Nat.le_refl _), List.drop_length, List.append_nil]
    · rw [if_neg e1, if_neg e2, if_neg (by omega)]
      by_cases e3 : j = k + 1
      · subst e3; simp
      · rw [if_neg e3]
theorem curP_len (xs : Nat → List Int) (k q j : Nat) (hq : q ≤ (xs k).length) : (curP xs k q j).length = (xs j).length := by
  unfold curP
  split
  · rw [markL_len]
  · split
    · rename_i e; subst e
      rw [List.length_append, List.length_take, List.length_drop, markL_len]; omega
    · rfl
theorem curP_end (xs : Nat → List Int) {n j : Nat} (h : j < n) (q : Nat) : curP xs n q j = markL j 0 (xs j).length := by unfold curP; rw [if_pos h]
theorem curP_step (xs : Nat → List Int) {k q : Nat} (hq : q < (xs k).length) : (curP xs k q k).set q (nth (markL k 0 (xs k).length) q) = curP xs k (q + 1) k := by
  unfold curP
  rw [if_neg (Nat.lt_irrefl k), if_pos rfl, if_neg (Nat.lt_irrefl k), if_pos rfl]
  exact mix_set (by rw [markL_len]) (by rw [markL_len]; exact hq)
theorem curP_ne (xs : Nat → List Int) {k q j : Nat} (h : j ≠ k) : curP xs k (q + 1) j = curP xs k q j := by
  unfold curP
  split
  · rfl
  · rfl

/-- the blocks of n values -/
def SB3 (n : Nat) (vs : Nat → Value) (b : Nat) : Prop := ∃ j, j < n ∧ (vs j).ownBlock = some b
set_option maxHeartbeats 1000000 in
theorem putVecs_any (B g : Nat) (va : Option Addr) (n cv : Nat) (vs : Nat → Value) (xs : Nat → List Int) (w : World) (hn : n ≤ 250) (hc4 : w.cell? ⟨g, 4, none⟩ = some (.slice va n cv)) (hv : LA w va n vs)
    (h : ∀ j, j < n → OI B w (vs j) (xs j) ∧ (xs j).length ≤ 100000) (hap : ∀ i j, i < n → j < n → i ≠ j → (vs i).ownBlock = none ∨ (vs i).ownBlock ≠ (vs j).ownBlock)
    (hg : ¬ SB3 n vs g) (hva : ∀ b off, va = some ⟨b, off, none⟩ → ¬ SB3 n vs b) :
    Calls Tryz.prog 75 #[.pointer (some ⟨g, 0, none⟩)] w fun e w' => e = .returned (.tuple #[]) ∧ Fr (SB3 n vs) w w' ∧ ∀ j, j < n → OI B w' (vs j) (markL j 0 (xs j).length) := by
  have HC4 := Lib.hid hc4
  have HH := Lib.hid h
  have HAP := Lib.hid hap
  have HG := Lib.hid hg
  have HVA := Lib.hid hva
  have HLT := Lib.hid (show ∀ b, SB3 n vs b → b < w.heap.size from fun b ⟨j, hj, e⟩ => (World.ownsRow.lt (h j hj).1 b e).2)
  clear hc4 h hap hg hva
  go_enter Tryz.func75, Tryz.ntmps75
  go_wp2_with fail
  go_loopw [2] (fun i w' => ∃ k : Nat, k ≤ n ∧ i = .int .i64 k ∧ Fr (SB3 n vs) w w' ∧ ∀ j, j < n → OI B w' (vs j) (curP xs k 0 j)) (fun i _ => n - (intOf i).toNat)
  case atStart => exact ⟨0, Nat.zero_le _, rfl, Fr.refl _ _, fun j hj => by rw [curP_zero]; exact (HH.out j hj).1⟩
  case round =>
    obtain ⟨k, hk, rfl, hfr, hoi⟩ := hrel
    have HFR := Lib.hid hfr
    have HOI := Lib.hid hoi
    clear hfr hoi
    have c4 := HFR.out.cell HC4.out HG.out
    by_cases hlt : k < n
    · obtain ⟨b, off, rfl, hcv⟩ := hv k hlt
      have hcv' := HFR.out.cell (hcv k hlt) (HVA.out b off rfl)
      obtain ⟨a1, c1, e1, hgi⟩ := (HOI.out k hlt).shape
      rw [curP_len xs k 0 k (Nat.zero_le _)] at e1 hgi
      have hmx := (HH.out k hlt).2
      obtain ⟨m, hm⟩ : ∃ m, (xs k).length = m := ⟨_, rfl⟩
      rw [hm] at e1 hmx hgi
      have HM := Lib.hid hm
      have HE1 := Lib.hid e1
      rw [e1] at hcv'
      have HCV := Lib.hid (hcv k hlt)
      rw [e1] at HCV
      clear hm e1 hcv
      go_wp2_with fail
      refine (markVecs_any k 0 m wr (by omega) (by omega)).mono ?_
      rintro e W1 ⟨v, rfl, hf, hb1⟩
      obtain ⟨a2, n2, c2, rfl, I2⟩ := hf.si
      have hn2 : n2 = m := by have := I2.len; rw [markL_len] at this; exact this.symm
      subst hn2
      have hna : ∀ b off, a2 = some ⟨b, off, none⟩ → ¬ SB3 n vs b := fun b off e hs => by
        subst e
        have h1 := (World.ownsRow.lt hf.own b rfl).1
        have h2 := HLT.out b hs
        have h3 := HFR.out.size
        omega
      have HNA := Lib.hid hna
      have HF1 := Lib.hid (HFR.out.bl hb1)
      have HO1 := Lib.hid (fun j (hj : j < n) => (HOI.out j hj).keep hb1)
      have HI2 := Lib.hid I2
      clear HFR HOI hf hb1 I2 hna c4 hcv'
      go_wp2_with fail
      go_loopw [4] (fun t Y => ∃ q : Nat, q ≤ n2 ∧ t = .int .i64 q ∧ Fr (SB3 n vs) W1 Y ∧ ∀ j, j < n → OI B Y (vs j) (curP xs k q j)) (fun t _ => n2 - (intOf t).toNat)
      case atStart => exact ⟨0, Nat.zero_le _, rfl, Fr.refl _ _, HO1.out⟩
      case round =>
        obtain ⟨q, hq, rfl, hfy, hoy⟩ := hrel
        have HFY := Lib.hid hfy
        have HOY := Lib.hid hoy
        clear hfy hoy
        by_cases hql : q < n2
        · obtain ⟨gi, rfl, hBgi⟩ := hgi (by omega)
          obtain ⟨b2, off2, rfl, hmc⟩ := HI2.out.cells q hql
          have HMC := Lib.hid (HFY.out.cell (hmc q hql) (HNA.out b2 off2 rfl))
          have HCY := Lib.hid ((HF1.out.trans HFY.out).cell HC4.out HG.out)
          have HRY := Lib.hid ((HF1.out.trans HFY.out).cell HCV.out (HVA.out b off rfl))
          have HOK := Lib.hid (HE1.out ▸ HOY.out k hlt : OI B wr (.slice (some ⟨gi, 0, none⟩) n2 c1) (curP xs k q k))
          obtain ⟨M, hM⟩ : ∃ M, nth (markL k 0 n2) q = M := ⟨_, rfl⟩
          rw [hM] at HMC
          have HMM := Lib.hid hM
          clear hM hmc
          go_upto_region 7 with fail
          refine wp_region_idx [0, 1, 2, 3, 4, 5, 6, 7, 8, 9, 10, 11, 12] 1 (Fr (SB3 n vs) wr) (fun _ _ h k => h.bl k) ((Fr.refl _ wr).bl (Bl.refl wr).drew) (by kernel_rfl) rfl (by kernel_rfl) (by kernel_rfl) ?_
          have HBZ := Lib.hid (Bl.refl wr).drew
          generalize hz : World.drew _ = Z at *
          clear hz
          haveI : Nonempty (ExtC (Fr (SB3 n vs) wr)) := ⟨⟨Z, (Fr.refl _ wr).bl HBZ.out⟩⟩
          have p0 : ∀ q : ExtC (Fr (SB3 n vs) wr), _ := fun q => q.ok.cell HCY.out HG.out
          have p1 : ∀ q : ExtC (Fr (SB3 n vs) wr), _ := fun q => q.ok.cell HRY.out (HVA.out b off rfl)
          have p2 : ∀ q : ExtC (Fr (SB3 n vs) wr), _ := fun q => q.ok.cell HMC.out (HNA.out b2 off2 rfl)
          repeat (refine wpI_step rfl (fun K hK => ?_); go_simp; first | (refine hK _ ?_; clear hK K) | (apply Exists.intro; refine ⟨fun q => ?_, hK _ ?_⟩; fail; clear hK K))
          refine wpI_nil ?_
          clear p0 p1 p2 this
          refine wpAnyE_one (i := 13) (by kernel_rfl) ?_
          intro X hx
          have HX := Lib.hid (HBZ.out.trans hx)
          have hok := HOK.out.keep HX.out
          have hlen := curP_len xs k q k (by rw [HM.out]; exact hq)
          rw [HM.out] at hlen
          have x0 : X.cell? ⟨gi, q, none⟩ = some (.int .i64 (nth (curP xs k q k) q)) := by
            have := World.ownsRow.cellAt (by rw [← hlen] at hok; exact hok) q (by omega)
            rw [this, List.getElem?_map, List.getElem?_eq_getElem (by omega), nth_eq (by omega)]
            rfl
          have f0 : X.frozen? ⟨gi, q, none⟩ = false := World.ownsRow.frozenAt (by rw [← hlen] at hok; exact hok) q
          have HST := Lib.hid (OI.store hok hlen q M)
          clear hx hok hlen
          go_simp
          have hown : (vs k).ownBlock = some gi := by rw [HE1.out]; rfl
          have hfrS : Fr (SB3 n vs) wr (X.setCell ⟨gi, q, none⟩ (.int .i64 M)) := ((Fr.refl _ wr).bl HX.out).grown HST.out.2 (fun i e => by cases e; exact ⟨k, hlt, hown⟩)
          have hoi5 : ∀ j, j < n → OI B (X.setCell ⟨gi, q, none⟩ (.int .i64 M)) (vs j) (curP xs k (q + 1) j) := fun j hj => by
            by_cases e : j = k
            · subst e
              have := HST.out.1
              have hcs := curP_step xs (k := j) (q := q) (by rw [HM.out]; exact hql)
              rw [HM.out, HMM.out] at hcs
              rw [hcs, ← HE1.out] at this
              exact this
            · rw [curP_ne xs e]
              exact World.ownsRow.kept ((HOY.out j hj).keep HX.out) HST.out.2 (by rw [← hown]; exact HAP.out j k hj hlt e)
          have HFX := Lib.hid (HFY.out.trans hfrS)
          have HOX := Lib.hid hoi5
          refine ⟨hfrS, ?_⟩
          clear x0 f0 HST hown hfrS hoi5 HX HFY HOY HOK HCY HRY HMC HMM
          generalize X.setCell _ _ = X2 at *
          refine wpAnyE_done (by kernel_rfl) ?_
          intro X3 hx3
          have HFX3 := Lib.hid (HFX.out.bl hx3)
          have HOX3 := Lib.hid (fun j (hj : j < n) => (HOX.out j hj).keep hx3)
          clear HFX HOX hx3
          go_wp2_with fail
          go_roundw
          case rel => exact ⟨q + 1, by omega, by go_num, HFX3.out, HOX3.out⟩
          case measure => simp [intOf]; omega
        · have hqe : q = n2 := by omega
          have HFN := Lib.hid (HF1.out.trans HFY.out)
          have HON := Lib.hid (fun j (hj : j < n) => (by rw [← curP_next, HM.out, ← hqe]; exact HOY.out j hj : OI B wr (vs j) (curP xs (k + 1) 0 j)))
          clear hqe HFY HOY
          go_wp2_with fail
          go_roundw
          case rel => exact ⟨k + 1, by omega, by go_num, HFN.out, HON.out⟩
          case measure => simp [intOf]; omega
    · go_wp2_with fail
      go_end0
      have e1 : k = n := by omega
      subst e1
      exact ⟨rfl, HFR.out, fun j hj => by rw [← curP_end xs hj 0]; exact HOI.out j hj⟩
end Go.Proofs.YtfjjnffifnohkaaGreat
end

/- bedrockbook over vectors that are kept: growVecs. By an AI agent. -/
section
namespace Go.Proofs.YtfjjnffifnohkaaGreat
open Go.RowKit
attribute [local go_sem] eOp eOper eUpon

theorem el_ints : EL 23 3 1 8 := el_of Tryz.underlying23 (by kernel_rfl) (by decide)
theorem el_rows : EL 29 23 1 24 := el_of Tryz.underlying29 (by kernel_rfl) (by decide)
/-- what lies ahead in a row that is appended to stays -/
theorem OI.pre {B : Nat} {w w' : World} {v l : Value} {xs ys : List Int} (hv : OI B w v xs) (hl : OI B w l (xs ++ ys)) (hg : w.grownBy w' l.ownBlock) (hl' : OI B w' l (xs ++ ys)) : OI B w' v xs := by
  by_cases e : v.ownBlock = none ∨ v.ownBlock ≠ l.ownBlock
  · exact World.ownsRow.kept hv hg e
  · have e1 : v.ownBlock ≠ none := fun h => e (.inl h)
    have e2 : v.ownBlock = l.ownBlock := Classical.byContradiction fun h => e (.inr h)
    obtain ⟨h1, ⟨rfl, _⟩ | ⟨g, cap, cur, rfl, hB, hgc, hn, hm, hs, ht⟩⟩ := hv
    · exact absurd rfl e1
    · obtain ⟨k1, ⟨rfl, _⟩ | ⟨g2, cap2, cur2, rfl, hB2, hgc2, hn2, hm2, hs2, ht2⟩⟩ := hl
      · simp [Value.ownBlock] at e2
      · simp [Value.ownBlock] at e2
        subst e2
        rw [hgc] at hgc2
        cases hgc2
        obtain ⟨j1, ⟨hq, _⟩ | ⟨g3, cap3, cur3, hq, hB3, hgc3, hn3, hm3, hs3, ht3⟩⟩ := hl'
        · cases hq
        · simp only [Value.slice.injEq, Option.some.injEq, Addr.mk.injEq, and_true, true_and] at hq
          obtain ⟨rfl, rfl⟩ := hq
          refine ⟨h1, .inr ⟨g, cap, cur3, rfl, hB, hgc3, hn, hm, by omega, ?_⟩⟩
          have e3 : cur3.toList.take (xs.length * 1) = (cur3.toList.take ((xs ++ ys).length * 1)).take (xs.length * 1) := by
            rw [List.take_take, Nat.min_eq_left (by rw [List.length_append]; omega)]
          rw [e3, ht3, List.map_append, List.take_append_of_le_length (by simp), List.take_of_length_le (by simp)]
/-- the state while one list grows -/
structure GL (S' : Nat → Prop) (B : Nat) (W1 Y : World) (v l : Value) (xs ys : List Int) : Prop where
  fr : Fr S' W1 Y
  ol : OI B Y l (xs ++ ys)
  ov : OI B Y v xs
  blk : ∀ b, l.ownBlock = some b → v.ownBlock = some b ∨ W1.heap.size ≤ b
theorem GL.keep {S' : Nat → Prop} {B : Nat} {W1 Y Y' : World} {v l : Value} {xs ys : List Int} (h : GL S' B W1 Y v l xs ys) (hb : Bl Y Y') : GL S' B W1 Y' v l xs ys := ⟨h.fr.bl hb, h.ol.keep hb, h.ov.keep hb, h.blk⟩
theorem GL.step {S' : Nat → Prop} {B : Nat} {W1 Y Y' : World} {v l l' : Value} {xs ys zs : List Int} (h : GL S' B W1 Y v l xs ys) (hS : ∀ b, v.ownBlock = some b → S' b) (hown : Y'.ownsRow B 3 1 l' ((xs ++ ys).length + zs.length) ((xs ++ ys).map (Value.int .i64) ++ zs.map (Value.int .i64)))
    (hg : Y.grownBy Y' l.ownBlock) (hl : Y'.ownsRow B 3 1 l (xs ++ ys).length ((xs ++ ys).map (Value.int .i64))) (hb : ∀ b, l'.ownBlock = some b → l.ownBlock = some b ∨ Y.heap.size ≤ b) : GL S' B W1 Y' v l' xs (ys ++ zs) := by
  refine ⟨?_, ?_, h.ov.pre h.ol hg hl, fun b e => ?_⟩
  · refine ⟨hg.os.trans h.fr.os, hg.tape.trans h.fr.tape, hg.output.trans h.fr.output, Nat.le_trans h.fr.size hg.size, fun k hk hs => ?_⟩
    rw [hg.block k (Nat.lt_of_lt_of_le hk h.fr.size) (fun e => ?_), h.fr.block k hk hs]
    rcases h.blk k e.symm with q | q
    · exact hs (hS k q)
    · omega
  · unfold OI
    rw [← List.append_assoc, List.length_append, List.map_append]
    exact hown
  · rcases hb b e with q | q
    · exact h.blk b q
    · exact .inr (Nat.le_trans h.fr.size q)

/-- the state of growVecs ahead of the k-th list -/
structure GR3 (B n : Nat) (vs : Nat → Value) (ms : Nat → Nat) (w W : World) (k : Nat) (out : Value) (gs : Nat → Value) : Prop where
  fr : Fr (SB3 n vs) w W
  row : W.ownsRow w.heap.size 23 1 out k ((List.range k).map gs)
  ogs : ∀ j, j < k → OI B W (gs j) (markL j 0 (ms j + 72))
  ovs : ∀ j, j < n → OI B W (vs j) (markL j 0 (ms j))
  apg : ∀ j, j < k → ∀ b, (gs j).ownBlock = some b → (vs j).ownBlock = some b ∨ (w.heap.size ≤ b ∧ out.ownBlock ≠ some b)
structure GM3 (B n : Nat) (vs : Nat → Value) (ms : Nat → Nat) (w W : World) (k : Nat) (out : Value) (gs : Nat → Value) (l : Value) : Prop where
  r : GR3 B n vs ms w W k out gs
  ol : OI B W l (markL k 0 (ms k + 72))
  bl : ∀ b, l.ownBlock = some b → (vs k).ownBlock = some b ∨ (w.heap.size ≤ b ∧ out.ownBlock ≠ some b)
theorem GR3.keep {B n : Nat} {vs : Nat → Value} {ms : Nat → Nat} {w W W' : World} {k : Nat} {out : Value} {gs : Nat → Value} (h : GR3 B n vs ms w W k out gs) (hb : Bl W W') : GR3 B n vs ms w W' k out gs :=
  ⟨h.fr.bl hb, ownsRow_bl h.row hb, fun j hj => (h.ogs j hj).keep hb, fun j hj => (h.ovs j hj).keep hb, h.apg⟩
theorem GM3.keep {B n : Nat} {vs : Nat → Value} {ms : Nat → Nat} {w W W' : World} {k : Nat} {out : Value} {gs : Nat → Value} {l : Value} (h : GM3 B n vs ms w W k out gs l) (hb : Bl W W') : GM3 B n vs ms w W' k out gs l :=
  ⟨h.r.keep hb, h.ol.keep hb, h.bl⟩
theorem GR3.grown {B n : Nat} {vs : Nat → Value} {ms : Nat → Nat} {w W Y : World} {k : Nat} {out : Value} {gs : Nat → Value} {l : Value} (h : GR3 B n vs ms w W k out gs) (hk : k < n)
    (hap : ∀ i j, i < n → j < n → i ≠ j → (vs i).ownBlock = none ∨ (vs i).ownBlock ≠ (vs j).ownBlock) (hlt : ∀ b, SB3 n vs b → b < w.heap.size)
    (hl : GL (fun b => (vs k).ownBlock = some b) B W Y (vs k) l (markL k 0 (ms k)) (markL k (ms k) 72)) (hkn : k ≤ n) : GM3 B n vs ms w Y k out gs l := by
  have hvk : ∀ b, (vs k).ownBlock = some b → b < w.heap.size := fun b e => hlt b ⟨k, hk, e⟩
  have hout : ∀ b, out.ownBlock = some b → w.heap.size ≤ b ∧ b < W.heap.size := World.ownsRow.lt h.row
  have hne : ∀ j, j < n → j ≠ k → ∀ b, (vs j).ownBlock = some b → ¬ (vs k).ownBlock = some b := fun j hj e b e1 e2 => by
    rcases hap j k hj hk e with q | q
    · rw [q] at e1; cases e1
    · exact q (e1.trans e2.symm)
  refine ⟨⟨?_, ?_, fun j hj => ?_, fun j hj => ?_, h.apg⟩, ?_, fun b e => ?_⟩
  · refine h.fr.trans ⟨hl.fr.os, hl.fr.tape, hl.fr.output, hl.fr.size, fun b hb hs => hl.fr.block b hb (fun e => hs ⟨k, hk, e⟩)⟩
  · exact hl.fr.own h.row (fun b e e2 => by have := hvk b e2; have := (hout b e).1; omega)
  · exact hl.fr.own (h.ogs j hj) (fun b e e2 => by
      rcases h.apg j hj b e with q | q
      · exact hne j (by omega) (by omega) b q e2
      · have := hvk b e2; omega)
  · by_cases e : j = k
    · subst e; exact hl.ov
    · exact hl.fr.own (h.ovs j hj) (fun b e1 e2 => hne j hj e b e1 e2)
  · have := hl.ol
    rw [show markL k (ms k) 72 = markL k (0 + ms k) 72 by rw [Nat.zero_add], markL_add] at this
    exact this
  · rcases hl.blk b e with q | q
    · exact .inl q
    · exact .inr ⟨Nat.le_trans h.fr.size q, fun e2 => by have := (hout b e2).2; omega⟩
theorem GM3.step {B n : Nat} {vs : Nat → Value} {ms : Nat → Nat} {w W W' : World} {k : Nat} {out out' : Value} {gs : Nat → Value} {l : Value} (h : GM3 B n vs ms w W k out gs l) (hk : k < n)
    (hlt : ∀ b, SB3 n vs b → b < w.heap.size) (ho : W'.ownsRow w.heap.size 23 1 out' (k + 1) ((List.range k).map gs ++ [l])) (hg : W.grownBy W' out.ownBlock)
    (hb : ∀ b, out'.ownBlock = some b → out.ownBlock = some b ∨ W.heap.size ≤ b) : GR3 B n vs ms w W' (k + 1) out' (fun j => if j = k then l else gs j) := by
  have hout : ∀ b, out.ownBlock = some b → w.heap.size ≤ b ∧ b < W.heap.size := World.ownsRow.lt h.r.row
  have hvo : ∀ j, j < n → (vs j).ownBlock = none ∨ (vs j).ownBlock ≠ out.ownBlock := fun j hj => by
    cases e : (vs j).ownBlock with
    | none => exact .inl rfl
    | some b => exact .inr (fun e2 => by have := hlt b ⟨j, hj, e⟩; have := (hout b e2.symm).1; omega)
  have hgo : ∀ j, j < k → (gs j).ownBlock = none ∨ (gs j).ownBlock ≠ out.ownBlock := fun j hj => by
    cases e : (gs j).ownBlock with
    | none => exact .inl rfl
    | some b =>
      refine .inr (fun e2 => ?_)
      rcases h.r.apg j hj b e with q | q
      · have := hlt b ⟨j, by omega, q⟩; have := (hout b e2.symm).1; omega
      · exact q.2 e2.symm
  have hlo : l.ownBlock = none ∨ l.ownBlock ≠ out.ownBlock := by
    cases e : l.ownBlock with
    | none => exact .inl rfl
    | some b =>
      refine .inr (fun e2 => ?_)
      rcases h.bl b e with q | q
      · have := hlt b ⟨k, hk, q⟩; have := (hout b e2.symm).1; omega
      · exact q.2 e2.symm
  refine ⟨⟨hg.os.trans h.r.fr.os, hg.tape.trans h.r.fr.tape, hg.output.trans h.r.fr.output, Nat.le_trans h.r.fr.size hg.size, fun b hb hs => ?_⟩, ?_, fun j hj => ?_, fun j hj => World.ownsRow.kept (h.r.ovs j hj) hg (hvo j hj), fun j hj b e => ?_⟩
  · rw [hg.block b (Nat.lt_of_lt_of_le hb h.r.fr.size) (fun e => by have := (hout b e.symm).1; omega), h.r.fr.block b hb hs]
  · have e : (List.range (k + 1)).map (fun j => if j = k then l else gs j) = (List.range k).map gs ++ [l] := by
      rw [List.range_succ, List.map_append]
      congr 1
      · exact List.map_congr_left (fun j hj => if_neg (by have := List.mem_range.1 hj; omega))
      · simp
    rw [e]; exact ho
  · by_cases e : j = k
    · subst e; rw [if_pos rfl]; exact World.ownsRow.kept h.ol hg hlo
    · rw [if_neg e]; exact World.ownsRow.kept (h.r.ogs j (by omega)) hg (hgo j (by omega))
  · by_cases e1 : j = k
    · subst e1
      rw [if_pos rfl] at e
      rcases h.bl b e with q | q
      · exact .inl q
      · refine .inr ⟨q.1, fun e2 => ?_⟩
        rcases hb b e2 with q2 | q2
        · exact q.2 q2
        · have := (World.ownsRow.lt h.ol b e).2; omega
    · rw [if_neg e1] at e
      rcases h.r.apg j (by omega) b e with q | q
      · exact .inl q
      · refine .inr ⟨q.1, fun e2 => ?_⟩
        rcases hb b e2 with q2 | q2
        · exact q.2 q2
        · have := (World.ownsRow.lt (h.r.ogs j (by omega)) b e).2; omega

set_option maxHeartbeats 1000000 in
theorem growVecs_any (B g : Nat) (va : Option Addr) (n cv : Nat) (vs : Nat → Value) (ms : Nat → Nat) (w : World) (hn : n ≤ 250) (hB : B ≤ w.heap.size) (hc4 : w.cell? ⟨g, 4, none⟩ = some (.slice va n cv)) (hv : LA w va n vs)
    (h : ∀ j, j < n → OI B w (vs j) (markL j 0 (ms j)) ∧ ms j ≤ 50000) (hap : ∀ i j, i < n → j < n → i ≠ j → (vs i).ownBlock = none ∨ (vs i).ownBlock ≠ (vs j).ownBlock)
    (hg : ¬ SB3 n vs g) (hva : ∀ b off, va = some ⟨b, off, none⟩ → ¬ SB3 n vs b) :
    Calls Tryz.prog 85 #[.pointer (some ⟨g, 0, none⟩)] w fun e w' => ∃ out gs, e = .returned out ∧ GR3 B n vs ms w w' n out gs := by
  have HC4 := Lib.hid hc4
  have HH := Lib.hid h
  have HAP := Lib.hid hap
  have HG := Lib.hid hg
  have HVA := Lib.hid hva
  have HLT := Lib.hid (show ∀ b, SB3 n vs b → b < w.heap.size from fun b ⟨j, hj, e⟩ => (World.ownsRow.lt (h j hj).1 b e).2)
  clear hc4 h hap hg hva
  go_enter Tryz.func85, Tryz.ntmps85
  go_wp2_with fail
  go_loopw [3, 4] (fun out i w' => ∃ (k : Nat) (gs : Nat → Value), k ≤ n ∧ i = .int .i64 k ∧ GR3 B n vs ms w w' k out gs) (fun _ i _ => n - (intOf i).toNat)
  case atStart => exact ⟨0, fun _ => undef, Nat.zero_le _, rfl, ⟨Fr.refl _ _, World.ownsRow_nil _ _ _ _, fun j hj => absurd hj (Nat.not_lt_zero _), fun j hj => (HH.out j hj).1, fun j hj => absurd hj (Nat.not_lt_zero _)⟩⟩
  case round =>
    obtain ⟨k, gs, hk, rfl, hgr⟩ := hrel
    have HGR := Lib.hid hgr
    clear hgr
    have c4 := HGR.out.fr.cell HC4.out HG.out
    by_cases hlt : k < n
    · obtain ⟨b, off, rfl, hcv⟩ := hv k hlt
      have hcv' := HGR.out.fr.cell (hcv k hlt) (HVA.out b off rfl)
      have hmx := (HH.out k hlt).2
      obtain ⟨m, hm⟩ : ∃ m, ms k = m := ⟨_, rfl⟩
      rw [hm] at hmx
      have hov := HGR.out.ovs k hlt
      rw [hm] at hov
      have HM := Lib.hid hm
      clear hm hcv
      obtain ⟨V, hV⟩ : ∃ V, vs k = V := ⟨_, rfl⟩
      rw [hV] at hcv' hov
      have HV := Lib.hid hV
      clear hV
      have HGL0 : Hid (GL (fun b => V.ownBlock = some b) B wr wr V V (markL k 0 m) (markL k m 0)) := Lib.hid ⟨Fr.refl _ _, by rw [show markL k m 0 = [] from rfl, List.append_nil]; exact hov, hov, fun b e => .inl e⟩
      clear hov
      go_wp2_with fail
      have hsz1 : w.heap.size ≤ wr.heap.size := HGR.out.fr.size
      go_loopw [5, 6] (fun l t Y => ∃ q : Nat, q ≤ 12 ∧ t = .int .i64 q ∧ GL (fun b => V.ownBlock = some b) B wr Y V l (markL k 0 m) (markL k m q)) (fun _ t _ => 12 - (intOf t).toNat)
      case atStart => exact ⟨0, by omega, rfl, HGL0.out⟩
      case round =>
        obtain ⟨q, hq, rfl, hgl⟩ := hrel
        have HGL := Lib.hid hgl
        clear hgl
        obtain ⟨la, lc, hl, _⟩ := HGL.out.ol.shape
        subst hl
        have hlen : (markL k 0 m ++ markL k m q).length = m + q := by rw [List.length_append, markL_len, markL_len]
        have HLEN := Lib.hid hlen
        rw [hlen] at HGL ⊢
        obtain ⟨L, hL⟩ : ∃ L, m + q = L := ⟨_, rfl⟩
        rw [hL] at HGL HLEN ⊢
        clear hlen
        have hLb : L ≤ 50012 := by omega
        have HL := Lib.hid hL
        have hszY : w.heap.size ≤ wr.heap.size := Nat.le_trans hsz1 HGL.out.fr.size
        by_cases hql : q < 12
        · clear hL
          go_wp2_with fail
          refine (markVecs_any k L 1 wr (by omega) (by omega)).mono ?_
          rintro e W2 ⟨mv, rfl, hf, hb2⟩
          obtain ⟨a2, n2, c2, rfl, I2⟩ := hf.si
          have hn2 : n2 = 1 := by have := I2.len; rw [markL_len] at this; exact this.symm
          subst hn2
          have HI2 := Lib.hid I2
          have HG2 := Lib.hid (HGL.out.keep hb2)
          have hsz2 := hb2.size
          clear hf hb2 I2 HGL
          go_wp2_with (at_builtin; refine wpList_appK rfl _ _ _ rfl el_ints B _ _ _ rfl HG2.out.ol ?cB a2 1 c2 _ rfl (sg_ints HI2.out) ?cM ?cN ?_)
          case cB => omega
          case cM => rw [HLEN.out]; unfold maxLen; omega
          case cN => rw [HLEN.out]; omega
          intro l' W3 ho3 hg3 hol3 hb3
          have hstep := HG2.out.step (zs := markL k L 1) (fun b e => e) (by rw [markL_len, List.length_append, List.map_append, List.append_assoc]; exact ho3) hg3 (by rw [List.length_append, List.map_append]; exact hol3) hb3
          have e : markL k m q ++ markL k L 1 = markL k m (q + 1) := by rw [← HL.out, markL_add]
          rw [e] at hstep
          have HG3 := Lib.hid hstep
          clear hstep e ho3 hg3 hol3 hb3 HG2 HI2 hsz2
          go_wp2_with fail
          go_roundw
          case rel => exact ⟨q + 1, by omega, by go_num, HG3.out⟩
          case measure => simp [intOf]; omega
        · have hq12 : q = 12 := by omega
          subst hq12
          clear hL
          go_wp2_with fail
          refine (markVecs_any k L 60 wr (by omega) (by omega)).mono ?_
          rintro e W2 ⟨mv, rfl, hf, hb2⟩
          obtain ⟨a2, n2, c2, rfl, I2⟩ := hf.si
          have hn2 : n2 = 60 := by have := I2.len; rw [markL_len] at this; exact this.symm
          subst hn2
          have HI2 := Lib.hid I2
          have HG2 := Lib.hid (HGL.out.keep hb2)
          have hsz2 := hb2.size
          clear hf hb2 I2 HGL
          go_wp2_with (at_builtin; refine wpList_appK rfl _ _ _ rfl el_ints B _ _ _ rfl HG2.out.ol ?cB a2 60 c2 _ rfl (sg_ints HI2.out) ?cM ?cN ?_)
          case cB => omega
          case cM => rw [HLEN.out]; unfold maxLen; omega
          case cN => rw [HLEN.out]; omega
          intro l' W3 ho3 hg3 hol3 hb3
          have hstep := HG2.out.step (zs := markL k L 60) (fun b e => e) (by rw [markL_len, List.length_append, List.map_append, List.append_assoc]; exact ho3) hg3 (by rw [List.length_append, List.map_append]; exact hol3) hb3
          have e : markL k m 12 ++ markL k L 60 = markL k m 72 := by rw [← HL.out, markL_add]
          rw [e] at hstep
          rw [← HV.out, ← HM.out] at hstep
          have hgm := HGR.out.grown hlt HAP.out HLT.out hstep hk
          have HGM := Lib.hid hgm
          obtain ⟨a3, c3, hl3, _⟩ := hgm.ol.shape
          obtain ⟨n3, hn3⟩ : ∃ n3, (markL k 0 (ms k + 72)).length = n3 := ⟨_, rfl⟩
          rw [hn3] at hl3
          subst hl3
          have hsz3 := hg3.size
          clear hstep hgm e ho3 hg3 hol3 hb3 HG2 HI2 hn3
          have hbA := (Bl.refl W3).alloc (.cells #[.slice a3 n3 c3] 23)
          have HGA := Lib.hid (HGM.out.keep hbA)
          have hlit : (W3.alloc (.cells #[.slice a3 n3 c3] 23)).heap[W3.heap.size]? = some (.cells [.slice a3 n3 c3].toArray 23 (0, 0)) := heap_alloc_new W3 _
          have HLT0 := Lib.hid (SG.lit (size := 1) hlit rfl (by intro u hu; simp at hu; subst hu; rfl))
          have hsz4 := hbA.size
          clear hlit hbA
          go_wp2_with (at_builtin; refine wpList_appK rfl _ _ _ rfl el_rows w.heap.size _ _ _ rfl HGA.out.r.row ?cB2 (some ⟨W3.heap.size, 0, none⟩) 1 1 _ rfl HLT0.out ?cM2 ?cN2 ?_)
          case cB2 => omega
          case cM2 => unfold maxLen; omega
          case cN2 => omega
          intro out' W4 ho4 hg4 _ hb4
          have HR4 := Lib.hid (HGA.out.step hlt HLT.out ho4 hg4 (fun b e => (hb4 b e).imp_right (fun h => by simpa using h)))
          clear ho4 hg4 hb4 HGA HGM HLT0 HGR
          go_wp2_with fail
          go_roundw
          case rel => exact ⟨k + 1, _, by omega, by go_num, HR4.out⟩
          case measure => simp [intOf]; omega
    · go_wp2_with fail
      go_ret
      have e1 : k = n := by omega
      subst e1
      exact ⟨_, gs, rfl, HGR.out⟩
end Go.Proofs.YtfjjnffifnohkaaGreat
end

/- rows of cells and their marks: what the book does with the lists of a kind, in plain words. By an AI agent. -/
section
set_option linter.unusedVariables false
namespace Go.Proofs.YtfjjnffifnohkaaGreat
open Go.RowKit

/-- the marks of a kind of lists: z cells each -/
structure MK where
  z : Nat
  el : Nat → Nat → List Value
  len : ∀ i k, (el i k).length = z
  pos : 0 < z
def MK.row (m : MK) (i f n : Nat) : List Value := (List.range n).flatMap fun k => m.el i (f + k)
theorem MK.row_zero (m : MK) (i f : Nat) : m.row i f 0 = [] := rfl
theorem MK.row_succ (m : MK) (i f n : Nat) : m.row i f (n + 1) = m.row i f n ++ m.el i (f + n) := by
  unfold MK.row
  rw [List.range_succ, List.flatMap_append]
  simp
theorem MK.row_len (m : MK) (i f : Nat) : ∀ n, (m.row i f n).length = n * m.z
  | 0 => by rw [Nat.zero_mul]; rfl
  | n + 1 => by rw [m.row_succ, List.length_append, MK.row_len m i f n, m.len, Nat.succ_mul]
theorem MK.row_add (m : MK) (i f n k : Nat) : m.row i f n ++ m.row i (f + n) k = m.row i f (n + k) := by
  induction k with
  | zero => simp [MK.row]
  | succ k ih => rw [m.row_succ, ← List.append_assoc, ih, ← Nat.add_assoc, m.row_succ, Nat.add_assoc]

/-! ### several cells set anew -/
def setCs (W : World) (g : Nat) : Nat → List Value → World
  | _, [] => W
  | o, v :: l => setCs (W.setCell ⟨g, o, none⟩ v) g (o + 1) l
def setL (xs : List Value) : Nat → List Value → List Value
  | _, [] => xs
  | o, v :: l => setL (xs.set o v) (o + 1) l
theorem setL_mid : ∀ (M A C : List Value), M.length ≤ C.length → setL (A ++ C) A.length M = A ++ (M ++ C.drop M.length)
  | [], A, C, _ => by simp [setL]
  | v :: M, A, [], h => by simp at h
  | v :: M, A, c :: C, h => by
    have e : (A ++ c :: C).set A.length v = (A ++ [v]) ++ C := by simp
    show setL ((A ++ c :: C).set A.length v) (A.length + 1) M = _
    rw [e, show A.length + 1 = (A ++ [v]).length by simp, setL_mid M (A ++ [v]) C (by simpa using h)]
    simp
theorem grown_refl (w : World) (row : Option Nat) : w.grownBy w row := ⟨rfl, rfl, rfl, Nat.le_refl _, fun _ _ _ => rfl⟩
theorem grown_trans {a b c : World} {row : Option Nat} (h : a.grownBy b row) (k : b.grownBy c row) : a.grownBy c row :=
  ⟨k.os.trans h.os, k.tape.trans h.tape, k.output.trans h.output, Nat.le_trans h.size k.size, fun i hi hn => (k.block i (Nat.lt_of_lt_of_le hi h.size) hn).trans (h.block i hi hn)⟩
theorem own_setCs {B E z g n c : Nat} : ∀ (M : List Value) (w : World) (xs : List Value) (o : Nat), w.ownsRow B E z (.slice (some ⟨g, 0, none⟩) n c) n xs →
    (setCs w g o M).ownsRow B E z (.slice (some ⟨g, 0, none⟩) n c) n (setL xs o M) ∧ w.grownBy (setCs w g o M) (some g)
  | [], w, xs, o, h => ⟨h, grown_refl _ _⟩
  | v :: M, w, xs, o, h => by
    have h1 := World.ownsRow.stored h o v
    have h2 := own_setCs M (w.setCell ⟨g, o, none⟩ v) (xs.set o v) (o + 1) h1.1
    exact ⟨h2.1, grown_trans h1.2 h2.2⟩

theorem own_fives {w : World} {B E g n c : Nat} {xs : List Value} (h : w.ownsRow B E 5 (.slice (some ⟨g, 0, none⟩) n c) n xs) {o : Nat} (ho : o + 5 ≤ n * 5) :
    ∃ v0 v1 v2 v3 v4, w.cell? ⟨g, o, none⟩ = some v0 ∧ w.cell? ⟨g, o + 1, none⟩ = some v1 ∧ w.cell? ⟨g, o + 2, none⟩ = some v2 ∧ w.cell? ⟨g, o + 3, none⟩ = some v3 ∧ w.cell? ⟨g, o + 4, none⟩ = some v4 ∧
      w.frozen? ⟨g, o, none⟩ = false ∧ w.frozen? ⟨g, o + 1, none⟩ = false ∧ w.frozen? ⟨g, o + 2, none⟩ = false ∧ w.frozen? ⟨g, o + 3, none⟩ = false ∧ w.frozen? ⟨g, o + 4, none⟩ = false := by
  have hl := h.1
  have key : ∀ r, r < 5 → w.cell? ⟨g, o + r, none⟩ = some (xs[o + r]?.getD undef) := fun r hr => by
    rw [h.cellAt (o + r) (by omega), List.getElem?_eq_getElem (by omega)]; rfl
  exact ⟨_, _, _, _, _, key 0 (by omega), key 1 (by omega), key 2 (by omega), key 3 (by omega), key 4 (by omega), h.frozenAt _, h.frozenAt _, h.frozenAt _, h.frozenAt _, h.frozenAt _⟩
/-- what stands in the j-th list when the lists ahead of k are marked, and of this one the first q -/
def curC (m : MK) (cs : Nat → List Value) (ln : Nat → Nat) (k q j : Nat) : List Value := if j < k then m.row j 0 (ln j) else if j = k then m.row k 0 q ++ (cs k).drop (q * m.z) else cs j
section
variable {m : MK} {cs : Nat → List Value} {ln : Nat → Nat}
theorem curC_zero (j : Nat) : curC m cs ln 0 0 j = cs j := by
  unfold curC
  by_cases e : j = 0
  · subst e; simp [MK.row_zero]
  · simp [e]
theorem curC_next {k : Nat} (hl : (cs k).length = ln k * m.z) (j : Nat) : curC m cs ln k (ln k) j = curC m cs ln (k + 1) 0 j := by
  unfold curC
  by_cases e1 : j < k
  · rw [if_pos e1, if_pos (by omega)]
  · by_cases e2 : j = k
    · subst e2
      rw [if_neg e1, if_pos rfl, if_pos (by omega), ← hl, List.drop_length, List.append_nil]
    · rw [if_neg e1, if_neg e2, if_neg (by omega)]
      by_cases e3 : j = k + 1
      · subst e3; simp [MK.row_zero]
      · rw [if_neg e3]
theorem curC_end {n j : Nat} (h : j < n) (q : Nat) : curC m cs ln n q j = m.row j 0 (ln j) := by unfold curC; rw [if_pos h]
theorem curC_step {k q : Nat} (hl : (cs k).length = ln k * m.z) (hq : q < ln k) : setL (curC m cs ln k q k) (q * m.z) (m.el k q) = curC m cs ln k (q + 1) k := by
  unfold curC
  rw [if_neg (Nat.lt_irrefl k), if_pos rfl, if_neg (Nat.lt_irrefl k), if_pos rfl]
  have e := setL_mid (m.el k q) (m.row k 0 q) ((cs k).drop (q * m.z)) (by
    rw [m.len, List.length_drop, hl]
    have : (q + 1) * m.z ≤ ln k * m.z := Nat.mul_le_mul_right _ (by omega)
    rw [Nat.succ_mul] at this; omega)
  rw [m.row_len] at e
  rw [e, m.len, List.drop_drop, m.row_succ, Nat.zero_add, Nat.succ_mul, List.append_assoc]
theorem curC_ne {k q j : Nat} (h : j ≠ k) : curC m cs ln k (q + 1) j = curC m cs ln k q j := by
  unfold curC
  by_cases e : j < k
  · rw [if_pos e, if_pos e]
  · rw [if_neg e, if_neg e, if_neg h, if_neg h]
end

/-! ### lists that grow -/
theorem own_pre {B E z : Nat} {w w' : World} {v l : Value} {n k : Nat} {xs ys : List Value} (hv : w.ownsRow B E z v n xs) (hl : w.ownsRow B E z l (n + k) (xs ++ ys)) (hg : w.grownBy w' l.ownBlock) (hl' : w'.ownsRow B E z l (n + k) (xs ++ ys)) : w'.ownsRow B E z v n xs := by
  by_cases e : v.ownBlock = none ∨ v.ownBlock ≠ l.ownBlock
  · exact World.ownsRow.kept hv hg e
  · have e1 : v.ownBlock ≠ none := fun h => e (.inl h)
    have e2 : v.ownBlock = l.ownBlock := Classical.byContradiction fun h => e (.inr h)
    obtain ⟨h1, ⟨rfl, _⟩ | ⟨g, cap, cur, rfl, hB, hgc, hn, hm, hs, ht⟩⟩ := hv
    · exact absurd rfl e1
    · obtain ⟨k1, ⟨rfl, _⟩ | ⟨g2, cap2, cur2, rfl, hB2, hgc2, hn2, hm2, hs2, ht2⟩⟩ := hl
      · simp [Value.ownBlock] at e2
      · simp [Value.ownBlock] at e2
        subst e2
        rw [hgc] at hgc2
        cases hgc2
        obtain ⟨j1, ⟨hq, _⟩ | ⟨g3, cap3, cur3, hq, hB3, hgc3, hn3, hm3, hs3, ht3⟩⟩ := hl'
        · cases hq
        · simp only [Value.slice.injEq, Option.some.injEq, Addr.mk.injEq, and_true, true_and] at hq
          obtain ⟨rfl, rfl⟩ := hq
          have hcc : cap * z = cap2 * z := hs.symm.trans hs2
          refine ⟨h1, .inr ⟨g, cap, cur3, rfl, hB, hgc3, hn, hm, by rw [hs3]; exact hcc.symm, ?_⟩⟩
          have e3 : cur3.toList.take (n * z) = (cur3.toList.take ((n + k) * z)).take (n * z) := by
            rw [List.take_take, Nat.min_eq_left (Nat.mul_le_mul_right _ (by omega))]
          rw [e3, ht3, ← h1, List.take_left]
/-- the state while one list grows -/
structure GLk (E z : Nat) (S' : Nat → Prop) (B : Nat) (W1 Y : World) (v l : Value) (n k : Nat) (xs ys : List Value) : Prop where
  fr : Fr S' W1 Y
  ol : Y.ownsRow B E z l (n + k) (xs ++ ys)
  ov : Y.ownsRow B E z v n xs
  blk : ∀ b, l.ownBlock = some b → v.ownBlock = some b ∨ W1.heap.size ≤ b
section
variable {E z : Nat}
theorem GLk.keep {S' : Nat → Prop} {B : Nat} {W1 Y Y' : World} {v l : Value} {n k : Nat} {xs ys : List Value} (h : GLk E z S' B W1 Y v l n k xs ys) (hb : Bl Y Y') : GLk E z S' B W1 Y' v l n k xs ys := ⟨h.fr.bl hb, ownsRow_bl h.ol hb, ownsRow_bl h.ov hb, h.blk⟩
theorem GLk.step {S' : Nat → Prop} {B : Nat} {W1 Y Y' : World} {v l l' : Value} {n k p : Nat} {xs ys zs : List Value} (h : GLk E z S' B W1 Y v l n k xs ys) (hS : ∀ b, v.ownBlock = some b → S' b) (hown : Y'.ownsRow B E z l' (n + k + p) ((xs ++ ys) ++ zs))
    (hg : Y.grownBy Y' l.ownBlock) (hl : Y'.ownsRow B E z l (n + k) (xs ++ ys)) (hb : ∀ b, l'.ownBlock = some b → l.ownBlock = some b ∨ Y.heap.size ≤ b) : GLk E z S' B W1 Y' v l' n (k + p) xs (ys ++ zs) := by
  refine ⟨?_, ?_, own_pre h.ov h.ol hg hl, fun b e => ?_⟩
  · refine ⟨hg.os.trans h.fr.os, hg.tape.trans h.fr.tape, hg.output.trans h.fr.output, Nat.le_trans h.fr.size hg.size, fun k hk hs => ?_⟩
    rw [hg.block k (Nat.lt_of_lt_of_le hk h.fr.size) (fun e => ?_), h.fr.block k hk hs]
    rcases h.blk k e.symm with q | q
    · exact hs (hS k q)
    · omega
  · rw [← List.append_assoc, ← Nat.add_assoc]
    exact hown
  · rcases hb b e with q | q
    · exact h.blk b q
    · exact .inr (Nat.le_trans h.fr.size q)
end
/-- the blocks of n values -/
def SBk (n : Nat) (vs : Nat → Value) (b : Nat) : Prop := ∃ j, j < n ∧ (vs j).ownBlock = some b
/-- the state of a kind's grow ahead of the k-th list -/
structure GRk (E L : Nat) (m : MK) (B n : Nat) (vs : Nat → Value) (ms : Nat → Nat) (w W : World) (k : Nat) (out : Value) (gs : Nat → Value) : Prop where
  fr : Fr (SBk n vs) w W
  row : W.ownsRow w.heap.size L 1 out k ((List.range k).map gs)
  ogs : ∀ j, j < k → W.ownsRow B E m.z (gs j) (ms j + 72) (m.row j 0 (ms j + 72))
  ovs : ∀ j, j < n → W.ownsRow B E m.z (vs j) (ms j) (m.row j 0 (ms j))
  apg : ∀ j, j < k → ∀ b, (gs j).ownBlock = some b → (vs j).ownBlock = some b ∨ (w.heap.size ≤ b ∧ out.ownBlock ≠ some b)
structure GMk (E L : Nat) (m : MK) (B n : Nat) (vs : Nat → Value) (ms : Nat → Nat) (w W : World) (k : Nat) (out : Value) (gs : Nat → Value) (l : Value) : Prop where
  r : GRk E L m B n vs ms w W k out gs
  ol : W.ownsRow B E m.z l (ms k + 72) (m.row k 0 (ms k + 72))
  bl : ∀ b, l.ownBlock = some b → (vs k).ownBlock = some b ∨ (w.heap.size ≤ b ∧ out.ownBlock ≠ some b)
section
variable {E L : Nat} {m : MK}
theorem GRk.keep {B n : Nat} {vs : Nat → Value} {ms : Nat → Nat} {w W W' : World} {k : Nat} {out : Value} {gs : Nat → Value} (h : GRk E L m B n vs ms w W k out gs) (hb : Bl W W') : GRk E L m B n vs ms w W' k out gs :=
  ⟨h.fr.bl hb, ownsRow_bl h.row hb, fun j hj => ownsRow_bl (h.ogs j hj) hb, fun j hj => ownsRow_bl (h.ovs j hj) hb, h.apg⟩
theorem GMk.keep {B n : Nat} {vs : Nat → Value} {ms : Nat → Nat} {w W W' : World} {k : Nat} {out : Value} {gs : Nat → Value} {l : Value} (h : GMk E L m B n vs ms w W k out gs l) (hb : Bl W W') : GMk E L m B n vs ms w W' k out gs l :=
  ⟨h.r.keep hb, ownsRow_bl h.ol hb, h.bl⟩
theorem GRk.grown {B n : Nat} {vs : Nat → Value} {ms : Nat → Nat} {w W Y : World} {k : Nat} {out : Value} {gs : Nat → Value} {l : Value} (h : GRk E L m B n vs ms w W k out gs) (hk : k < n)
    (hap : ∀ i j, i < n → j < n → i ≠ j → (vs i).ownBlock = none ∨ (vs i).ownBlock ≠ (vs j).ownBlock) (hlt : ∀ b, SBk n vs b → b < w.heap.size)
    (hl : GLk E m.z (fun b => (vs k).ownBlock = some b) B W Y (vs k) l (ms k) 72 (m.row k 0 (ms k)) (m.row k (ms k) 72)) (hkn : k ≤ n) : GMk E L m B n vs ms w Y k out gs l := by
  have hvk : ∀ b, (vs k).ownBlock = some b → b < w.heap.size := fun b e => hlt b ⟨k, hk, e⟩
  have hout : ∀ b, out.ownBlock = some b → w.heap.size ≤ b ∧ b < W.heap.size := World.ownsRow.lt h.row
  have hne : ∀ j, j < n → j ≠ k → ∀ b, (vs j).ownBlock = some b → ¬ (vs k).ownBlock = some b := fun j hj e b e1 e2 => by
    rcases hap j k hj hk e with q | q
    · rw [q] at e1; cases e1
    · exact q (e1.trans e2.symm)
  refine ⟨⟨?_, ?_, fun j hj => ?_, fun j hj => ?_, h.apg⟩, ?_, fun b e => ?_⟩
  · refine h.fr.trans ⟨hl.fr.os, hl.fr.tape, hl.fr.output, hl.fr.size, fun b hb hs => hl.fr.block b hb (fun e => hs ⟨k, hk, e⟩)⟩
  · exact hl.fr.own h.row (fun b e e2 => by have := hvk b e2; have := (hout b e).1; omega)
  · exact hl.fr.own (h.ogs j hj) (fun b e e2 => by
      rcases h.apg j hj b e with q | q
      · exact hne j (by omega) (by omega) b q e2
      · have := hvk b e2; omega)
  · by_cases e : j = k
    · subst e; exact hl.ov
    · exact hl.fr.own (h.ovs j hj) (fun b e1 e2 => hne j hj e b e1 e2)
  · have := hl.ol
    rw [show m.row k (ms k) 72 = m.row k (0 + ms k) 72 by rw [Nat.zero_add], m.row_add] at this
    exact this
  · rcases hl.blk b e with q | q
    · exact .inl q
    · exact .inr ⟨Nat.le_trans h.fr.size q, fun e2 => by have := (hout b e2).2; omega⟩
theorem GMk.step {B n : Nat} {vs : Nat → Value} {ms : Nat → Nat} {w W W' : World} {k : Nat} {out out' : Value} {gs : Nat → Value} {l : Value} (h : GMk E L m B n vs ms w W k out gs l) (hk : k < n)
    (hlt : ∀ b, SBk n vs b → b < w.heap.size) (ho : W'.ownsRow w.heap.size L 1 out' (k + 1) ((List.range k).map gs ++ [l])) (hg : W.grownBy W' out.ownBlock)
    (hb : ∀ b, out'.ownBlock = some b → out.ownBlock = some b ∨ W.heap.size ≤ b) : GRk E L m B n vs ms w W' (k + 1) out' (fun j => if j = k then l else gs j) := by
  have hout : ∀ b, out.ownBlock = some b → w.heap.size ≤ b ∧ b < W.heap.size := World.ownsRow.lt h.r.row
  have hvo : ∀ j, j < n → (vs j).ownBlock = none ∨ (vs j).ownBlock ≠ out.ownBlock := fun j hj => by
    cases e : (vs j).ownBlock with
    | none => exact .inl rfl
    | some b => exact .inr (fun e2 => by have := hlt b ⟨j, hj, e⟩; have := (hout b e2.symm).1; omega)
  have hgo : ∀ j, j < k → (gs j).ownBlock = none ∨ (gs j).ownBlock ≠ out.ownBlock := fun j hj => by
    cases e : (gs j).ownBlock with
    | none => exact .inl rfl
    | some b =>
      refine .inr (fun e2 => ?_)
      rcases h.r.apg j hj b e with q | q
      · have := hlt b ⟨j, by omega, q⟩; have := (hout b e2.symm).1; omega
      · exact q.2 e2.symm
  have hlo : l.ownBlock = none ∨ l.ownBlock ≠ out.ownBlock := by
    cases e : l.ownBlock with
    | none => exact .inl rfl
    | some b =>
      refine .inr (fun e2 => ?_)
      rcases h.bl b e with q | q
      · have := hlt b ⟨k, hk, q⟩; have := (hout b e2.symm).1; omega
      · exact q.2 e2.symm
  refine ⟨⟨hg.os.trans h.r.fr.os, hg.tape.trans h.r.fr.tape, hg.output.trans h.r.fr.output, Nat.le_trans h.r.fr.size hg.size, fun b hb hs => ?_⟩, ?_, fun j hj => ?_, fun j hj => World.ownsRow.kept (h.r.ovs j hj) hg (hvo j hj), fun j hj b e => ?_⟩
  · rw [hg.block b (Nat.lt_of_lt_of_le hb h.r.fr.size) (fun e => by have := (hout b e.symm).1; omega), h.r.fr.block b hb hs]
  · have e : (List.range (k + 1)).map (fun j => if j = k then l else gs j) = (List.range k).map gs ++ [l] := by
      rw [List.range_succ, List.map_append]
      congr 1
      · exact List.map_congr_left (fun j hj => if_neg (by have := List.mem_range.1 hj; omega))
      · simp
    rw [e]; exact ho
  · by_cases e : j = k
    · subst e; rw [if_pos rfl]; exact World.ownsRow.kept h.ol hg hlo
    · rw [if_neg e]; exact World.ownsRow.kept (h.r.ogs j (by omega)) hg (hgo j (by omega))
  · by_cases e1 : j = k
    · subst e1
      rw [if_pos rfl] at e
      rcases h.bl b e with q | q
      · exact .inl q
      · refine .inr ⟨q.1, fun e2 => ?_⟩
        rcases hb b e2 with q2 | q2
        · exact q.2 q2
        · have := (World.ownsRow.lt h.ol b e).2; omega
    · rw [if_neg e1] at e
      rcases h.r.apg j (by omega) b e with q | q
      · exact .inl q
      · refine .inr ⟨q.1, fun e2 => ?_⟩
        rcases hb b e2 with q2 | q2
        · exact q.2 q2
        · have := (World.ownsRow.lt (h.r.ogs j (by omega)) b e).2; omega
end
end Go.Proofs.YtfjjnffifnohkaaGreat
end
