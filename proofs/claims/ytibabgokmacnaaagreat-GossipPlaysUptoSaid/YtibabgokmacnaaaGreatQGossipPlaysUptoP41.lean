import Derived.Test.YtibabgokmacnaaaGreatQGossipPlaysUptoP29
import Derived.Test.YtibabgokmacnaaaGreatQGossipPlaysUptoP16
import Derived.Test.YtibabgokmacnaaaGreatQGossipPlaysUptoP30
import Derived.Test.YtibabgokmacnaaaGreatQGossipPlaysUptoP40
import Derived.Test.YtibabgokmacnaaaGreatQGossipPlaysUptoP3

/- bedrockref17.Rows.Set: which blocks turn. By an AI agent. -/
section
set_option linter.unusedVariables false
set_option linter.unusedSimpArgs false
namespace Go.Proofs.YtibabgokmacnaaaGreat
open Go.RowKit

/-- ints do not lie in a box of a slice -/
theorem IA.c1 {w : World} {ad : Option Addr} {n : Nat} {xs : List Int} {g : Nat} {a : Option Addr} {m c : Nat} (hx : IA w ad n xs) (hc : C1 w g (.slice a m c)) (u : Value) : IA (w.setCell ⟨g, 0, none⟩ u) ad n xs := by
  refine ⟨hx.len, hx.cap, fun j hj => ?_, hx.wf⟩
  obtain ⟨b, off, e, h⟩ := hx.cells j hj
  refine ⟨b, off, e, fun i hi => ?_⟩
  have hcell := h i hi
  have hne : b ≠ g := by
    rintro rfl
    obtain ⟨t, hc⟩ := hc
    rw [cell_of_row w b (off + i) _ t (0, 0) hc] at hcell
    cases hoi : off + i with
    | zero => rw [hoi] at hcell; simp at hcell
    | succ q => rw [hoi] at hcell; simp at hcell
  rw [World.cell?_setCell_far _ _ _ _ (show g ≠ b from fun e => hne e.symm)]
  exact hcell
theorem sg_rows {w : World} {B n h cap : Nat} {vs : List Value} {rows : List (List Int)} (hown : w.ownsRow B 23 1 (.slice (some ⟨h, 0, none⟩) n cap) n vs) (hvl : vs.length = n) (hrr : ∀ i, FI B w (nthV vs i) (nthR rows i)) : SG w 1 (some ⟨h, 0, none⟩) n vs := by
  refine ⟨by omega, fun ad e j u hu => ?_, fun e => (by cases e), fun u hu => ?_⟩
  · obtain rfl := Option.some.inj e
    have hj : j < n := by rw [← hvl]; exact (List.getElem?_eq_some_iff.1 hu).1
    obtain ⟨h0, c0, e1, _, hcell, _⟩ := OR.cellAt hown hj
    obtain ⟨rfl, rfl⟩ : h = h0 ∧ cap = c0 := by simp at e1; exact e1
    rw [Addr.add_lit, Nat.zero_add, hcell]
    unfold nthV
    rw [List.getD_eq_getElem?_getD, hu]; rfl
  · obtain ⟨j, hj, rfl⟩ := List.mem_iff_getElem.1 hu
    obtain ⟨a, m, c, e, _⟩ := (hrr j).si
    have : nthV vs j = vs[j] := by simp [nthV, hj]
    rw [← this, e]; rfl
theorem Fr.new {S : Nat → Prop} {a b c : World} (h : Fr S a b) (k : Fr (fun i => a.heap.size ≤ i) b c) : Fr S a c :=
  ⟨k.os.trans h.os, k.tape.trans h.tape, k.output.trans h.output, Nat.le_trans h.size k.size, fun i hi hs => (k.block i (Nat.lt_of_lt_of_le hi h.size) (by omega)).trans (h.block i hi hs)⟩
theorem Fr.set (w : World) (g j : Nat) (u : Value) : Fr (fun b => b = g) w (w.setCell ⟨g, j, none⟩ u) := (Fr.refl _ w).grown (grown_set w g j u) (fun i e => (Option.some.inj e).symm)

set_option maxHeartbeats 1600000 in
set_option maxRecDepth 100000 in
theorem rset_yes (T : Nat → Prop) (B g h n c : Nat) (ad : Option Addr) (k : Nat) (rows : List (List Int)) (xs : List Int) (w : World) (hr : RT T B w g h rows) (hn : rows.length = n) (hn8 : n ≤ 8) (hk : k < n) (hx : IA w ad n xs) (hv : validL xs = true) :
    Calls Tryz.prog 39 #[.pointer (some ⟨g, 0, none⟩), .int .i64 k, .slice ad n c] w fun e w' => e = .returned (.int .i64 0) ∧ Fr (fun b => b = g) w w' ∧ (∀ X, TyAt X w g → TyAt X w' g) ∧ ∃ h', RT (TN T w w') B w' g h' (rows.set k (joinL (nthR rows k) xs)) := by
  obtain ⟨cap, vs, hc, hBg, hown, hvl, hrr, hT⟩ := hr
  subst hn
  have HSG := Lib.hid (sg_rows hown hvl hrr)
  have hgl := hc.lt
  obtain ⟨ai, ni, ci, hvk, hIk⟩ := (hrr k).si
  have hkn : ((k : Nat) : Int) < (rows.length : Int) := by omega
  have HRR := Lib.hid hrr; clear hrr
  have HVK := Lib.hid hvk; clear hvk
  have HT := Lib.hid hT; clear hT
  have hcc := hc.cell
  have hcf := hc.frozen
  have q1 : ((rows.length : Int) != (rows.length : Int)) = false := by simp
  have h0k : (0 : Int) ≤ (k : Int) := by omega
  go_enter Tryz.func39, Tryz.ntmps39
  go_wp2_with fail
  refine (rvalid_any ad _ c xs _ hx).mono ?_
  rintro e w1 ⟨rfl, rfl⟩
  rw [hv]
  go_wp2_with (at_builtin; refine wpList_appG rfl _ _ _ rfl el_row w.heap.size _ 0 [] rfl (World.ownsRow_nil _ _ _ _) (Nat.le_refl _) _ rows.length cap vs rfl HSG.out ?c2 ?c3 ?_)
  case c2 => unfold maxLen; omega
  case c3 => omega
  intro v' w4 ho4 hg4
  have hb4 : Bl w w4 := Bl.ownRow (Bl.refl w) (World.ownsRow_nil w w.heap.size 23 1) (Nat.le_refl _) hg4
  obtain ⟨h2, cap2, rfl, hB2, hcell, hfz⟩ := OR.cellAt ho4 hk
  rw [HVK.out] at hcell
  have hd := hc.keep hb4
  have hdc := hd.cell
  have hdf := hd.frozen
  have hd2 := hd.set (.slice (some ⟨h2, 0, none⟩) rows.length cap2)
  have hIk4 := (hIk.keep hb4).c1 hd (.slice (some ⟨h2, 0, none⟩) rows.length cap2)
  have hx4 := (hx.keep hb4).c1 hd (.slice (some ⟨h2, 0, none⟩) rows.length cap2)
  have hF4 := Lib.hid (Fr.set w4 g 0 (.slice (some ⟨h2, 0, none⟩) rows.length cap2))
  have HB4 := Lib.hid hb4
  have HO4 := Lib.hid ho4
  have hgh : g ≠ h2 := by omega
  have hcell6 : (w4.setCell ⟨g, 0, none⟩ (.slice (some ⟨h2, 0, none⟩) rows.length cap2)).cell? ⟨h2, k, none⟩ = some (.slice ai ni ci) := by
    rw [World.cell?_setCell_far _ _ _ _ (show g ≠ h2 from hgh)]; exact hcell
  have hfz6 : (w4.setCell ⟨g, 0, none⟩ (.slice (some ⟨h2, 0, none⟩) rows.length cap2)).frozen? ⟨h2, k, none⟩ = false := by
    have := Below.heap_setCell w4 ⟨g, 0, none⟩ (.slice (some ⟨h2, 0, none⟩) rows.length cap2) h2 (fun e => hgh e.symm)
    unfold World.frozen? at hfz ⊢
    rw [this]; exact hfz
  clear hIk hx hcell hfz ho4 hg4 hb4 hown
  have HVK4 := Lib.hid HVK.out
  go_wp2_with fail
  generalize hW6 : w4.setCell ⟨g, 0, none⟩ (.slice (some ⟨h2, 0, none⟩) rows.length cap2) = W6 at *
  have HW6 := Lib.hid hW6
  have hd2c := hd2.cell
  have HD := Lib.hid hd
  clear hW6 hcc hcf hdc hdf hc hd HSG
  go_region_law (go_simp; refine (rjoin3_any ai ad ni rows.length ci c (nthR rows k) xs W6.drew (hIk4.keep (Bl.refl W6).drew) (hx4.keep (Bl.refl W6).drew)).mono ?_; rintro e wz ⟨vz, rfl, hfz2, hbz⟩; obtain ⟨az, nz, cz, rfl, hIz⟩ := hfz2.si; have hbw := Bl.ofDrew hbz; have hzc := hbw.cell hd2c; have hzk := hbw.cell hcell6; have hzf := frozen_keep hbw hcell6 hfz6; dsimp only)
  all_goals (
    have hs6 : W6.heap.size = w4.heap.size := by rw [← HW6.out]; simp
    have hF6 : Fr (fun b => b = g) w4 W6 := hF4.out
    have ho6 : W6.ownsRow (g + 1) 23 1 (.slice (some ⟨h2, 0, none⟩) rows.length cap2) rows.length vs := hF6.own (World.ownsRow.mono HO4.out (by omega)) (fun b e => by have := (World.ownsRow.lt HO4.out b e).1; omega)
    have hr6 : ∀ i, FI (g + 1) W6 (nthV vs i) (nthR rows i) := fun i => ((HRR.out i).keep HB4.out).fr hF6 (fun b e => by have := (World.ownsRow.lt (HRR.out i).own b e).1; omega)
    have hl2 : h2 < w4.heap.size := (World.ownsRow.lt HO4.out h2 rfl).2
    have R := RT.store (T := TN T w W6) (B := B) hBg hd2 ho6 hvl hr6 (by omega) ⟨.inl HT.out.1, .inr ⟨hB2, by rw [hs6]; exact hl2⟩, fun i b e => .inl (HT.out.2.2 i b e)⟩ hbw (hfz2.mono (by show W6.heap.size ≤ W6.drew.heap.size; exact Nat.le_refl _)) hk
    have RF := Lib.hid ((((Fr.refl (fun b => b = g) w).bl HB4.out).trans hF6).new (R.1.mono (fun b e => by subst e; exact hB2)))
    have RTy := Lib.hid (show ∀ X, TyAt X w g → TyAt X (wz.setCell ⟨h2, k, none⟩ (.slice az nz cz)) g from fun X q => by
      have q6 : TyAt X W6 g := HW6.out ▸ (q.keep HB4.out).set HD.out _
      exact (q6.keep hbw).fr (Fr.set wz h2 k _) (by omega))
    have RR := Lib.hid (R.2.mono (T' := TN T w (wz.setCell ⟨h2, k, none⟩ (.slice az nz cz))) (fun b q => by
      have h1 := HB4.out.size
      have h2 := R.1.size
      rcases q with (q | q) | q
      · exact .inl q
      · exact .inr ⟨q.1, Nat.lt_of_lt_of_le q.2 h2⟩
      · exact .inr ⟨by omega, q.2⟩) (Nat.le_refl _))
    clear R HRR HVK HVK4 HT hfz2 hIz hIk4 hx4 hzc hzk hzf hcell6 hfz6 hd2c hF4 HB4 HO4 hF6 ho6 hr6 HW6 HD
    go_wp2_with fail
    go_ret
    exact ⟨rfl, RF.out, RTy.out, h2, RR.out⟩)
theorem rset_index (B g m c : Nat) (ad : Option Addr) (i : Int) (rows : List (List Int)) (w : World) (hr : RG B w g rows) (h1 : 1 ≤ rows.length) (hn8 : rows.length ≤ 8) (hi : i < 0 ∨ (rows.length : Int) ≤ i) :
    Calls Tryz.prog 39 #[.pointer (some ⟨g, 0, none⟩), .int .i64 i, .slice ad m c] w fun e w' => e = .returned (.int .i64 5) ∧ w = w' := by
  obtain ⟨v, hc, _, hor⟩ := hr
  obtain ⟨a0, cap, rfl⟩ := hor.slice
  have hcc := hc.cell
  have q0 : decide (rows.length = 0) = false := decide_eq_false (by omega)
  by_cases h0 : i < 0
  · clear hi
    go_enter Tryz.func39, Tryz.ntmps39
    go_wp2_with fail
    go_ret
    exact ⟨rfl, rfl⟩
  · have h2 : (rows.length : Int) ≤ i := by omega
    clear hi
    go_enter Tryz.func39, Tryz.ntmps39
    go_wp2_with fail
    go_ret
    exact ⟨rfl, rfl⟩

set_option maxHeartbeats 800000 in
theorem rset_arg (B g m c k : Nat) (ad : Option Addr) (rows : List (List Int)) (xs : List Int) (w : World) (hr : RG B w g rows) (h1 : 1 ≤ rows.length) (hn8 : rows.length ≤ 8) (hk : k < rows.length) (hx : IA w ad m xs) (hv : validL xs = false ∨ m ≠ rows.length) :
    Calls Tryz.prog 39 #[.pointer (some ⟨g, 0, none⟩), .int .i64 k, .slice ad m c] w fun e w' => e = .returned (.int .i64 1) ∧ w = w' := by
  obtain ⟨v, hc, _, hor⟩ := hr
  obtain ⟨a0, cap, rfl⟩ := hor.slice
  have hcc := hc.cell
  have hkn : ((k : Nat) : Int) < (rows.length : Int) := by omega
  have hm := hx.cap
  cases hvx : validL xs
  · clear hv
    go_enter Tryz.func39, Tryz.ntmps39
    go_wp2_with fail
    refine (rvalid_any ad _ c xs _ hx).mono ?_
    rintro e w1 ⟨rfl, rfl⟩
    rw [hvx]
    go_wp2_with fail
    go_ret
    exact ⟨rfl, rfl⟩
  · have q1 : ((m : Int) != (rows.length : Int)) = true := by
      rcases hv with h | h
      · rw [hvx] at h; cases h
      · simp; omega
    clear hv
    go_enter Tryz.func39, Tryz.ntmps39
    go_wp2_with fail
    refine (rvalid_any ad _ c xs _ hx).mono ?_
    rintro e w1 ⟨rfl, rfl⟩
    rw [hvx]
    go_wp2_with fail
    go_ret
    exact ⟨rfl, rfl⟩
theorem rset_any (T : Nat → Prop) (B g h m c : Nat) (ad : Option Addr) (i : Int) (rows : List (List Int)) (xs : List Int) (w : World) (hr : RT T B w g h rows) (h1 : 1 ≤ rows.length) (hn8 : rows.length ≤ 8) (hx : IA w ad m xs) :
    Calls Tryz.prog 39 #[.pointer (some ⟨g, 0, none⟩), .int .i64 i, .slice ad m c] w fun e w' => e = .returned (.int .i64 (setE rows i xs)) ∧ Fr (fun b => b = g) w w' ∧ (∀ X, TyAt X w g → TyAt X w' g) ∧ ∃ h', RT (TN T w w') B w' g h' (setR rows i xs) := by
  unfold setE setR
  by_cases hi : i < 0 ∨ (rows.length : Int) ≤ i
  · rw [if_pos hi, if_pos hi]
    refine (rset_index B g m c ad i rows w hr.rg h1 hn8 hi).mono ?_
    rintro e w' ⟨rfl, rfl⟩
    exact ⟨rfl, Fr.refl _ _, fun _ q => q, h, hr.mono (fun _ q => .inl q) (Nat.le_refl _)⟩
  · rw [if_neg hi, if_neg hi]
    obtain ⟨k, rfl⟩ : ∃ k : Nat, i = k := ⟨i.toNat, by omega⟩
    by_cases hv : validL xs = true ∧ xs.length = rows.length
    · rw [if_pos hv, if_pos hv]
      obtain rfl : m = rows.length := by rw [← hx.len]; exact hv.2
      exact rset_yes T B g h _ c ad k rows xs w hr rfl hn8 (by omega) hx hv.1
    · rw [if_neg hv, if_neg hv]
      refine (rset_arg B g m c k ad rows xs w hr.rg h1 hn8 (by omega) hx ?_).mono ?_
      · rw [← hx.len]
        cases h2 : validL xs
        · exact .inl rfl
        · exact .inr fun e => hv ⟨h2, e⟩
      · rintro e w' ⟨rfl, rfl⟩
        exact ⟨rfl, Fr.refl _ _, fun _ q => q, h, hr.mono (fun _ q => .inl q) (Nat.le_refl _)⟩
end Go.Proofs.YtibabgokmacnaaaGreat
end

/- the lattice of vectors, number by number: plain laws. By an AI agent. -/
section
set_option linter.unusedVariables false
namespace Go.Proofs.YtibabgokmacnaaaGreat
open Go.RowKit

/-! ### the lattice, number by number -/
theorem each_len (t : Int → Int → Int) {xs ys : List Int} (h : xs.length = ys.length) : (eachL t xs ys).length = xs.length := by
  rw [eachL, if_pos h]; simp; omega
theorem each_nth (t : Int → Int → Int) {xs ys : List Int} (h : xs.length = ys.length) {j : Nat} (hj : j < xs.length) : nth (eachL t xs ys) j = t (nth xs j) (nth ys j) := by
  have h1 := zip_take (t := t) h hj
  have hl : (List.zipWith t xs ys).length = xs.length := by simp; omega
  rw [eachL, if_pos h, nth_eq (by rw [hl]; exact hj), List.getElem_zipWith, nth_eq hj, nth_eq (by omega)]
theorem join_len' {xs ys : List Int} (h : xs.length = ys.length) : (joinL xs ys).length = xs.length := each_len _ h
theorem meet_len' {xs ys : List Int} (h : xs.length = ys.length) : (meetL xs ys).length = xs.length := each_len _ h
theorem join_nth {xs ys : List Int} (h : xs.length = ys.length) {j : Nat} (hj : j < xs.length) : nth (joinL xs ys) j = max (nth xs j) (nth ys j) := each_nth _ h hj
theorem meet_nth {xs ys : List Int} (h : xs.length = ys.length) {j : Nat} (hj : j < xs.length) : nth (meetL xs ys) j = min (nth xs j) (nth ys j) := each_nth _ h hj

theorem leq_refl (xs : List Int) : leqL xs xs = true := (leqL_iff rfl).2 fun _ _ => Int.le_refl _
theorem leq_trans {xs ys zs : List Int} (h1 : xs.length = ys.length) (h2 : ys.length = zs.length) (ha : leqL xs ys = true) (hb : leqL ys zs = true) : leqL xs zs = true :=
  (leqL_iff (h1.trans h2)).2 fun j hj => Int.le_trans ((leqL_iff h1).1 ha j hj) ((leqL_iff h2).1 hb j (by omega))
theorem leq_anti {xs ys : List Int} (h : xs.length = ys.length) (ha : leqL xs ys = true) : leqL ys xs = decide (xs = ys) := by
  rw [Bool.eq_iff_iff, decide_eq_true_eq]
  constructor
  · intro hb
    exact getD_ext h fun j hj => Int.le_antisymm ((leqL_iff h).1 ha j hj) ((leqL_iff h.symm).1 hb j (by omega))
  · rintro rfl; exact leq_refl _
section
variable {xs ys zs : List Int} (h : xs.length = ys.length) (h2 : ys.length = zs.length)
include h
theorem leq_join1 : leqL xs (joinL xs ys) = true := (leqL_iff (join_len' h).symm).2 fun j hj => by rw [join_nth h hj]; omega
theorem leq_join2 : leqL ys (joinL xs ys) = true := (leqL_iff ((join_len' h).trans h).symm).2 fun j hj => by rw [join_nth h (by omega)]; omega
theorem meet_leq1 : leqL (meetL xs ys) xs = true := (leqL_iff (meet_len' h)).2 fun j hj => by rw [meet_len' h] at hj; rw [meet_nth h hj]; omega
theorem meet_leq2 : leqL (meetL xs ys) ys = true := (leqL_iff ((meet_len' h).trans h)).2 fun j hj => by rw [meet_len' h] at hj; rw [meet_nth h hj]; omega
theorem leq_eq_join : leqL xs ys = decide (joinL xs ys = ys) := by
  rw [Bool.eq_iff_iff, decide_eq_true_eq, leqL_iff h]
  constructor
  · intro ha
    refine getD_ext ((join_len' h).trans h) fun j hj => ?_
    rw [join_len' h] at hj
    rw [join_nth h hj]; have := ha j hj; omega
  · intro e j hj
    have := join_nth h hj
    rw [e] at this; omega
theorem join_comm' : decide (joinL xs ys = joinL ys xs) = true := decide_eq_true (getD_ext ((join_len' h).trans (h.trans (join_len' h.symm).symm)) fun j hj => by
  rw [join_len' h] at hj
  rw [join_nth h hj, join_nth h.symm (by omega)]; omega)
include h2
theorem join_least (ha : leqL xs zs = true) (hb : leqL ys zs = true) : leqL (joinL xs ys) zs = true :=
  (leqL_iff ((join_len' h).trans (h.trans h2))).2 fun j hj => by
    rw [join_len' h] at hj
    have h3 := (leqL_iff (h.trans h2)).1 ha j hj
    have h4 := (leqL_iff h2).1 hb j (by omega)
    rw [join_nth h hj]; omega
theorem meet_most (ha : leqL zs xs = true) (hb : leqL zs ys = true) : leqL zs (meetL xs ys) = true :=
  (leqL_iff ((meet_len' h).trans (h.trans h2)).symm).2 fun j hj => by
    have h3 := (leqL_iff (h.trans h2).symm).1 ha j hj
    have h4 := (leqL_iff h2.symm).1 hb j hj
    rw [meet_nth h (by omega)]; omega
theorem join_assoc' : decide (joinL (joinL xs ys) zs = joinL xs (joinL ys zs)) = true := by
  have l1 := join_len' h
  have l2 := join_len' h2
  refine decide_eq_true (getD_ext ?_ fun j hj => ?_)
  · rw [join_len' (by omega), join_len' (xs := xs) (ys := joinL ys zs) (by omega)]; exact l1
  · rw [join_len' (by omega)] at hj
    rw [join_nth (by omega) hj, join_nth h (by omega), join_nth (by omega) (by omega), join_nth h2 (by omega)]
    omega
theorem distrib : decide (meetL xs (joinL ys zs) = joinL (meetL xs ys) (meetL xs zs)) = true := by
  have l1 := meet_len' h
  have l2 := join_len' h2
  have l3 := meet_len' (h.trans h2)
  refine decide_eq_true (getD_ext ?_ fun j hj => ?_)
  · rw [meet_len' (by omega), join_len' (by omega)]; exact l1.symm
  · rw [meet_len' (by omega)] at hj
    rw [meet_nth (by omega) hj, join_nth h2 (by omega), join_nth (by omega) (by omega), meet_nth h (by omega), meet_nth (by omega) (by omega)]
    omega
end
end Go.Proofs.YtibabgokmacnaaaGreat
end
