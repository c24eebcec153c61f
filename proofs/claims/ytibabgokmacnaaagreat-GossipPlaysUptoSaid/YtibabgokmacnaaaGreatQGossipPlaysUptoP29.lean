import Derived.Test.YtibabgokmacnaaaGreatQGossipPlaysUptoP3
import Derived.Test.YtibabgokmacnaaaGreatQGossipPlaysUptoP10
import Derived.Test.YtibabgokmacnaaaGreatQGossipPlaysUptoP28

/- bedrockref3.Zero of any number. By an AI agent. -/
section
set_option linter.unusedVariables false
set_option linter.unusedSimpArgs false
namespace Go.Proofs.YtibabgokmacnaaaGreat
open Go.RowKit

set_option maxHeartbeats 400000 in
set_option maxRecDepth 100000 in
theorem rzero3_yes (n : Nat) (w : World) (h1 : 1 ≤ n) (h8 : n ≤ 8) :
    Calls Tryz.prog 21 #[.int .i64 n] w fun e w' => ∃ v, e = .returned v ∧ FI w.heap.size w' v (zeroL n) ∧ Bl w w' := by
  obtain ⟨i0, hi, hz0, hz1, hz2⟩ := info_parts info_int
  go_enter Tryz.func21, Tryz.ntmps21
  go_wp2_with (at_make; refine wpList_make_full _ rfl _ _ 23 rfl w.heap.size 3 i0 (.int .i64 0) 1 Tryz.underlying23 hi hz0 hz1 .i64 .i64 _ _ n rfl rfl rfl rfl ?b1 ?b2 ?b3 ?_)
  case b1 => rw [hz2]; omega
  case b2 => unfold maxLen; omega
  case b3 => exact Nat.le_refl _
  intro w1 hown hgrow
  have hb : Bl w w1 := Below.grown (Bl.refl w) hgrow (Nat.le_refl _) (by simp)
  have hob : OI w.heap.size w1 (.slice (some ⟨w.heap.size, 0, none⟩) n n) (zeroL n) := by
    have e : (madeCells #[Value.int .i64 0] n).toList = List.map (Value.int .i64) (List.replicate n 0) := by
      rw [List.map_replicate]
      exact toList_madeCells_one _ _
    rw [e] at hown
    rw [OI, zeroL, List.length_replicate]
    exact hown
  clear hown hgrow
  go_wp2_with fail
  go_ret
  refine ⟨_, rfl, ⟨hob, by simp [zeroL]; omega, fun x hx => ?_⟩, hb⟩
  simp [zeroL] at hx; omega
theorem rzero3_any (i : Int) (w : World) (h0 : -9223372036854775808 ≤ i) (h1 : i ≤ 9223372036854775807) :
    Calls Tryz.prog 21 #[.int .i64 i] w fun e w' => ∃ v, e = .returned v ∧ FI w.heap.size w' v (zeroI i) ∧ Bl w w' := by
  by_cases h : 1 ≤ i ∧ i ≤ 8
  · obtain ⟨n, rfl⟩ := Int.eq_ofNat_of_zero_le (show 0 ≤ i by omega)
    have e : zeroI (n : Int) = zeroL n := by unfold zeroI zeroL; rw [if_pos h]; rfl
    rw [e]
    exact rzero3_yes n w (by omega) (by omega)
  · have e : zeroI i = [] := by unfold zeroI; rw [if_neg h]
    rw [e]
    have hs : ∀ W : World, FI w.heap.size W (.slice none 0 0) [] := fun W => FI.nil _ _
    by_cases h2 : i < 1
    · clear h e
      go_enter Tryz.func21, Tryz.ntmps21
      go_wp2_with fail
      go_ret
      exact ⟨_, rfl, hs _, Bl.refl _⟩
    · have h3 : 8 < i := by omega
      clear h e
      go_enter Tryz.func21, Tryz.ntmps21
      go_wp2_with fail
      go_ret
      exact ⟨_, rfl, hs _, Bl.refl _⟩
end Go.Proofs.YtibabgokmacnaaaGreat
end

/- bedrockref17.NewRows. By an AI agent. -/
section
set_option linter.unusedVariables false
set_option linter.unusedSimpArgs false
namespace Go.Proofs.YtibabgokmacnaaaGreat
open Go.RowKit

/-- the block g holds cells of type T -/
def TyAt (T : TypeId) (w : World) (g : Nat) : Prop := ∃ cur fz, w.heap[g]? = some (.cells cur T fz)
theorem TyAt.keep {T : TypeId} {w w' : World} {g : Nat} (h : TyAt T w g) (hb : Bl w w') : TyAt T w' g := by
  obtain ⟨c, f, h⟩ := h
  exact ⟨c, f, hb.heap h⟩
theorem TyAt.lt {T : TypeId} {w : World} {g : Nat} (h : TyAt T w g) : g < w.heap.size := by
  obtain ⟨c, f, h⟩ := h
  exact lt_of_heap h
theorem TyAt.fr {T : TypeId} {S : Nat → Prop} {w w' : World} {g : Nat} (h : TyAt T w g) (hf : Fr S w w') (hs : ¬ S g) : TyAt T w' g := by
  obtain ⟨c, f, h⟩ := h
  exact ⟨c, f, by rw [hf.block g (lt_of_heap h) hs]; exact h⟩
theorem TyAt.grown {T : TypeId} {w w' : World} {g : Nat} {row : Option Nat} (h : TyAt T w g) (hg : w.grownBy w' row) (hn : some g ≠ row) : TyAt T w' g := by
  obtain ⟨c, f, h⟩ := h
  exact ⟨c, f, by rw [hg.block g (lt_of_heap h) hn]; exact h⟩
theorem TyAt.set {T : TypeId} {w : World} {g : Nat} {v : Value} (h : TyAt T w g) (hc : C1 w g v) (u : Value) : TyAt T (w.setCell ⟨g, 0, none⟩ u) g := by
  obtain ⟨cs, fz, h⟩ := h
  obtain ⟨t, hc⟩ := hc
  rw [h] at hc
  simp only [Option.some.injEq, Obj.cells.injEq] at hc
  obtain ⟨rfl, rfl, rfl⟩ := hc
  exact ⟨_, _, heap_setCell_same w g 0 _ _ u h⟩
set_option maxHeartbeats 1600000 in
set_option maxRecDepth 100000 in
theorem rnew_yes (n : Nat) (w : World) (h1 : 1 ≤ n) (h8 : n ≤ 8) :
    Calls Tryz.prog 34 #[.int .i64 n] w fun e w' => ∃ g, e = .returned (.pointer (some ⟨g, 0, none⟩)) ∧ RG w.heap.size w' g (List.replicate n (zeroL n)) ∧ TyAt 73 w' g ∧ Bl w w' := by
  obtain ⟨i0, hi, hz0, hz1, hz2⟩ := info_parts info_vec
  have ht0 : TyAt 73 (w.alloc (.cells #[.slice none 0 0] 73)) w.heap.size := ⟨_, _, heap_alloc_new w _⟩
  go_enter Tryz.func34, Tryz.ntmps34
  go_wp2_with fail
  go_loopw [4] (fun i wr => ∃ (k : Nat) (v : Value), k ≤ n ∧ i = .int .i64 k ∧ C1 wr w.heap.size v ∧ OR (w.heap.size + 1) wr v (List.replicate k (zeroL n)) ∧ Below w.heap.size w wr ∧ w.heap.size + 1 ≤ wr.heap.size ∧ TyAt 73 wr w.heap.size) (fun i _ => n - (intOf i).toNat)
  case atStart => exact ⟨0, _, Nat.zero_le _, rfl, C1.new w _ rfl _ _, OR.nil _ _, (Bl.refl w).alloc _, by simp, ht0⟩
  case round =>
    clear ht0
    obtain ⟨k, v, hk, rfl, hc, hor, hb, hsz, hty⟩ := hrel
    have HTY := Lib.hid hty
    clear hty
    by_cases hlt : k < n
    · go_wp2_with fail
      have hkc := hc.cell
      have hkf := hc.frozen
      obtain ⟨vs, hown, hvl, hrr⟩ := hor
      have hown' := hown
      have HOWN := Lib.hid (And.intro hown (And.intro hvl hrr))
      clear hrr hvl hown
      rw [List.length_replicate] at hown'
      go_region_law (first
        | (refine step_append_lies _ rfl _ _ 71 rfl (w.heap.size + 1) 23 i0 (.slice none 0 0) 1 24 Tryz.underlying71 hi hz0 hz1 hz2 rfl (by decide) v k vs rfl (by exact ownsRow_bl hown' ((Bl.ofDrew hbz).alloc _)) ⟨wz.heap.size, 0, none⟩ 1 1 [.slice az nz cz] rfl rfl (by exact World.news_of_block (heap_alloc_new wz _)) (by intro u hu; simp at hu; subst hu; rfl) (by decide) (by unfold maxLen; omega) (by omega) (by have := (Bl.ofDrew hbz).size; simp; omega) _ rfl ?_; intro g2 cap2 w2 hown2 hg2 hgb2 hlt2; have hd2 := (hd1.alloc _).grown hg2 (fun e => by have := (OR.row hown' _ e.symm).1; omega); have hd2c := hd2.cell; have hd2f := hd2.frozen)
        | (go_simp; refine (rzero3_yes n _ h1 h8).mono ?_; rintro e wz ⟨vz, rfl, hfz, hbz⟩; obtain ⟨az, nz, cz, rfl, hIz⟩ := hfz.si; have hd1 := hc.keep (Bl.ofDrew hbz); have hd1c := hd1.cell; have hd1a := (fun o => (hd1.alloc o).cell); dsimp only))
      all_goals (
        obtain ⟨ho1, ho2, ho3⟩ := HOWN.out
        have TY := Lib.hid ((((HTY.out.keep (Bl.ofDrew hbz)).keep ((Bl.refl _).alloc _)).grown hg2 (fun e => by have := (OR.row hown' _ e.symm).1; omega)).set hd2 (.slice (some ⟨g2, 0, none⟩) (k + 1) cap2))
        have R := OR.app hb (Nat.le_refl _) hsz ho1 ho2 ho3 (Bl.ofDrew hbz) hfz (by rw [List.length_replicate]; exact hown2) hg2 (.slice (some ⟨g2, 0, none⟩) (k + 1) cap2)
        have hd3 := hd2.set (.slice (some ⟨g2, 0, none⟩) (k + 1) cap2)
        rw [← List.replicate_succ'] at R
        clear ho1 ho2 ho3 hown' hown2 hg2 hgb2 hlt2 hd1c hd1a hd2c hd2f hkc hkf HOWN hfz hIz
        go_wp2_with fail
        go_roundw
        case rel => exact ⟨k + 1, _, by omega, by go_num, hd3, R.1, R.2.1, R.2.2, TY.out⟩
        case measure => simp [intOf]; omega)
    · go_wp2_with fail
      go_ret
      obtain rfl : k = n := by omega
      exact ⟨_, rfl, ⟨_, hc, Nat.le_refl _, hor⟩, HTY.out, hb⟩
end Go.Proofs.YtibabgokmacnaaaGreat
end
