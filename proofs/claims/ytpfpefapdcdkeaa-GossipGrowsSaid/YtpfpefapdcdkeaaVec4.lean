/- the law's own first call, of chapter 3. By an AI agent. -/
import Derived.Test.YtpfpefapdcdkeaaVec3
namespace Go.Proofs.Ytpfpefapdcdkeaa
open Go.RowKit Go.Shelf

theorem IA.lit (w : World) (xs : List Int) (t : TypeId) (hc : xs.length ≤ 1000) (hw : ∀ x ∈ xs, -9223372036854775808 ≤ x ∧ x ≤ 9223372036854775807) :
    IA (w.alloc (.cells (xs.map (Value.int .i64)).toArray t)) (some ⟨w.heap.size, 0, none⟩) xs.length xs :=
  ⟨rfl, by omega, fun j hj => ⟨w.heap.size, 0, rfl, fun j hj => by
    rw [Nat.zero_add, cell_of_row _ w.heap.size j _ t (0, 0) (heap_alloc_new w _)]
    simp [nth_eq hj, hj]⟩, hw⟩

theorem IA.lit_at (w : World) (g : Nat) (xs : List Int) (t : TypeId) (hg : g = w.heap.size) (hc : xs.length ≤ 1000) (hw : ∀ x ∈ xs, -9223372036854775808 ≤ x ∧ x ≤ 9223372036854775807) :
    IA (w.alloc (.cells (xs.map (Value.int .i64)).toArray t)) (some ⟨g, 0, none⟩) xs.length xs := by subst hg; exact IA.lit w xs t hc hw

theorem str_eq {s : ByteArray} {l m : List UInt8} (h : SB s l) (e : l = m) : s = ⟨m.toArray⟩ := by
  rw [SB, e] at h
  exact ByteArray.ext (Array.toList_inj.1 h)

set_option maxHeartbeats 1600000 in
set_option maxRecDepth 100000 in
theorem alive3_any (w : World) : Calls Try.prog 17 #[] w fun e w' => e = .returned (.bool true) ∧ Bl w w' := by
  go_enter Try.func17, Try.ntmps17
  go_wp2_with fail
  refine (vput_yes _ _ _ [1] _ (IA.lit w [1] _ (by decide) (by decide)) (by decide)).mono ?_
  rintro e w1 ⟨rfl, hb1⟩
  rw [show putL [1] = [1, 0, 0, 0, 0, 0, 1] from by decide +kernel]
  have hb1 := ((Bl.refl w).alloc _).trans hb1
  go_wp2_with fail
  refine (leq_any _ _ _ _ _ _ [1, 2] [1, 3] _ ?_ ?_).mono ?_
  · exact (IA.lit w1 [1, 2] _ (by decide) (by decide)).keep ((Bl.refl _).alloc _)
  · exact IA.lit_at (w1.alloc _) _ [1, 3] _ (by simp) (by decide) (by decide)
  rintro e w2 ⟨rfl, rfl⟩
  rw [show leqL [1, 2] [1, 3] = true from by decide]
  go_wp2_with fail
  refine (text_any _ _ _ [7, 0] _ ?_ (by decide)).mono ?_
  · exact IA.lit_at _ _ [7, 0] _ (by simp) (by decide) (by decide)
  rintro e w3 ⟨s, rfl, hs, hb3⟩
  obtain rfl := str_eq hs (show textL [7, 0] = [91, 55, 44, 48, 93] from by simp [textL, digL, decD_small, bytesN, Lib.join_cons, Lib.joinTail])
  have hb3 := hb1.trans ((((Bl.refl _).alloc _).alloc _).trans (((Bl.refl _).alloc _).trans hb3))
  clear hs hb1
  go_wp2_with fail
  refine (join_any _ _ _ _ _ _ [1, 5] [3, 2] _ ?_ ?_).mono ?_
  · exact (IA.lit w3 [1, 5] _ (by decide) (by decide)).keep ((Bl.refl _).alloc _)
  · exact IA.lit_at (w3.alloc _) _ [3, 2] _ (by simp) (by decide) (by decide)
  rintro e w4 ⟨v, rfl, hf, hb4⟩
  have hb4 := hb3.trans ((((Bl.refl _).alloc _).alloc _).trans hb4)
  obtain ⟨a, n, cap, rfl, hI⟩ := hf.si
  clear hf hb3
  go_wp2_with fail
  refine (same_any _ _ _ _ _ _ (joinL [1, 5] [3, 2]) [3, 5] _ ?_ ?_).mono ?_
  · exact hI.keep ((Bl.refl _).alloc _)
  · exact IA.lit w4 [3, 5] _ (by decide) (by decide)
  rintro e w5 ⟨rfl, hb5⟩
  rw [show decide (joinL [1, 5] [3, 2] = [3, 5]) = true from by decide]
  go_wp2
  go_ret
  exact ⟨rfl, hb4.trans (((Bl.refl _).alloc _).trans hb5)⟩
end Go.Proofs.Ytpfpefapdcdkeaa
