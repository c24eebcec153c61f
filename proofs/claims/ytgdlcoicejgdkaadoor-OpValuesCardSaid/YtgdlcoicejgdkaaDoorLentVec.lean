/- bedrockbook.LentVec: a copy behind whose end a mark stands. By an AI agent. -/
import Derived.Test.YtgdlcoicejgdkaaDoorLent
import Derived.Test.YtgdlcoicejgdkaaDoorApp
namespace Go.Proofs.YtgdlcoicejgdkaaDoor
open Go.RowKit

theorem el_vec : EL 25 3 1 8 := el_of (by kernel_rfl) (by kernel_rfl) (by decide)
/-- an own row of n + 1 ints whose last one is the mark -/
theorem mv_of {B n : Nat} {w : World} {v : Value} {xs : List Int} (ho : w.ownsRow B 3 1 v (n + 1) (xs.map (Value.int .i64) ++ [.int .i64 (-77)])) (hl : xs.length = n) (hn : n ≤ 1000) (hw : ∀ x ∈ xs, -9223372036854775808 ≤ x ∧ x ≤ 9223372036854775807) :
    ∃ g cap, v = .slice (some ⟨g, 0, none⟩) (n + 1) cap ∧ n + 1 ≤ cap ∧ cap ≤ maxLen ∧ B ≤ g ∧ MV w g n cap xs := by
  obtain ⟨h1, ⟨_, h2⟩ | ⟨g, cap, cur, rfl, hB, hg, hc, hm, hs, ht⟩⟩ := ho
  · omega
  · have hown : w.ownsRow B 3 1 (.slice (some ⟨g, 0, none⟩) (n + 1) cap) (n + 1) (xs.map (Value.int .i64) ++ [.int .i64 (-77)]) := ⟨h1, .inr ⟨g, cap, cur, rfl, hB, hg, hc, hm, hs, ht⟩⟩
    refine ⟨g, cap, rfl, hc, hm, hB, ⟨hl, by omega, fun j hj => ⟨g, 0, rfl, fun j hj => ?_⟩, hw⟩, ?_, hc⟩
    · rw [Nat.zero_add, hown.cellAt j (by omega), List.getElem?_append_left (by simpa [hl] using hj)]
      have hjx : j < xs.length := by rw [hl]; exact hj
      simp [hjx, nth_eq hjx]
    · rw [hown.cellAt n (by omega), List.getElem?_append_right (by simp [hl])]
      simp [hl]
set_option maxRecDepth 100000 in
theorem lentVec_any (a : Option Addr) (n ca : Nat) (xs : List Int) (w : World) (hx : IA w a n xs) (hn : n ≤ 1000) :
    Calls Tryd.prog 63 #[.slice a n ca] w fun e w' => ∃ g cap, e = .returned (.slice (some ⟨g, 0, none⟩) n cap) ∧ w.heap.size ≤ g ∧ MV w' g n cap xs ∧ Bl w w' := by
  have HL := Lib.hid hx.len
  have HW := Lib.hid hx.wf
  have HS := Lib.hid (sg_ints hx)
  clear hx
  go_enter Tryd.func63, Tryd.ntmps63
  go_wp2_with (at_builtin; refine wpList_appG rfl _ _ _ rfl el_vec w.heap.size _ 0 [] rfl (World.ownsRow_nil _ _ _ _) (Nat.le_refl _) _ _ _ _ rfl HS.out ?c1 ?c2 ?_)
  case c1 => unfold maxLen; omega
  case c2 => omega
  intro v1 w1 ho1 hg1
  have hb1 : Bl w w1 := (Bl.refl w).ownRow (World.ownsRow_nil w w.heap.size 3 1) (Nat.le_refl _) hg1
  have hb2 := hb1.alloc (.cells #[.int .i64 (-77)] 3)
  go_wp2_with (at_builtin; refine wpList_appG rfl _ _ _ rfl el_vec w.heap.size v1 n _ rfl (ho1.alloc _) ?c1 _ 1 1 [.int .i64 (-77)] rfl (SG.lit (heap_alloc_new _ _) rfl (by simp [Value.oneCell'])) ?c2 ?c3 ?_)
  case c1 => simp; have := hb1.size; omega
  case c2 => unfold maxLen; omega
  case c3 => omega
  intro v2 w2 ho2 hg2
  have hb3 : Bl w w2 := hb2.ownRow (ho1.alloc _) (Nat.le_refl _) hg2
  obtain ⟨g, cap, rfl, hc, hm, hB, hM⟩ := mv_of ho2 HL.out hn HW.out
  clear ho1 ho2 hg1 hg2 hb1 hb2
  have hc' : n ≤ cap := by omega
  have hm' : cap ≤ 9223372036854775807 := hm
  clear hm
  go_wp2_with fail
  go_ret
  exact ⟨g, cap, rfl, hB, hM, hb3⟩
end Go.Proofs.YtgdlcoicejgdkaaDoor
