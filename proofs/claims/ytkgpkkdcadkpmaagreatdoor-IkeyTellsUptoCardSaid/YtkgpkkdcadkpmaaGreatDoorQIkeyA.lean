import Derived.Test.YtkgpkkdcadkpmaaGreatDoorQIkeyTellsUptoP16

/- chapter 5: alive. By an AI agent. -/
section
namespace Go.Proofs.YtkgpkkdcadkpmaaGreatDoor
open Go.RowKit

theorem one_int {W : World} {g : Nat} {x : Int} (h : AC W g [.int .i64 x]) (hx : -9223372036854775808 ≤ x ∧ x ≤ 9223372036854775807) : IA W (some ⟨g, 0, none⟩) 1 [x] :=
  ⟨rfl, by decide, fun j hj => ⟨g, 0, rfl, fun j hj => by
    obtain rfl : j = 0 := by omega
    exact h.cell 0 _ rfl⟩, fun y hy => by simp at hy; subst hy; exact hx⟩
theorem putK_inj {V V' : VerL} (hv : ValidK V) (hv' : ValidK V') (h : putK V = putK V') : V.key = V'.key ∧ V.at_ = V'.at_ ∧ V.origin = V'.origin ∧ V.tx = V'.tx := by
  obtain ⟨r, k1, -, -, -, o1, t1, a1⟩ := put_parts hv rfl
  obtain ⟨r', k2, -, -, -, o2, t2, a2⟩ := put_parts hv' rfl
  rw [h, k2] at k1
  simp only [Option.some.injEq, Prod.mk.injEq] at k1
  obtain ⟨e1, e2⟩ := k1
  subst e2
  have e3 : putL V.at_ = putL V'.at_ := by rw [← a1, ← a2]
  have l3 := congrArg List.length e3
  rw [putL_len, putL_len] at l3
  have v1 := vals_put V.at_ [] (valid_parts hv.at_).2.2
  have v2 := vals_put V'.at_ [] (valid_parts hv'.at_).2.2
  rw [List.append_nil] at v1 v2
  have h2 : putBodyL V.at_ = putBodyL V'.at_ := (List.cons.inj e3).2
  exact ⟨ByteArray.ext (Array.toList_inj.1 e1.symm), by rw [← v1, ← v2, h2, show V.at_.length = V'.at_.length by omega], by omega, by omega⟩
def aliveV : VerL := ⟨⟨#[114]⟩, [5], 0, 7, ⟨0, 0, 0, ⟨#[]⟩⟩⟩
def aliveS : ByteArray := ⟨#[114, 0, 1, 255, 255, 255, 255, 255, 250, 255, 255, 255, 255, 255, 255, 248, 1, 0, 0, 0, 0, 0, 5]⟩
theorem alive_valid : validK aliveV = true := by decide +kernel
theorem alive_put : SB aliveS (putK aliveV) := by
  show aliveS.data.toList = putK aliveV
  decide +kernel
theorem alive_head : (⟨(headL [114, 0]).toArray⟩ : ByteArray) = ⟨#[114, 0, 255, 0, 1]⟩ := by decide +kernel

set_option maxHeartbeats 3200000 in
set_option maxRecDepth 100000 in
theorem alive5_any (w : World) : Calls Tryz.prog 4 #[] w fun e w' => e = .returned (.bool true) ∧ Bl w w' := by
  have hsf := store_float
  have h1 : IA (w.alloc (.cells #[.int .i64 5] 3)) (some ⟨w.heap.size, 0, none⟩) 1 [5] := one_int (AC.new w _ rfl [.int .i64 5] _) (by decide)
  have hb1 := (Bl.refl w).alloc (.cells #[.int .i64 5] 3)
  have hlen : (putK aliveV).length ≤ 1000000 := by rw [← alive_put.size]; decide
  go_enter Tryz.func4, Tryz.ntmps4
  go_wp2_with fail
  refine (kput_any ⟨#[114]⟩ (some ⟨w.heap.size, 0, none⟩) 1 1 [5] 0 7 0 0 0 ⟨#[]⟩ aliveS 0 _ (by decide) h1 (Lib.hid (by
    have e : (⟨⟨#[114]⟩, [5], 0, 7, ⟨0, 0, 0, ⟨#[]⟩⟩⟩ : VerL) = aliveV := rfl
    rw [e]
    unfold kputS kputC
    rw [alive_valid]
    exact ⟨alive_put, rfl⟩))).mono ?_
  rintro e w2 ⟨rfl, hb2⟩
  have HB2 := hb1.trans hb2
  clear hb1 hb2 h1
  go_wp2_with fail
  refine (kget_any aliveS (putK aliveV) _ alive_put hlen).mono ?_
  rintro e w3 (⟨key, a, n, ca, xs, o, t, rfl, hF, hb3, hv, hp⟩ | ⟨rfl, hb3, hno⟩)
  · obtain ⟨-, -, -, e4⟩ := putK_inj hv ((validK_iff _).1 alive_valid) hp
    have e4 : t = 7 := e4
    subst e4
    clear hp hv
    have HB3 := HB2.trans hb3
    clear HB2 hb3 hF
    unfold aliveS
    have HB4 := HB3.alloc (.cells #[.string key, .slice a n ca, .int .i64 o, .int .i64 7, .int .i64 0, .float .f64 0, .int .i64 0, .string ⟨#[]⟩] 28)
    go_wp2_with fail
    refine (head_any ⟨#[114, 0]⟩ [114, 0] _ rfl (by decide)).mono ?_
    rintro e w4 ⟨rfl, hb4⟩
    rw [alive_head]
    have HB5 := HB4.trans hb4
    clear HB4 HB3 hb4
    go_wp2_with fail
    refine (isKey_any ⟨#[113]⟩ _ (by decide)).mono ?_
    rintro e w5 ⟨rfl, rfl⟩
    rw [show isKeyB ⟨#[113]⟩ = false from by decide +kernel]
    go_wp2_with fail
    go_ret
    exact ⟨rfl, HB5⟩
  · exact absurd rfl (hno _ ((validK_iff _).1 alive_valid))
end Go.Proofs.YtkgpkkdcadkpmaaGreatDoor
end
