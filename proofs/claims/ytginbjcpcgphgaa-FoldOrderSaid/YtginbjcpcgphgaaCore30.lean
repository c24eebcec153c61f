import Derived.Test.YtginbjcpcgphgaaCore1
import Derived.Test.YtginbjcpcgphgaaCore29

/- slices of ints that are written out; a string of known bytes. By an AI agent. -/
section
namespace Go.Proofs.Ytginbjcpcgphgaa
open Go.RowKit

theorem IA.lit (w : World) (xs : List Int) (t : TypeId) (hc : xs.length ≤ 1000) (hw : ∀ x ∈ xs, -9223372036854775808 ≤ x ∧ x ≤ 9223372036854775807) :
    IA (w.alloc (.cells (xs.map (Value.int .i64)).toArray t)) (some ⟨w.heap.size, 0, none⟩) xs.length xs :=
  ⟨rfl, by omega, fun j hj => ⟨w.heap.size, 0, rfl, fun j hj => by
    rw [Nat.zero_add, cell_of_row _ w.heap.size j _ t (0, 0) (heap_alloc_new w _)]
    simp [nth_eq hj, hj]⟩, hw⟩

theorem IA.lit_at (w : World) (g : Nat) (xs : List Int) (t : TypeId) (hg : g = w.heap.size) (hc : xs.length ≤ 1000) (hw : ∀ x ∈ xs, -9223372036854775808 ≤ x ∧ x ≤ 9223372036854775807) :
    IA (w.alloc (.cells (xs.map (Value.int .i64)).toArray t)) (some ⟨g, 0, none⟩) xs.length xs := by subst hg; exact IA.lit w xs t hc hw

theorem str_eq {s : ByteArray} {l m : List UInt8} (h : SB s l) (e : l = m) : s = ⟨m.toArray⟩ := by
  rw [SB, e] at h
  exact ByteArray.ext (Array.toList_inj.1 h)

end Go.Proofs.Ytginbjcpcgphgaa
end

/- bedrocklaw17: alive. By an AI agent. -/
section
set_option linter.unusedVariables false
set_option linter.unusedSimpArgs false
namespace Go.Proofs.Ytginbjcpcgphgaa
open Go.RowKit
attribute [local go_sem] eOp eOper eUpon

def va1 : VerL := ⟨nilS, [1], 0, 1, ⟨1, 0, 5, nilS⟩⟩
def va2 : VerL := ⟨nilS, [2], 0, 2, ⟨1, 0, 7, nilS⟩⟩
def kc : ByteArray := ⟨#[99]⟩
theorem alive_order : orderOf [va1, va2] = [va2, va1] := by
  have h1 : leV va1 va2 = false := by decide +kernel
  have h2 : eqV va1 va2 = false := by decide +kernel
  have h3 : srt leV [va1, va2] = [va2, va1] := by
    rw [srt_cons, srt_one]
    unfold mrg
    rw [List.merge, h1]
    simp
  unfold orderOf
  rw [h3]
  show va2 :: (if eqV va1 va2 then _ else _) = _
  rw [h2]; rfl
theorem alive_drop : dropL kc [va1, va2] [9] true = [oneStep kc (oneV kc va1) va2] := by
  have h1 : isKeyB kc = true := by decide +kernel
  have h2 : validL [9] = true := by decide +kernel
  have h3 : stayL [9] [va2, va1] = [] := by decide +kernel
  have h4 : seenL kc [9] [va2, va1] = [va2, va1] := by
    have a1 : leqV [9] va1 = true := by decide +kernel
    have a2 : leqV [9] va2 = true := by decide +kernel
    have a3 : fitsB kc va1.act = true := by decide +kernel
    have a4 : fitsB kc va2.act = true := by decide +kernel
    unfold seenL
    simp [List.filter, a1, a2, a3, a4]
  unfold dropL dropO
  rw [alive_order, h1, h2, h3, h4]
  show keptL kc [] [9] true [va2, va1] = _
  exact kept_one (key := kc) (stay := []) (first := va2) (rest := [va1]) (floor := [9]) (by decide +kernel) (by simp)
theorem alive_int : (oneStep kc (oneV kc va1) va2).act.n = 12 := by
  show (bothL kc va1.act va2.act).n = 12
  decide +kernel
theorem alive_read : readL kc [va1, va2] [1] = ⟨true, 0, 5, nilS⟩ := by
  have a1 : leqV [1] va1 = true := by decide +kernel
  have a2 : leqV [1] va2 = false := by decide +kernel
  unfold readL
  rw [alive_order]
  have : ([va2, va1] : List VerL).filter (leqV [1]) = [va1] := by simp [List.filter, a1, a2]
  rw [this, out_val (by decide +kernel)]
  show afterL kc noVal ⟨1, 0, 5, nilS⟩ = _
  rw [after_add _ (by decide +kernel) (by decide +kernel)]
  rfl
set_option maxHeartbeats 3200000 in
set_option maxRecDepth 100000 in
theorem alive17_any (w : World) : Calls Try.prog 11 #[] w fun e w' => e = .returned (.bool true) ∧ Bl w w' := by
  have hsf := store_fl
  obtain ⟨a1, ha1⟩ : ∃ a, w.alloc (.cells #[.int .i64 1] 3) = a := ⟨_, rfl⟩
  obtain ⟨a2, ha2⟩ : ∃ a, a1.alloc (.cells #[.int .i64 2] 3) = a := ⟨_, rfl⟩
  obtain ⟨a3, ha3⟩ : ∃ a, a2.alloc (.cells #[.string ⟨#[]⟩, .slice (some ⟨w.heap.size, 0, none⟩) 1 1, .int .i64 0, .int .i64 1, .int .i64 1, .float .f64 0, .int .i64 5, .string ⟨#[]⟩, .string ⟨#[]⟩, .slice (some ⟨w.heap.size + 1, 0, none⟩) 1 1, .int .i64 0, .int .i64 2, .int .i64 1, .float .f64 0, .int .i64 7, .string ⟨#[]⟩] 35) = a := ⟨_, rfl⟩
  obtain ⟨a4, ha4⟩ : ∃ a, a3.alloc (.cells #[.int .i64 9] 3) = a := ⟨_, rfl⟩
  have s1 : a1.heap.size = w.heap.size + 1 := by rw [← ha1]; simp
  have s2 : a2.heap.size = w.heap.size + 1 + 1 := by rw [← ha2]; simp [s1]
  have s3 : a3.heap.size = w.heap.size + 1 + 1 + 1 := by rw [← ha3]; simp [s2]
  have b1 : Bl w a1 := ha1 ▸ (Bl.refl w).alloc _
  have b2 : Bl a1 a2 := ha2 ▸ (Bl.refl a1).alloc _
  have b3 : Bl a2 a3 := ha3 ▸ (Bl.refl a2).alloc _
  have b4 : Bl a3 a4 := ha4 ▸ (Bl.refl a3).alloc _
  have i1 : IA a1 (some ⟨w.heap.size, 0, none⟩) 1 [1] := ha1 ▸ IA.lit w [1] 3 (by decide) (by decide)
  have i2 : IA a2 (some ⟨w.heap.size + 1, 0, none⟩) 1 [2] := ha2 ▸ IA.lit_at a1 (w.heap.size + 1) [2] 3 s1.symm (by decide) (by decide)
  have i9 : IA a4 (some ⟨w.heap.size + 1 + 1 + 1, 0, none⟩) 1 [9] := ha4 ▸ IA.lit_at a3 (w.heap.size + 1 + 1 + 1) [9] 3 s3.symm (by decide) (by decide)
  have ac : AC a3 (w.heap.size + 1 + 1) _ := ha3 ▸ AC.new a2 (w.heap.size + 1 + 1) s2.symm [.string ⟨#[]⟩, .slice (some ⟨w.heap.size, 0, none⟩) 1 1, .int .i64 0, .int .i64 1, .int .i64 1, .float .f64 0, .int .i64 5, .string ⟨#[]⟩, .string ⟨#[]⟩, .slice (some ⟨w.heap.size + 1, 0, none⟩) 1 1, .int .i64 0, .int .i64 2, .int .i64 1, .float .f64 0, .int .i64 7, .string ⟨#[]⟩] 35
  have k1 : va1.act.Ok := ⟨by decide, by decide, by decide, by decide⟩
  have k2 : va2.act.Ok := ⟨by decide, by decide, by decide, by decide⟩
  have V3 : VA a3 (some ⟨w.heap.size + 1 + 1, 0, none⟩) 2 [va1, va2] := by
    refine ⟨rfl, by omega, fun _ _ => ⟨_, 0, rfl, fun j hj => ?_⟩⟩
    have hj2 : j = 0 ∨ j = 1 := by omega
    rcases hj2 with rfl | rfl
    · exact ⟨ac.cell 0 _ rfl, ⟨_, _, _, ac.cell 1 _ rfl, (i1.keep b2).keep b3⟩, ac.cell 2 _ rfl, ac.cell 3 _ rfl, ac.cell 4 _ rfl, ac.cell 5 _ rfl, ac.cell 6 _ rfl, ac.cell 7 _ rfl, k1⟩
    · exact ⟨ac.cell 8 _ rfl, ⟨_, _, _, ac.cell 9 _ rfl, i2.keep b3⟩, ac.cell 10 _ rfl, ac.cell 11 _ rfl, ac.cell 12 _ rfl, ac.cell 13 _ rfl, ac.cell 14 _ rfl, ac.cell 15 _ rfl, k2⟩
  have HV := Lib.hid (V3.keep b4)
  have H9 := Lib.hid i9
  have HB := Lib.hid (((b1.trans b2).trans b3).trans b4)
  have HA1 := Lib.hid ha1
  have HA2 := Lib.hid ha2
  have HA3 := Lib.hid ha3
  have HA4 := Lib.hid ha4
  clear ha1 ha2 ha3 ha4
  clear s1 s2 s3 b1 b2 b3 b4 i1 i2 i9 ac k1 k2 V3
  go_enter Try.func11, Try.ntmps11
  go_wp2_with fail
  rw [HA1.out, HA2.out, HA3.out, HA4.out]
  clear HA1 HA2 HA3 HA4
  refine (fdrop_any kc _ 2 2 [va1, va2] _ 1 1 [9] true a4 (by decide) HV.out (by omega) H9.out).mono ?_
  rintro e w1 ⟨x1, n1, c1, rfl, hv1, hb1⟩
  rw [alive_drop] at hv1
  obtain rfl : n1 = 1 := hv1.len.symm
  obtain ⟨b, off, rfl, hc⟩ := hv1.cells 0 (by omega)
  have E := hc 0 (by omega)
  rw [show nthR [oneStep kc (oneV kc va1) va2] 0 = oneStep kc (oneV kc va1) va2 from rfl, Nat.zero_mul, Nat.add_zero] at E
  have HE := Lib.hid E
  have HV1 := Lib.hid (HV.out.keep hb1)
  have HB1 := Lib.hid (HB.out.trans hb1)
  clear hv1 hc E hb1 HV H9 HB
  obtain ⟨g1, hg1⟩ : ∃ g, w1.heap.size = g := ⟨_, rfl⟩
  have i1 := Lib.hid (IA.lit_at w1 w1.heap.size [1] 3 rfl (by decide) (by decide))
  have bb : Bl w1 (w1.alloc (.cells (([1] : List Int).map (Value.int .i64)).toArray 3)) := (Bl.refl w1).alloc _
  have HE1 := Lib.hid (HE.out.keep bb)
  have HV2 := Lib.hid (HV1.out.keep bb)
  have HB2 := Lib.hid (HB1.out.trans bb)
  clear bb HE HV1 HB1 hg1
  go_wp2_with fail
  refine (fread_any kc _ 2 2 [va1, va2] _ 1 1 [1] _ (by decide) HV2.out (by omega) i1.out).mono ?_
  rintro e w2 ⟨rfl, hb2⟩
  rw [alive_read]
  have HE2 := Lib.hid (HE1.out.keep hb2)
  have HV3 := Lib.hid (HV2.out.keep hb2)
  have HB3 := Lib.hid (HB2.out.trans hb2)
  clear hb2 HE1 HV2 HB2 i1
  unfold ValL.v
  have bc : Bl w2 (w2.alloc (.cells #[.bool true, .float .f64 0, .int .i64 5, .string nilS] 38)) := (Bl.refl w2).alloc _
  have HBX := Lib.hid (AC.new w2 w2.heap.size rfl [.bool true, .float .f64 0, .int .i64 5, .string nilS] 38)
  have HE4 := HE2.out.keep bc
  have HV4 := Lib.hid (HV3.out.keep bc)
  have HB4 := Lib.hid (HB3.out.trans bc)
  have e2 := HE4.c2
  have e6 := HE4.c6
  rw [show (oneStep kc (oneV kc va1) va2).origin = 254 from rfl] at e2
  rw [alive_int] at e6
  have c0 := HBX.out.cell 0 _ rfl
  have c2 := HBX.out.cell 2 _ rfl
  clear HE4 bc HE2 HV3 HB3
  go_wp2_with fail
  refine (fOrder_any _ 2 2 [va1, va2] _ HV4.out (by omega)).mono ?_
  rintro e w5 ⟨x5, n5, c5, rfl, hv5, hb5⟩
  rw [alive_order] at hv5
  obtain rfl : n5 = 2 := hv5.len.symm
  have HB5 := Lib.hid (HB4.out.trans hb5)
  clear hv5 hb5
  go_wp2_with fail
  go_ret
  exact ⟨rfl, HB5.out⟩
end Go.Proofs.Ytginbjcpcgphgaa
end
