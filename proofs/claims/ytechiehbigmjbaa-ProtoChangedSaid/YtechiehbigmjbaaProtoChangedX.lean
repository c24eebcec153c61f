/- the walk of ProtoChanged. By an AI agent. -/
import Derived.Test.YtechiehbigmjbaaChg0
set_option linter.unusedVariables false
set_option linter.unusedSimpArgs false
namespace Go.Proofs.Ytechiehbigmjbaa
open Go.RowKit

set_option maxHeartbeats 3200000 in
set_option maxRecDepth 100000 in
theorem protoChanged_early (l : List UInt8) (at_ by_ : Int) (w : World) (hl : l.length ≤ 140737488351232) (h : 3000 < l.length ∨ by_ % 256 = 0) :
    Calls Try.prog 6 #[.string (strL l), .int .i64 at_, .int .i64 by_] w fun e w' => e = .returned (.bool true) ∧ Bl w w' := by
  have z := strL_size l
  by_cases h1 : 65536 < l.length
  · have H := Lib.hid (fun w => frame_no l w h1)
    generalize strL l = s at *
    have q1 : decide ((l.length : Int) ≤ 65536) = false := by rw [decide_eq_false_iff_not]; omega
    have q1' : decide (l.length ≤ 65536) = false := by rw [decide_eq_false_iff_not]; omega
    go_enter Try.func6, Try.ntmps6
    go_wp2_with fail
    refine (H.out _).mono ?_
    rintro e w1 ⟨rfl, hb1⟩
    go_wp2_with fail
    refine (alive25_any _).mono ?_
    rintro e w2 ⟨rfl, hb2⟩
    go_wp2_with fail
    go_ret
    exact ⟨rfl, hb1.trans hb2⟩
  · have H := Lib.hid (fun w => frame_yes l w (by omega))
    have q1 : decide ((l.length : Int) ≤ 65536) = true := by rw [decide_eq_true_iff]; omega
    have q1' : decide (l.length ≤ 65536) = true := by rw [decide_eq_true_iff]; omega
    have z2 := strL_size (frameL l)
    rw [frameL_len] at z2
    generalize strL l = s at *
    generalize strL (frameL l) = f at *
    by_cases h2 : 3000 < l.length
    · clear h
      go_enter Try.func6, Try.ntmps6
      go_wp2_with fail
      refine (H.out _).mono ?_
      rintro e w1 ⟨rfl, hb1⟩
      go_wp2_with fail
      refine (alive25_any _).mono ?_
      rintro e w2 ⟨rfl, hb2⟩
      go_wp2_with fail
      go_ret
      exact ⟨rfl, hb1.trans hb2⟩
    · have hb : by_ % 256 = 0 := by omega
      have q : (by_ % 256 == 0) = true := by rw [hb]; rfl
      clear h hb
      go_enter Try.func6, Try.ntmps6
      go_wp2_with fail
      refine (H.out _).mono ?_
      rintro e w1 ⟨rfl, hb1⟩
      go_wp2_with fail
      refine (alive25_any _).mono ?_
      rintro e w2 ⟨rfl, hb2⟩
      go_wp2_with fail
      go_ret
      exact ⟨rfl, hb1.trans hb2⟩
set_option maxHeartbeats 3200000 in
set_option maxRecDepth 100000 in
theorem protoChanged_main (l : List UInt8) (at_ by_ : Int) (w : World) (hl : l.length ≤ 3000) (hb : ¬ by_ % 256 = 0) :
    Calls Try.prog 6 #[.string (strL l), .int .i64 at_, .int .i64 by_] w fun e w' => e = .returned (.bool true) ∧ Bl w w' := by
  have z := strL_size l
  have H := Lib.hid (fun w => frame_yes l w (by omega))
  obtain ⟨F, hF⟩ : ∃ F, F = frameL l := ⟨_, rfl⟩
  have hlen : F.length = 8 + l.length := by rw [hF, frameL_len]
  rw [← hF] at H
  have z2 := strL_size F
  have HPS := Lib.hid (strL_SB F)
  obtain ⟨p, hp⟩ : ∃ p, p = strL F := ⟨_, rfl⟩
  rw [← hp] at H z2 HPS
  clear hp
  generalize strL l = s at *
  have q : (by_ % 256 == 0) = false := by rw [beq_eq_false_iff_ne]; exact hb
  obtain ⟨m0, m1⟩ := and_mask at_
  obtain ⟨m, hm⟩ : ∃ m, bits .and .i64 at_ 1048575 = m := ⟨_, rfl⟩
  rw [hm] at m0 m1
  obtain ⟨M, hM⟩ : ∃ M : Int, m.tmod ((F.length : Int) - 4) = M := ⟨_, rfl⟩
  have hM1 : M < (F.length : Int) - 4 := by rw [← hM]; exact Int.tmod_lt_of_pos _ (by omega)
  have hM0 : 0 ≤ M := by rw [← hM]; exact Int.tmod_nonneg _ m0
  obtain ⟨K, hKe⟩ : ∃ K : Nat, 4 + M = (K : Int) := ⟨(4 + M).toNat, by omega⟩
  have hK4 : 4 ≤ K := by omega
  have hK : K < F.length := by omega
  obtain ⟨B, hB⟩ : ∃ B : Nat, by_ % 256 = (B : Int) := ⟨(by_ % 256).toNat, by omega⟩
  have hB0 : B ≠ 0 := by omega
  have hB8 : B < 256 := by omega
  have hc8 : F[K].toNat < 256 := UInt8.toNat_lt _
  have hx8 : F[K].toNat ^^^ B < 256 := Nat.xor_lt_two_pow (n := 8) hc8 hB8
  obtain ⟨c, hc⟩ : ∃ c : UInt8, c = UInt8.ofNat (F[K].toNat ^^^ B) := ⟨_, rfl⟩
  have hcn : c.toNat = F[K].toNat ^^^ B := by rw [hc, UInt8.toNat_ofNat']; exact Nat.mod_eq_of_lt hx8
  have hxor : bits .xor .u8 (F[K].toNat : Int) (by_ % 256) = (c.toNat : Int) := by
    rw [hB, hcn]
    exact u8_xor_nat _ _ hc8 hB8
  have hne : c ≠ F[K] := by
    intro e
    have h1 := congrArg UInt8.toNat e
    rw [hcn] at h1
    exact bxor_ne hB0 h1
  have HH : Hid (headF (F.set K c) = 2) := Lib.hid (by
    subst hF
    exact frame_changed l (by omega) K hK4 hK c hne)
  have hSl : (F.set K c).length = F.length := List.length_set
  have HF := Lib.hid hF
  clear hne hF hB hB0 hB8 hx8 hc
  go_enter Try.func6, Try.ntmps6
  go_wp2_with fail
  refine (H.out _).mono ?_
  rintro e w5 ⟨rfl, B5⟩
  have hconv := run_bytes_of_string (P := Try.prog) w5 9 61 5 p Try.underlying9 Try.underlying61 Try.underlying5
  have BR0 := BR.new w5 p (grownCap w5 p.size 0 5) 5 F HPS.out
  have hbD : Bl w5 (w5.drew.alloc (.cells (bytesRow p (grownCap w5 p.size 0 5)) 5 ((bytesRow p (grownCap w5 p.size 0 5)).size, (bytesRow p (grownCap w5 p.size 0 5)).size + 1))) := ((Bl.refl w5).drew).alloc _
  obtain ⟨cap, hcap⟩ : ∃ cap, grownCap w5 p.size 0 5 = cap := ⟨_, rfl⟩
  rw [hcap] at hconv BR0 hbD
  have hsz5 := B5.size
  clear hcap H
  generalize w5.drew.alloc (.cells (bytesRow p cap) 5 ((bytesRow p cap).size, (bytesRow p cap).size + 1)) = BW at *
  generalize w5.heap.size = g at *
  have BS := BR0.set K hK c
  have ck := BR0.cells K hK
  have cf := BR0.free K hK
  have hbX : Bl (BW.setCell ⟨g, K, none⟩ (.int .u8 (c.toNat : Int))) ((BW.setCell ⟨g, K, none⟩ (.int .u8 (c.toNat : Int))).alloc (.cells #[.string ⟨#[]⟩, .bool false] 48)) := (Bl.refl _).alloc _
  have hR : RB2 ((BW.setCell ⟨g, K, none⟩ (.int .u8 (c.toNat : Int))).alloc (.cells #[.string ⟨#[]⟩, .bool false] 48)) (BW.setCell ⟨g, K, none⟩ (.int .u8 (c.toNat : Int))).heap.size [] false := AC.new _ _ rfl [.string ⟨#[]⟩, .bool false] _
  have B6 : Bl w (BW.setCell ⟨g, K, none⟩ (.int .u8 (c.toNat : Int))) := (B5.trans hbD).setCell (p := ⟨g, K, none⟩) hsz5 _
  have hszg : w.heap.size ≤ (BW.setCell ⟨g, K, none⟩ (.int .u8 (c.toNat : Int))).heap.size := B6.size
  have hsE : (BW.setCell ⟨g, K, none⟩ (.int .u8 (c.toNat : Int))).heap.size = BW.heap.size := by simp
  rw [hsE] at hszg hR
  have B7 := B6.alloc (.cells #[.string ⟨#[]⟩, .bool false] 48)
  have hst := run_convert_bytes_back (P := Try.prog) ((BW.setCell ⟨g, K, none⟩ (.int .u8 (c.toNat : Int))).alloc (.cells #[.string ⟨#[]⟩, .bool false] 48)) 61 9 5 ⟨g, 0, none⟩ cap (F.set K c) Try.underlying61 Try.underlying5 Try.underlying9 (fun j hj => by
    have := hbX.cell (BS j hj)
    by_cases h : j = 0
    · subst h; simpa [Addr.add] using this
    · simpa [Addr.add, h] using this)
  rw [hSl, ← z2] at hst
  clear BS hSl BR0 hsE hbX B6 hbD B5
  change (convert _ _ _).run _ _ = .ok (.string (strL (F.set K c))) _ at hst
  have HL : Hid ((F.set K c).length ≤ 70000) := Lib.hid (by rw [List.length_set]; omega)
  have HB := Lib.hid B7
  have HR := Lib.hid hR
  have HZ := Lib.hid hszg
  clear B7 hR hszg
  generalize F.set K c = G at *
  generalize hx8n : F[K].toNat = xk at *
  generalize hcn8 : c.toNat = cn at *
  have hK2 : K < p.size := by omega
  have hPz : p.size ≤ 4000 := by omega
  have hlp : (F.length : Int) = (p.size : Int) := by omega
  rw [hlp] at hM hM1
  have qz : ((p.size : Int) - 4 == 0) = false := by rw [beq_eq_false_iff_ne]; omega
  have hp8 : 8 ≤ p.size := by omega
  have q3 : decide (3000 < (l.length : Int)) = false := by rw [decide_eq_false_iff_not]; omega
  have q8 : decide ((p.size : Int) < 8) = false := by rw [decide_eq_false_iff_not]; omega
  clear hcn hx8n hcn8 hlp z2 hlen hK
  go_wp2_with fail
  clear hconv hst cf ck hxor
  generalize hgx : BW.heap.size = gx at *
  have HGX := Lib.hid hgx
  clear hgx
  generalize World.alloc _ _ = W at *
  refine (feed_any gx G [] _ HR.out (by have := HL.out; simp; omega)).mono ?_
  rintro e w7 ⟨rfl, rfl⟩
  have hR2 := HR.out.fed ([] ++ G)
  have hB2 : Bl w (W.setCell ⟨gx, 0, none⟩ (.string (strL ([] ++ G)))) := HB.out.setCell (p := ⟨gx, 0, none⟩) HZ.out _
  rw [List.nil_append] at hR2 hB2 ⊢
  clear HR HB
  generalize W.setCell ⟨gx, 0, none⟩ (.string (strL G)) = W2 at *
  have HR := Lib.hid hR2
  have HB := Lib.hid hB2
  clear hR2 hB2
  go_wp2_with fail
  refine (next2 gx G _ HR.out (by have := HL.out; omega) HH.out).mono ?_
  rintro e w8 ⟨rfl, rfl⟩
  have hR3 : RB2 ((W2.setCell ⟨gx, 0, none⟩ (.string (strL []))).setCell ⟨gx, 1, none⟩ (.bool true)) gx [] true := (HR.out.fed []).setj 1 (.bool true)
  have hB3 : Bl w ((W2.setCell ⟨gx, 0, none⟩ (.string (strL []))).setCell ⟨gx, 1, none⟩ (.bool true)) :=
    (show Bl w (W2.setCell ⟨gx, 0, none⟩ (.string (strL []))) from HB.out.setCell (p := ⟨gx, 0, none⟩) HZ.out _).setCell (p := ⟨gx, 1, none⟩) HZ.out _
  clear HR HB
  generalize (W2.setCell ⟨gx, 0, none⟩ (.string (strL []))).setCell ⟨gx, 1, none⟩ (.bool true) = W3 at *
  have HR := Lib.hid hR3
  have HB := Lib.hid hB3
  clear hR3 hB3
  go_wp2_with fail
  refine (alive25_any _).mono ?_
  rintro e w9 ⟨rfl, hb9⟩
  have HR2 := Lib.hid (HR.out.keep hb9)
  have HB2 := Lib.hid (HB.out.trans hb9)
  clear hb9 HR HB
  go_wp2_with fail
  refine (badR_any gx [] true _ HR2.out).mono ?_
  rintro e w8 ⟨rfl, rfl⟩
  go_wp2_with fail
  refine (left_any gx [] true _ HR2.out (by decide)).mono ?_
  rintro e w8 ⟨rfl, rfl⟩
  go_wp2_with fail
  go_ret
  exact ⟨rfl, HB2.out⟩
theorem protoChanged_walk (s : ByteArray) (at_ by_ : Int) (w : World) (hs : s.size ≤ 140737488351232) (_hat : -9223372036854775808 ≤ at_ ∧ at_ ≤ 9223372036854775807) (_hby : -9223372036854775808 ≤ by_ ∧ by_ ≤ 9223372036854775807) :
    Calls Try.prog 6 #[.string s, .int .i64 at_, .int .i64 by_] w fun e w' => e = .returned (.bool true) ∧ Bl w w' := by
  have e : s = strL s.data.toList := rfl
  have hl : s.data.toList.length = s.size := by simp
  by_cases h : 3000 < s.size ∨ by_ % 256 = 0
  · exact protoChanged_early s.data.toList at_ by_ w (by omega) (by rw [hl]; exact h)
  · exact protoChanged_main s.data.toList at_ by_ w (by omega) (by omega)
end Go.Proofs.Ytechiehbigmjbaa
