/- the walk of GossipLoads. By an AI agent. -/
import Derived.Test.YtechiehbigmjbaaLoad7
import Derived.Test.YtechiehbigmjbaaLoad8
set_option linter.unusedVariables false
set_option linter.unusedSimpArgs false
namespace Go.Proofs.Ytechiehbigmjbaa
open Go.RowKit

theorem putRows_str {s : ByteArray} {rows : List (List Int)} {l : List UInt8} (h : SB s ((strOfNums [(rows.length : Int)]).data.toList ++ rows.flatMap putL)) (hp : putRows rows = l) : s = strL l := by
  rw [← hp]
  exact strL_of h
theorem nan_self : (FloatKind.f64.format.order nanW nanW != some .eq) = true := by decide +kernel
set_option maxHeartbeats 3200000 in
set_option maxRecDepth 100000 in
theorem gossipLoads_in (l : List UInt8) (i : Int) (a : Option Addr) (n ca : Nat) (xs : List Int) (w : World) (hl : l.length ≤ 9000) (hn : n ≤ 60) (hx : IA w a n xs) :
    Calls Try.prog 3 #[.string (strL l), .int .i64 i, .slice a n ca] w fun e w' => e = .returned (.bool true) ∧ Bl w w' := by
  have HG := Lib.hid (fun w => gload_any l w (by omega))
  have HQ := Lib.hid (fun w => rload_any l w (by omega))
  have HPS := Lib.hid (fun (s : ByteArray) (rows : List (List Int)) h hp => @putRows_str s rows l h hp)
  have zl := strL_size l
  have HNN := Lib.hid nan_self
  clear hx
  generalize strL l = sl at *
  go_enter Try.func3, Try.ntmps3
  go_wp2_with fail
  refine (HG.out _).mono ?_
  rintro e w1 (⟨rows, g, hr, rfl, hg, hb1⟩ | ⟨hr, rfl, hb1⟩)
  · have HR := Lib.hid hr
    have HRG := Lib.hid hg
    have HB := Lib.hid hb1
    clear hr hg hb1
    go_wp2_with fail
    refine (HQ.out _).mono ?_
    rintro e w2 (⟨rows2, g2, hr2, rfl, hg2, hb2⟩ | ⟨hr2, rfl, hb2⟩)
    case inr => rw [HR.out] at hr2; cases hr2
    rw [HR.out] at hr2
    obtain rfl := Option.some.inj hr2
    clear hr2
    have HBK := Lib.hid (rdRows_back HR.out)
    have HR1 := Lib.hid (HRG.out.keep hb2)
    have HR2 := Lib.hid hg2
    have HB2 := Lib.hid (HB.out.trans hb2)
    clear hg2 hb2 HRG HB HQ HG
    go_wp2_with fail
    refine (rowsPut_any _ g rows _ HR1.out HBK.out.2.1 HBK.out.2.2.1 (fun r hr => (HBK.out.2.2.2 r hr).1)).mono ?_
    rintro e w3 ⟨s3, rfl, hs3, hb3⟩
    obtain rfl := HPS.out _ _ hs3 HBK.out.1
    have HR3 := Lib.hid (HR1.out.keep hb3)
    have HR4 := Lib.hid (HR2.out.keep hb3)
    have HB3 := Lib.hid (HB2.out.trans hb3)
    clear hs3 hb3 HR1 HR2 HB2
    go_wp2_with fail
    refine (stable_yes _ g rows _ HR3.out HBK.out.2.2.1 HBK.out.2.1).mono ?_
    rintro e w4 ⟨v4, rfl, hf4, hb4⟩
    have HF4 := Lib.hid hf4
    have HR5 := Lib.hid (HR4.out.keep hb4)
    have HB4 := Lib.hid (HB3.out.trans hb4)
    obtain ⟨a4, n4, c4, rfl, hI4⟩ := hf4.si
    have HI4 := Lib.hid hI4
    clear hb4 hI4 hf4
    go_wp2_with fail
    refine (rstable_any _ g2 rows _ HR5.out HBK.out.2.2.1 HBK.out.2.1).mono ?_
    rintro e w5 ⟨v5, rfl, hf5, hb5⟩
    have HB5 := Lib.hid (HB4.out.trans hb5)
    have HI5 := Lib.hid (HI4.out.keep hb5)
    obtain ⟨a5, n5, c5, rfl, hI6⟩ := hf5.si
    have HI6 := Lib.hid hI6
    clear hb5 hI6 hf5
    go_wp2_with fail
    refine (rsame_any _ _ _ _ _ _ _ _ _ HI5.out HI6.out).mono ?_
    rintro e w6 ⟨rfl, hb6⟩
    rw [decide_eq_true rfl]
    have HW := Lib.hid (HB5.out.trans hb6)
    clear hb6 HI5 HI6 HB5 HI4 HF4 HR5 HB4 HR3 HR4 HB3 HBK HR HPS
    have hz := C1.new w6 w6.heap.size rfl (.slice none 0 0) 37
    have HBZ := Lib.hid (HW.out.alloc (.cells #[.slice none 0 0] 37))
    have HZ := Lib.hid (show NoRows _ (some ⟨w6.heap.size, 0, none⟩) from .inr ⟨_, rfl, hz⟩)
    clear hz HW
    go_wp2_with fail
    refine (alive20_any _).mono ?_
    rintro e v1 ⟨rfl, hb⟩
    have HZ1 := Lib.hid (HZ.out.keep hb)
    have HB1 := Lib.hid (HBZ.out.trans hb)
    clear hb HZ HBZ
    go_wp2_with fail
    refine (setN_any none i _ _ (.inl rfl)).mono ?_
    rintro e v2 ⟨rfl, rfl⟩
    go_wp2_with fail
    refine (setN_any _ i _ _ HZ1.out).mono ?_
    rintro e v2 ⟨rfl, rfl⟩
    go_wp2_with fail
    refine (rowN_any none i _ (.inl rfl)).mono ?_
    rintro e v2 ⟨rfl, rfl⟩
    go_wp2_with fail
    refine (rowN_any _ i _ HZ1.out).mono ?_
    rintro e v2 ⟨rfl, rfl⟩
    go_wp2_with fail
    refine (stableN_any none _ (.inl rfl)).mono ?_
    rintro e v2 ⟨rfl, rfl⟩
    go_wp2_with fail
    refine (bestN_any _ _ HZ1.out).mono ?_
    rintro e v2 ⟨rfl, rfl⟩
    go_wp2_with fail
    refine (lagN_any none _ (.inl rfl)).mono ?_
    rintro e v2 ⟨rfl, rfl⟩
    go_wp2_with fail
    refine (lagN_any none _ (.inl rfl)).mono ?_
    rintro e v2 ⟨rfl, rfl⟩
    have hnn := HNN.out
    go_wp2_with fail
    refine (lagN_any _ _ HZ1.out).mono ?_
    rintro e v2 ⟨rfl, rfl⟩
    go_wp2_with fail
    refine (lagN_any _ _ HZ1.out).mono ?_
    rintro e v2 ⟨rfl, rfl⟩
    go_wp2_with fail
    refine (putN_none none _ (.inl rfl)).mono ?_
    rintro e v2 ⟨rfl, rfl⟩
    go_wp2_with fail
    refine (putN_none _ _ HZ1.out).mono ?_
    rintro e v2 ⟨rfl, rfl⟩
    go_wp2_with fail
    go_ret
    exact ⟨ret_bool (by rw [ByteArray.toList_eq]; rfl), HB1.out⟩
  · have HR := Lib.hid hr
    have HB := Lib.hid hb1
    clear hr hb1
    go_wp2_with fail
    refine (HQ.out _).mono ?_
    rintro e w2 (⟨rows2, g2, hr2, rfl, hg2, hb2⟩ | ⟨hr2, rfl, hb2⟩)
    case inl => rw [HR.out] at hr2; cases hr2
    have HW := Lib.hid (HB.out.trans hb2)
    clear hr2 hb2 HQ HG HB HR
    have hz := C1.new w2 w2.heap.size rfl (.slice none 0 0) 37
    have HBZ := Lib.hid (HW.out.alloc (.cells #[.slice none 0 0] 37))
    have HZ := Lib.hid (show NoRows _ (some ⟨w2.heap.size, 0, none⟩) from .inr ⟨_, rfl, hz⟩)
    clear hz HW
    go_wp2_with fail
    refine (alive20_any _).mono ?_
    rintro e v1 ⟨rfl, hb⟩
    have HZ1 := Lib.hid (HZ.out.keep hb)
    have HB1 := Lib.hid (HBZ.out.trans hb)
    clear hb HZ HBZ
    go_wp2_with fail
    refine (setN_any none i _ _ (.inl rfl)).mono ?_
    rintro e v2 ⟨rfl, rfl⟩
    go_wp2_with fail
    refine (setN_any _ i _ _ HZ1.out).mono ?_
    rintro e v2 ⟨rfl, rfl⟩
    go_wp2_with fail
    refine (rowN_any none i _ (.inl rfl)).mono ?_
    rintro e v2 ⟨rfl, rfl⟩
    go_wp2_with fail
    refine (rowN_any _ i _ HZ1.out).mono ?_
    rintro e v2 ⟨rfl, rfl⟩
    go_wp2_with fail
    refine (stableN_any none _ (.inl rfl)).mono ?_
    rintro e v2 ⟨rfl, rfl⟩
    go_wp2_with fail
    refine (bestN_any _ _ HZ1.out).mono ?_
    rintro e v2 ⟨rfl, rfl⟩
    go_wp2_with fail
    refine (lagN_any none _ (.inl rfl)).mono ?_
    rintro e v2 ⟨rfl, rfl⟩
    go_wp2_with fail
    refine (lagN_any none _ (.inl rfl)).mono ?_
    rintro e v2 ⟨rfl, rfl⟩
    have hnn := HNN.out
    go_wp2_with fail
    refine (lagN_any _ _ HZ1.out).mono ?_
    rintro e v2 ⟨rfl, rfl⟩
    go_wp2_with fail
    refine (lagN_any _ _ HZ1.out).mono ?_
    rintro e v2 ⟨rfl, rfl⟩
    go_wp2_with fail
    refine (putN_none none _ (.inl rfl)).mono ?_
    rintro e v2 ⟨rfl, rfl⟩
    go_wp2_with fail
    refine (putN_none _ _ HZ1.out).mono ?_
    rintro e v2 ⟨rfl, rfl⟩
    go_wp2_with fail
    go_ret
    exact ⟨ret_bool (by rw [ByteArray.toList_eq]; rfl), HB1.out⟩
theorem gossipLoads_walk (s0 : ByteArray) (x1 : Int) (a : Option Addr) (n c : Nat) (xs : List Int) (w : World) (hs : s0.size ≤ 140737488351232) (hi : -9223372036854775808 ≤ x1 ∧ x1 ≤ 9223372036854775807) (hx : IA w a n xs) :
    Calls Try.prog 3 #[.string s0, .int .i64 x1, .slice a n c] w fun e w' => e = .returned (.bool true) ∧ Bl w w' := by
  obtain ⟨l, rfl⟩ : ∃ l, s0 = strL l := ⟨_, strL_of (show SB s0 s0.data.toList from rfl)⟩
  have zl := strL_size l
  have hcap := hx.cap
  by_cases h1 : l.length ≤ 9000
  · by_cases h2 : n ≤ 60
    · exact gossipLoads_in l x1 a n c xs w h1 h2 hx
    · generalize strL l = sl at *
      go_enter Try.func3, Try.ntmps3
      go_wp2_with fail
      refine (alive20_any _).mono ?_
      rintro e w5 ⟨rfl, hb5⟩
      go_wp2_with fail
      go_ret
      exact ⟨rfl, hb5⟩
  · generalize strL l = sl at *
    go_enter Try.func3, Try.ntmps3
    go_wp2_with fail
    refine (alive20_any _).mono ?_
    rintro e w5 ⟨rfl, hb5⟩
    go_wp2_with fail
    go_ret
    exact ⟨rfl, hb5⟩
end Go.Proofs.Ytechiehbigmjbaa
