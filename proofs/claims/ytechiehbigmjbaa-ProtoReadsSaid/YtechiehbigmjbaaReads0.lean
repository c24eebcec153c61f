/- the document's own frames and reader (bedrocklaw25.frame, reader.next). By an AI agent. -/
import Derived.Test.YtechiehbigmjbaaProt9
import Derived.Test.YtechiehbigmjbaaRef1
import Derived.Test.YtechiehbigmjbaaRefSum
set_option linter.unusedVariables false
set_option linter.unusedSimpArgs false
namespace Go.Proofs.Ytechiehbigmjbaa
open Go.RowKit

theorem refPut4 (v : Nat) (w : World) (hv : v < 4294967296) :
    Calls Try.prog 86 #[.int .i64 v, .int .i64 4] w fun e w' => e = .returned (.tuple #[.string (strL (numB v 4)), .int .i64 0]) ∧ Bl w w' := by
  have := refPut_any v 4 w (by decide) (by decide) (by omega) (by omega)
  rwa [strL_nums] at this
theorem rframe_yes (l : List UInt8) (w : World) (hl : l.length ≤ 65536) :
    Calls Try.prog 28 #[.string (strL l)] w fun e w' => e = .returned (.tuple #[.string (strL (frameL l)), .int .i64 0]) ∧ Bl w w' := by
  have H1 := Lib.hid (fun w => refPut4 l.length w (by omega))
  have H2 := Lib.hid (fun w => refPut4 (sumL l) w (sumL_lt l))
  have H3 := Lib.hid (fun w => refSum_any (strL l) w (by rw [strL_size]; omega))
  rw [show (strL l).data.toList = l from rfl] at H3
  have hz := strL_size l
  have hz2 := strL_size (numB (l.length : Int) 4)
  have hz3 := strL_size (numB (sumL l : Int) 4)
  rw [numB_len] at hz2 hz3
  have HA := Lib.hid (strL_app (numB (l.length : Int) 4) (numB (sumL l : Int) 4))
  have hz4 := strL_size (numB (l.length : Int) 4 ++ numB (sumL l : Int) 4)
  rw [List.length_append, numB_len, numB_len] at hz4
  have HB := Lib.hid (strL_app (numB (l.length : Int) 4 ++ numB (sumL l : Int) 4) l)
  rw [List.append_assoc] at HB
  generalize strL (numB (l.length : Int) 4 ++ numB (sumL l : Int) 4) = q3 at *
  generalize strL (numB (l.length : Int) 4) = q1 at *
  generalize strL (numB (sumL l : Int) 4) = q2 at *
  have hz5 : (q1 ++ q2).size = 8 := by rw [HA.out, hz4]
  generalize hsum : sumL l = r at *
  have HS := Lib.hid hsum
  clear hsum
  go_enter Try.func28, Try.ntmps28
  go_wp2_with fail
  refine (H1.out _).mono ?_
  rintro e w1 ⟨rfl, hb1⟩
  go_wp2_with fail
  refine (H3.out _).mono ?_
  rintro e w2 ⟨rfl, rfl⟩
  go_wp2_with fail
  refine (H2.out _).mono ?_
  rintro e w2 ⟨rfl, hb2⟩
  go_wp2_with fail
  go_ret2
  exact ⟨by rw [HA.out, HB.out]; unfold frameL; rw [HS.out]; rfl, hb1.trans hb2⟩
theorem rframe_no (l : List UInt8) (w : World) (hl : 65536 < l.length) :
    Calls Try.prog 28 #[.string (strL l)] w fun e w' => e = .returned (.tuple #[.string ⟨#[]⟩, .int .i64 2]) ∧ Bl w w' := by
  have hz := strL_size l
  go_enter Try.func28, Try.ntmps28
  go_wp2_with fail
  go_ret2
  exact ⟨rfl, Bl.refl _⟩
theorem rget4_any (l : List UInt8) (w : World) (h : 4 ≤ l.length) :
    Calls Try.prog 90 #[.string (strL (l.take 4))] w fun e w' => e = .returned (.tuple #[.int .i64 (getN (l.take 4)), .int .i64 0]) ∧ w = w' :=
  refGet_any (strL (l.take 4)) w (by rw [strL_size, List.length_take]; omega) (by rw [strL_size, List.length_take]; omega)
theorem rnext_bad (g : Nat) (l : List UInt8) (w : World) (h : RB2 w g l true) : Calls Try.prog 31 #[.pointer (some ⟨g, 0, none⟩)] w fun e w' => e = .returned (.tuple #[.string ⟨#[]⟩, .bool false]) ∧ w = w' := by
  have c1 := AC.cell h 1 _ rfl
  go_enter Try.func31, Try.ntmps31
  go_wp2_with fail
  go_ret2
  exact ⟨rfl, rfl⟩
theorem rnext_short (g : Nat) (l : List UInt8) (w : World) (h : RB2 w g l false) (hl : l.length < 4) :
    Calls Try.prog 31 #[.pointer (some ⟨g, 0, none⟩)] w fun e w' => e = .returned (.tuple #[.string ⟨#[]⟩, .bool false]) ∧ w = w' := by
  have c0 := AC.cell h 0 _ rfl
  have c1 := AC.cell h 1 _ rfl
  have z1 := strL_size l
  generalize strL l = s at *
  go_enter Try.func31, Try.ntmps31
  go_wp2_with fail
  go_ret2
  exact ⟨rfl, rfl⟩
theorem rnext_wait (g : Nat) (l : List UInt8) (n : Nat) (w : World) (h : RB2 w g l false) (hl : 4 ≤ l.length) (hz : l.length ≤ 140737488351232) (hn : getN (l.take 4) = n) (hn1 : n ≤ 65536) (hn2 : l.length < 8 + n) :
    Calls Try.prog 31 #[.pointer (some ⟨g, 0, none⟩)] w fun e w' => e = .returned (.tuple #[.string ⟨#[]⟩, .bool false]) ∧ w = w' := by
  have c0 := AC.cell h 0 _ rfl
  have c1 := AC.cell h 1 _ rfl
  have z1 := strL_size l
  have hq := strL_take l 4
  have G := Lib.hid (fun w => rget4_any l w hl)
  rw [hn] at G
  clear hn
  generalize strL (l.take 4) = q at *
  generalize strL l = s at *
  go_enter Try.func31, Try.ntmps31
  go_wp2_with fail
  refine (G.out _).mono ?_
  rintro e w' ⟨rfl, rfl⟩
  go_wp2_with fail
  go_ret2
  exact ⟨rfl, rfl⟩
theorem rnext_over (g : Nat) (l : List UInt8) (n : Nat) (w : World) (h : RB2 w g l false) (hl : 4 ≤ l.length) (hz : l.length ≤ 140737488351232) (hn : getN (l.take 4) = n) (hn1 : 65536 < n) (hn3 : n < 4294967296) :
    Calls Try.prog 31 #[.pointer (some ⟨g, 0, none⟩)] w fun e w' => e = .returned (.tuple #[.string ⟨#[]⟩, .bool false]) ∧ w' = (w.setCell ⟨g, 1, none⟩ (.bool true)).setCell ⟨g, 0, none⟩ (.string (strL [])) := by
  have c0 := AC.cell h 0 _ rfl
  have c1 := AC.cell h 1 _ rfl
  have f0 := AC.frozen h 1
  have h' := AC.setj h 1 (.bool true)
  have d1 := AC.cell h' 0 _ rfl
  have f1 := AC.frozen h' 0
  have z1 := strL_size l
  have hq := strL_take l 4
  have G := Lib.hid (fun w => rget4_any l w hl)
  rw [hn] at G
  clear hn h h'
  generalize strL (l.take 4) = q at *
  generalize strL l = s at *
  go_enter Try.func31, Try.ntmps31
  go_wp2_with fail
  refine (G.out _).mono ?_
  rintro e w' ⟨rfl, rfl⟩
  go_wp2_with fail
  go_ret2
  exact ⟨rfl, rfl⟩
/-- the frame that stands there is the content's own just if the sum is -/
theorem frame_is (l : List UInt8) (n : Nat) (hn : getN (l.take 4) = n) (h : 8 + n ≤ l.length) : frameL ((l.drop 8).take n) = l.take (8 + n) ↔ (sumL ((l.drop 8).take n) : Int) = getN ((l.drop 4).take 4) := by
  have hl : ((l.drop 8).take n).length = n := by rw [List.length_take, List.length_drop]; omega
  have h4 : (l.take 4).length = 4 := by rw [List.length_take]; omega
  have h44 : ((l.drop 4).take 4).length = 4 := by rw [List.length_take, List.length_drop]; omega
  have e : l.take (8 + n) = l.take 4 ++ ((l.drop 4).take 4 ++ (l.drop 8).take n) := by
    rw [show 8 + n = 4 + (4 + n) by omega, List.take_add, List.take_add, List.drop_drop]
  have e1 : numB (((l.drop 8).take n).length : Int) 4 = l.take 4 := by rw [hl, ← hn, numB_getN h4]
  unfold frameL
  rw [e, e1]
  have hs := sumL_lt ((l.drop 8).take n)
  have hg : getN (numB (sumL ((l.drop 8).take n) : Int) 4) = (sumL ((l.drop 8).take n) : Int) := getN_numB 4 _ (by omega) (by rw [show (256 : Int) ^ 4 = 4294967296 from rfl]; omega)
  constructor
  · intro q
    have q1 := List.append_cancel_left q
    have q2 := (List.append_inj q1 (by rw [numB_len, h44])).1
    rw [← q2, hg]
  · intro q
    rw [q, numB_getN h44]
theorem rnext_bads (g : Nat) (l : List UInt8) (n : Nat) (q c f t : ByteArray) (w : World) (h : RB2 w g l false) (hz : l.length ≤ 140737488351232) (hn1 : n ≤ 65536) (hn2 : 8 + n ≤ l.length)
    (G1 : Hid (∀ w, Calls Try.prog 90 #[.string q] w fun e w' => e = .returned (.tuple #[.int .i64 (n : Int), .int .i64 0]) ∧ w = w'))
    (G2 : Hid (∀ w, Calls Try.prog 28 #[.string c] w fun e w' => e = .returned (.tuple #[.string f, .int .i64 0]) ∧ Bl w w'))
    (hq : (strL l).extract 0 4 = q) (hc : (strL l).extract 8 (8 + n) = c) (ht : (strL l).extract 0 (8 + n) = t) (hs : (f.toList == t.toList) = false) :
    Calls Try.prog 31 #[.pointer (some ⟨g, 0, none⟩)] w fun e w' => e = .returned (.tuple #[.string ⟨#[]⟩, .bool false]) ∧ ∃ w1, Bl w w1 ∧ w' = (w1.setCell ⟨g, 1, none⟩ (.bool true)).setCell ⟨g, 0, none⟩ (.string (strL [])) := by
  have c0 := AC.cell h 0 _ rfl
  have c1 := AC.cell h 1 _ rfl
  have z1 := strL_size l
  have H : Hid (AC w g [.string (strL l), .bool false]) := Lib.hid h
  clear h
  generalize strL l = s at *
  go_enter Try.func31, Try.ntmps31
  go_wp2_with fail
  refine (G1.out _).mono ?_
  rintro e w' ⟨rfl, rfl⟩
  go_wp2_with fail
  refine (G2.out _).mono ?_
  rintro e w2 ⟨rfl, hb⟩
  have h2 : AC w2 g [.string s, .bool false] := AC.keep H.out hb
  have d0 := AC.cell h2 0 _ rfl
  have d1 := AC.cell h2 1 _ rfl
  have f1 := AC.frozen h2 1
  have h' := AC.setj h2 1 (.bool true)
  have e0 := AC.cell h' 0 _ rfl
  have f0 := AC.frozen h' 0
  clear h2 h' c0 c1
  have HB := Lib.hid hb
  clear hb
  go_wp2_with fail
  go_ret2
  exact ⟨rfl, _, HB.out, rfl⟩
theorem rnext_whole (g : Nat) (l : List UInt8) (n : Nat) (q c f t r : ByteArray) (w : World) (h : RB2 w g l false) (hz : l.length ≤ 140737488351232) (hn1 : n ≤ 65536) (hn2 : 8 + n ≤ l.length)
    (G1 : Hid (∀ w, Calls Try.prog 90 #[.string q] w fun e w' => e = .returned (.tuple #[.int .i64 (n : Int), .int .i64 0]) ∧ w = w'))
    (G2 : Hid (∀ w, Calls Try.prog 28 #[.string c] w fun e w' => e = .returned (.tuple #[.string f, .int .i64 0]) ∧ Bl w w'))
    (hq : (strL l).extract 0 4 = q) (hc : (strL l).extract 8 (8 + n) = c) (ht : (strL l).extract 0 (8 + n) = t) (hr : (strL l).extract (8 + n) (strL l).size = r) (hs : (f.toList == t.toList) = true) :
    Calls Try.prog 31 #[.pointer (some ⟨g, 0, none⟩)] w fun e w' => e = .returned (.tuple #[.string c, .bool true]) ∧ ∃ w1, Bl w w1 ∧ w' = w1.setCell ⟨g, 0, none⟩ (.string r) := by
  have c0 := AC.cell h 0 _ rfl
  have c1 := AC.cell h 1 _ rfl
  have z1 := strL_size l
  have H : Hid (AC w g [.string (strL l), .bool false]) := Lib.hid h
  clear h
  rw [z1] at hr
  generalize strL l = s at *
  go_enter Try.func31, Try.ntmps31
  go_wp2_with fail
  refine (G1.out _).mono ?_
  rintro e w' ⟨rfl, rfl⟩
  go_wp2_with fail
  refine (G2.out _).mono ?_
  rintro e w2 ⟨rfl, hb⟩
  have h2 : AC w2 g [.string s, .bool false] := AC.keep H.out hb
  have d0 := AC.cell h2 0 _ rfl
  have f0 := AC.frozen h2 0
  clear h2 c0 c1
  have HB := Lib.hid hb
  clear hb
  go_wp2_with fail
  go_ret2
  exact ⟨rfl, _, HB.out, rfl⟩
theorem rnext0 (g : Nat) (l : List UInt8) (w : World) (h : RB2 w g l false) (hz : l.length ≤ 140737488351232) (hh : headF l = 0) :
    Calls Try.prog 31 #[.pointer (some ⟨g, 0, none⟩)] w fun e w' => e = .returned (.tuple #[.string ⟨#[]⟩, .bool false]) ∧ w = w' := by
  rcases headF_zero hh with h1 | ⟨h1, h2, h3⟩
  · exact rnext_short g l w h h1
  · exact rnext_wait g l (lenF l) w h h1 hz (lenF_int l) h2 h3
theorem rnext1 (g : Nat) (l : List UInt8) (w : World) (h : RB2 w g l false) (hz : l.length ≤ 140737488351232) (hh : headF l = 1) :
    Calls Try.prog 31 #[.pointer (some ⟨g, 0, none⟩)] w fun e w' => e = .returned (.tuple #[.string (strL (bodyF l)), .bool true]) ∧ ∃ w1, Bl w w1 ∧ w' = w1.setCell ⟨g, 0, none⟩ (.string (strL (restF l))) := by
  obtain ⟨h1, h2, h3, h4⟩ := headF_one hh
  have hb : (bodyF l).length ≤ 65536 := by unfold bodyF; rw [List.length_take]; omega
  refine rnext_whole g l (lenF l) _ _ _ _ _ w h hz h2 h3 (Lib.hid fun w => ?_) (Lib.hid fun w => rframe_yes (bodyF l) w hb) (strL_take l 4) ?_ (strL_take l (8 + lenF l)) ?_ ?_
  · have := rget4_any l w h1
    rwa [lenF_int l] at this
  · rw [strL_ext, show 8 + lenF l - 8 = lenF l by omega]; rfl
  · exact strL_drop l (8 + lenF l)
  · rw [SB.beq (strL_SB _) (strL_SB _)]
    exact decide_eq_true ((frame_is l (lenF l) (lenF_int l) h3).2 h4.symm)
theorem rnext2 (g : Nat) (l : List UInt8) (w : World) (h : RB2 w g l false) (hz : l.length ≤ 140737488351232) (hh : headF l = 2) :
    Calls Try.prog 31 #[.pointer (some ⟨g, 0, none⟩)] w fun e w' => e = .returned (.tuple #[.string ⟨#[]⟩, .bool false]) ∧ ∃ w1, Bl w w1 ∧ w' = (w1.setCell ⟨g, 1, none⟩ (.bool true)).setCell ⟨g, 0, none⟩ (.string (strL [])) := by
  obtain ⟨h1, h2 | ⟨h2, h3, h4⟩⟩ := headF_two hh
  · have := (getN4 l).2
    rw [lenF_int l] at this
    refine (rnext_over g l (lenF l) w h h1 hz (lenF_int l) h2 (by omega)).mono ?_
    rintro e w' ⟨rfl, rfl⟩
    exact ⟨rfl, w, Bl.refl _, rfl⟩
  · have hb : (bodyF l).length ≤ 65536 := by unfold bodyF; rw [List.length_take]; omega
    refine rnext_bads g l (lenF l) _ _ _ _ w h hz h2 h3 (Lib.hid fun w => ?_) (Lib.hid fun w => rframe_yes (bodyF l) w hb) (strL_take l 4) ?_ (strL_take l (8 + lenF l)) ?_
    · have := rget4_any l w h1
      rwa [lenF_int l] at this
    · rw [strL_ext, show 8 + lenF l - 8 = lenF l by omega]; rfl
    · rw [SB.beq (strL_SB _) (strL_SB _)]
      exact decide_eq_false (fun q => h4 ((frame_is l (lenF l) (lenF_int l) h3).1 q).symm)
end Go.Proofs.Ytechiehbigmjbaa
