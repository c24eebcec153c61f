import Derived.Test.YtibabgokmacnaaaGreatQGossipPlaysUptoP35
import Derived.Test.YtibabgokmacnaaaGreatQGossipPlaysUptoP2
import Derived.StillTailTactics

/- strings of bytes; strings.Clone. By an AI agent. -/
section
set_option linter.unusedVariables false
set_option linter.unusedSimpArgs false
namespace Go.Proofs.YtibabgokmacnaaaGreat
open Go.RowKit

theorem cloneB_any (s : ByteArray) (w : World) (hs : s.size ≤ 140737488351232) : Calls Tryz.prog 208 #[.string s] w fun e w' => e = .returned (.string s) ∧ Bl w w' := by
  go_enter Tryz.func208, Tryz.ntmps208
  go_wp2_with fail
  refine (Tryz.stringslite_Clone s _ (by omega)).mono ?_
  rintro e w' ⟨rfl, hb⟩
  go_wp2_with fail
  go_ret
  exact ⟨rfl, hb⟩
/-- the string of these bytes -/
def strL (l : List UInt8) : ByteArray := ⟨l.toArray⟩
theorem strL_SB (l : List UInt8) : SB (strL l) l := rfl
theorem strL_size (l : List UInt8) : (strL l).size = l.length := (strL_SB l).size
theorem strL_of {s : ByteArray} {l : List UInt8} (h : SB s l) : s = strL l := SB.eq h (strL_SB l)
theorem strL_app (l m : List UInt8) : strL l ++ strL m = strL (l ++ m) := SB.eq ((strL_SB l).append (strL_SB m)) (strL_SB _)
theorem strL_nums (x : Int) (n : Nat) : strOfNums (putN x n n) = strL (numB x n) := SB.eq (strOfNums_list _) (strL_SB _)
theorem strL_ext (l : List UInt8) (a b : Nat) : (strL l).extract a b = strL ((l.drop a).take (b - a)) := by
  refine strL_of ?_
  rw [SB, Lib.extract_data, strL_SB]
theorem strL_take (l : List UInt8) (n : Nat) : (strL l).extract 0 n = strL (l.take n) := by
  rw [strL_ext, List.drop_zero, Nat.sub_zero]
theorem strL_drop (l : List UInt8) (n : Nat) : (strL l).extract n (strL l).size = strL (l.drop n) := by
  rw [strL_ext, strL_size, List.take_of_length_le (by rw [List.length_drop]; omega)]
theorem getL_any (l : List UInt8) (w : World) (h1 : 1 ≤ l.length) (h7 : l.length ≤ 7) :
    Calls Tryz.prog 62 #[.string (strL l)] w fun e w' => e = .returned (.tuple #[.int .i64 (getN l), .int .i64 0]) ∧ w = w' :=
  get_any (strL l) w (by rw [strL_size]; exact h1) (by rw [strL_size]; exact h7)
theorem strL_data (s : ByteArray) : strL s.data.toList = s := by unfold strL; simp
end Go.Proofs.YtibabgokmacnaaaGreat
end

/- proto.num, text, vector, Frame; proto.Reader. By an AI agent. -/
section
set_option linter.unusedVariables false
set_option linter.unusedSimpArgs false
namespace Go.Proofs.YtibabgokmacnaaaGreat
open Go.RowKit

theorem num_any (v : Int) (n : Nat) (w : World) (hv : 0 ≤ v) (hn : 1 ≤ n) (hn1 : n ≤ 7) (hvn : v / 2 ^ (8 * n) = 0) :
    Calls Tryz.prog 152 #[.int .i64 v, .int .i64 n] w fun e w' => e = .returned (.string (strL (numB v n))) ∧ Bl w w' := by
  have H := Lib.hid (fun w => put_any v n w hv hn hn1 hvn)
  go_enter Tryz.func152, Tryz.ntmps152
  go_wp2_with fail
  refine (H.out _).mono ?_
  rintro e w' ⟨rfl, hb⟩
  rw [strL_nums]
  go_wp2_with fail
  go_ret
  exact ⟨rfl, hb⟩
theorem num4_any (v : Nat) (w : World) (hv : v < 4294967296) :
    Calls Tryz.prog 152 #[.int .i64 v, .int .i64 4] w fun e w' => e = .returned (.string (strL (numB v 4))) ∧ Bl w w' :=
  num_any v 4 w (by omega) (by decide) (by decide) (by omega)
theorem text_any (l : List UInt8) (w : World) (hl : l.length < 4294967296) :
    Calls Tryz.prog 154 #[.string (strL l)] w fun e w' => e = .returned (.string (strL (textB l))) ∧ Bl w w' := by
  have H := Lib.hid (fun w => num4_any l.length w hl)
  have hz := strL_size l
  have hz2 := strL_size (numB (l.length : Int) 4)
  rw [numB_len] at hz2
  have HA := Lib.hid (strL_app (numB (l.length : Int) 4) l)
  generalize strL (numB (l.length : Int) 4) = q at *
  go_enter Tryz.func154, Tryz.ntmps154
  go_wp2_with fail
  refine (H.out _).mono ?_
  rintro e w' ⟨rfl, hb⟩
  go_wp2_with fail
  go_ret
  exact ⟨by rw [HA.out]; rfl, hb⟩
theorem vector_any (a : Option Addr) (n ca : Nat) (xs : List Int) (w : World) (hx : IA w a n xs) :
    Calls Tryz.prog 153 #[.slice a n ca] w fun e w' => e = .returned (.string (strL (vecB xs))) ∧ Bl w w' := by
  have HX := Lib.hid hx
  clear hx
  go_enter Tryz.func153, Tryz.ntmps153
  go_wp2_with fail
  have hP : Calls Tryz.prog 15 #[.slice a n ca] w fun e w' => ∃ c, e = .returned (.tuple #[.string (strL (vecS xs)), .int .i64 c]) ∧ Bl w w' := by
    unfold vecS
    cases hv : validL xs
    · refine (vput_no a n ca xs w HX.out hv).mono ?_
      rintro e w' ⟨rfl, rfl⟩
      exact ⟨1, rfl, Bl.refl _⟩
    · refine (vput_yes a n ca xs w HX.out hv).mono ?_
      rintro e w' ⟨rfl, hb⟩
      exact ⟨0, rfl, hb⟩
  refine hP.mono ?_
  rintro e w1 ⟨c, rfl, hb⟩
  clear hP
  have H := Lib.hid (fun w => text_any (vecS xs) w (by have := vecS_len xs; omega))
  generalize strL (vecS xs) = q at *
  go_wp2_with fail
  refine (H.out _).mono ?_
  rintro e w2 ⟨rfl, hb2⟩
  go_wp2_with fail
  go_ret
  exact ⟨rfl, hb.trans hb2⟩

/-! ### frames -/
def frameL (l : List UInt8) : List UInt8 := numB (l.length : Int) 4 ++ (numB (sumL l : Int) 4 ++ l)
theorem frameL_len (l : List UInt8) : (frameL l).length = 8 + l.length := by
  unfold frameL
  rw [List.length_append, List.length_append, numB_len, numB_len]; omega
theorem frame_yes (l : List UInt8) (w : World) (hl : l.length ≤ 65536) :
    Calls Tryz.prog 147 #[.string (strL l)] w fun e w' => e = .returned (.tuple #[.string (strL (frameL l)), .int .i64 0]) ∧ Bl w w' := by
  have H1 := Lib.hid (fun w => num4_any l.length w (by omega))
  have H2 := Lib.hid (fun w => num4_any (sumL l) w (sumL_lt l))
  have H3 := Lib.hid (fun w => sum_any (strL l) w (by rw [strL_size]; omega))
  rw [show (strL l).data.toList = l from rfl] at H3
  have hz := strL_size l
  have hz2 := strL_size (numB (l.length : Int) 4)
  have hz3 := strL_size (numB (sumL l : Int) 4)
  rw [numB_len] at hz2 hz3
  have HA := Lib.hid (strL_app (numB (l.length : Int) 4) (numB (sumL l : Int) 4))
  have hz4 := strL_size (numB (l.length : Int) 4 ++ numB (sumL l : Int) 4)
  rw [List.length_append, numB_len, numB_len] at hz4
  have HB := Lib.hid (strL_app (numB (l.length : Int) 4 ++ numB (sumL l : Int) 4) l)
  rw [List.append_assoc] at HB
  generalize strL (numB (l.length : Int) 4 ++ numB (sumL l : Int) 4) = q3 at *
  generalize strL (numB (l.length : Int) 4) = q1 at *
  generalize strL (numB (sumL l : Int) 4) = q2 at *
  have hz5 : (q1 ++ q2).size = 8 := by rw [HA.out, hz4]
  generalize hsum : sumL l = r at *
  go_enter Tryz.func147, Tryz.ntmps147
  go_wp2_with fail
  refine (H1.out _).mono ?_
  rintro e w1 ⟨rfl, hb1⟩
  go_wp2_with fail
  refine (H3.out _).mono ?_
  rintro e w2 ⟨rfl, rfl⟩
  go_wp2_with fail
  refine (H2.out _).mono ?_
  rintro e w2 ⟨rfl, hb2⟩
  go_wp2_with fail
  go_ret2
  exact ⟨by rw [HA.out, HB.out]; unfold frameL; rw [hsum]; rfl, hb1.trans hb2⟩
theorem frame_no (l : List UInt8) (w : World) (hl : 65536 < l.length) :
    Calls Tryz.prog 147 #[.string (strL l)] w fun e w' => e = .returned (.tuple #[.string ⟨#[]⟩, .int .i64 2]) ∧ Bl w w' := by
  have hz := strL_size l
  go_enter Tryz.func147, Tryz.ntmps147
  go_wp2_with fail
  go_ret2
  exact ⟨rfl, Bl.refl _⟩

/-! ### the reader of frames -/
/-- what stands first: 0 nothing whole yet, 1 a frame, 2 what is none -/
def headF (l : List UInt8) : Nat :=
  if l.length < 4 then 0
  else if 65536 < getN (l.take 4) then 2
  else if (l.length : Int) < 8 + getN (l.take 4) then 0
  else if (sumL ((l.drop 8).take (getN (l.take 4)).toNat) : Int) = getN ((l.drop 4).take 4) then 1 else 2
def lenF (l : List UInt8) : Nat := (getN (l.take 4)).toNat
def bodyF (l : List UInt8) : List UInt8 := (l.drop 8).take (lenF l)
def restF (l : List UInt8) : List UInt8 := l.drop (8 + lenF l)
theorem getN4 (l : List UInt8) : 0 ≤ getN (l.take 4) ∧ getN (l.take 4) < 4294967296 := by
  have h := getN_bound (l.take 4)
  have hl : (l.take 4).length ≤ 4 := List.length_take_le _ _
  generalize (l.take 4).length = k at *
  have hk : k = 0 ∨ k = 1 ∨ k = 2 ∨ k = 3 ∨ k = 4 := by omega
  rcases hk with rfl | rfl | rfl | rfl | rfl <;> exact ⟨h.1, Int.lt_of_lt_of_le h.2 (by decide)⟩
/-- the reader's box -/
def RB2 (w : World) (g : Nat) (s : List UInt8) (b : Bool) : Prop := AC w g [.string (strL s), .bool b]
theorem RB2.keep {w w' : World} {g : Nat} {s : List UInt8} {b : Bool} (h : RB2 w g s b) (hb : Bl w w') : RB2 w' g s b := AC.keep h hb

theorem feed_nil (s : ByteArray) (w : World) : Calls Tryz.prog 148 #[.pointer none, .string s] w fun e w' => e = .returned (.tuple #[]) ∧ w = w' := by
  go_enter Tryz.func148, Tryz.ntmps148
  go_wp2_with fail
  go_end0
  exact ⟨rfl, rfl⟩
theorem feed_bad (g : Nat) (s : ByteArray) (l : List UInt8) (w : World) (h : RB2 w g l true) : Calls Tryz.prog 148 #[.pointer (some ⟨g, 0, none⟩), .string s] w fun e w' => e = .returned (.tuple #[]) ∧ w = w' := by
  have c1 := AC.cell h 1 _ rfl
  go_enter Tryz.func148, Tryz.ntmps148
  go_wp2_with fail
  go_end0
  exact ⟨rfl, rfl⟩
theorem feed_any (g : Nat) (m l : List UInt8) (w : World) (h : RB2 w g l false) (hz : l.length + m.length ≤ 140737488351232) :
    Calls Tryz.prog 148 #[.pointer (some ⟨g, 0, none⟩), .string (strL m)] w fun e w' => e = .returned (.tuple #[]) ∧ w' = w.setCell ⟨g, 0, none⟩ (.string (strL (l ++ m))) := by
  have c0 := AC.cell h 0 _ rfl
  have c1 := AC.cell h 1 _ rfl
  have cf := AC.frozen h 0
  have z1 := strL_size l
  have z2 := strL_size m
  have HA := Lib.hid (strL_app l m)
  generalize strL l = s at *
  generalize strL m = t at *
  go_enter Tryz.func148, Tryz.ntmps148
  go_wp2_with fail
  go_end0
  exact ⟨rfl, by rw [HA.out]⟩
theorem left_nil (w : World) : Calls Tryz.prog 150 #[.pointer none] w fun e w' => e = .returned (.int .i64 0) ∧ w = w' := by
  go_enter Tryz.func150, Tryz.ntmps150
  go_wp2_with fail
  go_ret
  exact ⟨rfl, rfl⟩
theorem left_any (g : Nat) (l : List UInt8) (b : Bool) (w : World) (h : RB2 w g l b) (hz : l.length ≤ 140737488351232) : Calls Tryz.prog 150 #[.pointer (some ⟨g, 0, none⟩)] w fun e w' => e = .returned (.int .i64 (l.length : Int)) ∧ w = w' := by
  have c0 := AC.cell h 0 _ rfl
  have z1 := strL_size l
  rw [← z1] at hz
  generalize strL l = s at *
  go_enter Tryz.func150, Tryz.ntmps150
  go_wp2_with fail
  go_ret
  exact ⟨rfl, rfl⟩
theorem next_nil (w : World) : Calls Tryz.prog 149 #[.pointer none] w fun e w' => e = .returned (.tuple #[.string ⟨#[]⟩, .bool false]) ∧ w = w' := by
  go_enter Tryz.func149, Tryz.ntmps149
  go_wp2_with fail
  go_ret2
  exact ⟨rfl, rfl⟩
theorem next_bad (g : Nat) (l : List UInt8) (w : World) (h : RB2 w g l true) : Calls Tryz.prog 149 #[.pointer (some ⟨g, 0, none⟩)] w fun e w' => e = .returned (.tuple #[.string ⟨#[]⟩, .bool false]) ∧ w = w' := by
  have c1 := AC.cell h 1 _ rfl
  go_enter Tryz.func149, Tryz.ntmps149
  go_wp2_with fail
  go_ret2
  exact ⟨rfl, rfl⟩
end Go.Proofs.YtibabgokmacnaaaGreat
end
