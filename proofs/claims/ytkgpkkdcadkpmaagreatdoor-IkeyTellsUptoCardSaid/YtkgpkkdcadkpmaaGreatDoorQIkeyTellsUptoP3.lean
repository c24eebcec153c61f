import Derived.Test.YtkgpkkdcadkpmaaGreatDoorQIkeyTellsUptoP2
import Derived.Outline
import Derived.Test.YtkgpkkdcadkpmaaGreatDoorRows
import Derived.Laws.FloatBits
import Derived.Test.YtkgpkkdcadkpmaaGreatDoorQIkeyTellsUptoP1
import Derived.Test.YtkgpkkdcadkpmaaGreatDoorShelf
import Derived.WalkLawsBesides
import Derived.Deep.RegionLaw
import Derived.Deep.AppendLies

/- strings.ReplaceAll of one byte; ikey.Head. By an AI agent. -/
section
namespace Go.Proofs.YtkgpkkdcadkpmaaGreatDoor
open Go.RowKit Go.Shelf

/-- a byte as it stands in a key's head -/
def repC (c : UInt8) : List UInt8 := if c = 0 then [0, 255] else [c]
def repL (l : List UInt8) : List UInt8 := l.flatMap repC
def headL (l : List UInt8) : List UInt8 := repL l ++ [0, 1]
theorem repL_append (l m : List UInt8) : repL (l ++ m) = repL l ++ repL m := by simp [repL]
theorem repL_no {l : List UInt8} (h : (0 : UInt8) ∉ l) : repL l = l := by
  induction l with
  | nil => rfl
  | cons a l ih =>
    have ha : a ≠ 0 := fun e => h (by rw [e]; exact List.mem_cons_self ..)
    show repC a ++ repL l = a :: l
    rw [ih (fun x => h (List.mem_cons_of_mem _ x)), repC, if_neg ha]; rfl
theorem repL_zero (l m : List UInt8) (h : (0 : UInt8) ∉ l) : repL (l ++ 0 :: m) = l ++ [0, 255] ++ repL m := by
  rw [repL_append, repL_no h, List.append_assoc]; rfl
theorem repL_len (l : List UInt8) : (repL l).length ≤ 2 * l.length := by
  induction l with
  | nil => simp [repL]
  | cons a l ih =>
    show (repC a ++ repL l).length ≤ _
    have : (repC a).length ≤ 2 := by unfold repC; split <;> simp
    rw [List.length_append, List.length_cons]; omega
theorem count_none {l : List UInt8} (h : Lib.countByte l 0 = 0) : (0 : UInt8) ∉ l := by
  unfold Lib.countByte at h
  exact List.count_eq_zero.1 h
/-- the first nought behind a place -/
theorem first_zero {l : List UInt8} (h : 0 < Lib.countByte l 0) : ∃ a m, l = a ++ 0 :: m ∧ (0 : UInt8) ∉ a ∧ Lib.indexByte l 0 = a.length ∧ Lib.countByte l 0 = Lib.countByte m 0 + 1 := by
  unfold Lib.countByte at *
  induction l with
  | nil => simp at h
  | cons b l ih =>
    by_cases hb : b = 0
    · subst hb
      exact ⟨[], l, rfl, by simp, rfl, by simp⟩
    · have hc : (b :: l).count 0 = l.count 0 := by rw [List.count_cons]; simp [hb]
      rw [hc] at h
      obtain ⟨a, m, rfl, h1, h2, h3⟩ := ih h
      refine ⟨b :: a, m, rfl, ?_, ?_, ?_⟩
      · intro x
        rcases List.mem_cons.1 x with x | x
        · exact hb x.symm
        · exact h1 x
      · have hbb : (b == 0) = false := by simpa using hb
        rw [Lib.indexByte, hbb, h2]
        simp only [Bool.false_eq_true, if_false, List.length_cons]
        rw [if_neg (by simp <;> omega)]
        omega
      · rw [hc, h3]

theorem BI.of_grow {B b : Nat} {w : World} (h : Lib.BuilderAt 107 5 B b (.pointer (some ⟨b, 0, none⟩)) [] w) : BI B b [] w := .inr h

theorem piece_SB {s : ByteArray} {l : List UInt8} (h : SB s l) (i j : Nat) : SB (s.extract i j) ((l.drop i).take (j - i)) := by
  rw [SB, Lib.extract_data, h]

set_option maxHeartbeats 1600000 in
set_option maxRecDepth 100000 in
theorem rep_some (s : ByteArray) (l : List UInt8) (M : Nat) (w : World) (hs : SB s l) (hz : s.size ≤ 1000000) (hM : Lib.countByte l 0 = M) (h0 : M ≠ 0) :
    Calls Tryz.prog 110 #[.string s, .string ⟨#[0]⟩, .string ⟨#[0, 255]⟩, .int .i64 (-1)] w fun e w' => e = .returned (.string ⟨(repL l).toArray⟩) ∧ Bl w w' := by
  have hlen := hs.size
  have hMl : M ≤ s.size := by rw [← hM, hlen]; exact List.count_le_length
  have q0 : ((M : Int) == 0) = false := by simpa using h0
  have hcnt : ∀ w, Calls Tryz.prog 150 #[.string s, .string ⟨#[0]⟩] w fun e w' => e = .returned (.int .i64 M) ∧ w' = w := fun w => by
    have := Tryz.strings_Count_one s 0 w
    rwa [show s.data.toList = l from hs, hM] at this
  have HC := Lib.hid hcnt
  have HM := Lib.hid hM
  have HS := Lib.hid hs
  have HL := Lib.hid hlen
  clear hcnt hM hs hlen
  go_enter Tryz.func110, Tryz.ntmps110
  go_wp2_with fail
  refine (HC.out _).mono ?_
  rintro e w1 ⟨rfl, rfl⟩
  go_wp2_with fail
  have hbl0 := (Bl.refl w1).alloc (.cells #[.pointer none, .slice none 0 0] 107)
  have hgrow := Tryz.Builder_Grow_fresh w1.heap.size w1.heap.size (s.size + M) (w1.alloc (.cells #[.pointer none, .slice none 0 0] 107)) (Nat.le_refl _) (heap_alloc_new w1 _) (by simp) (by omega)
  rw [show ((s.size + M : Nat) : Int) = (s.size : Int) + (M : Int) by push_cast; rfl] at hgrow
  refine hgrow.mono ?_
  rintro e w2 ⟨rfl, hB, hbl⟩
  have hB := BI.of_grow hB
  have hb2 : Bl w1 w2 := Below.trans hbl0 hbl
  clear hgrow hbl0 hbl
  go_wp2_with fail
  go_loopw [53, 11] (fun i st wr => ∃ (k p : Nat) (a : List UInt8), k ≤ M ∧ i = .int .i64 k ∧ st = .int .i64 p ∧ Hid (a = repL (l.take p) ∧ Lib.countByte (l.drop p) 0 = M - k) ∧ p ≤ s.size ∧ a.length ≤ 2 * p ∧ BI w1.heap.size w1.heap.size a wr ∧ Bl w1 wr) (fun i _ _ => M - (intOf i).toNat)
  case atStart => exact ⟨0, 0, [], Nat.zero_le _, rfl, rfl, Lib.hid ⟨rfl, HM.out⟩, Nat.zero_le _, Nat.le_refl _, hB, hb2⟩
  case round =>
    clear hB hb2
    obtain ⟨k, p, a, hk, rfl, rfl, HA, hp, hal, hB, hb⟩ := hrel
    have hsz := hb.size
    by_cases hlt : k < M
    · obtain ⟨x, m, hxm, hx0, hidx, hcm⟩ := first_zero (l := l.drop p) (by rw [HA.out.2]; omega)
      obtain ⟨q, hq⟩ : ∃ q : ByteArray, s.extract p s.size = q := ⟨_, rfl⟩
      have hql : q.data.toList = l.drop p := by
        rw [← hq, piece_SB HS.out p s.size, List.take_of_length_le]
        rw [List.length_drop]; have := HL.out; omega
      have hI : ∀ w, Calls Tryz.prog 152 #[.string q, .string ⟨#[0]⟩] w fun e w' => e = .returned (.int .i64 (x.length : Int)) ∧ w' = w := fun w => by
        have := Tryz.strings_Index_one q 0 w
        rwa [hql, hidx] at this
      have HI := Lib.hid hI
      have hlen : p + x.length + 1 + m.length = s.size := by
        have := congrArg List.length hxm
        rw [List.length_drop, List.length_append, List.length_cons] at this
        have := HL.out
        omega
      obtain ⟨y, hy⟩ : ∃ y : ByteArray, s.extract p (p + x.length) = y := ⟨_, rfl⟩
      have hyl : y.data.toList = x := by
        rw [← hy, piece_SB HS.out p (p + x.length), hxm, show p + x.length - p = x.length by omega]
        exact List.take_left
      have HY := Lib.hid hyl
      have hN : Hid (a ++ x ++ [0, 255] = repL (l.take (p + x.length + 1)) ∧ Lib.countByte (l.drop (p + x.length + 1)) 0 = M - (k + 1)) := Lib.hid (by
        have e1 : l.take (p + x.length + 1) = l.take p ++ (x ++ [0]) := by
          rw [Nat.add_assoc, List.take_add, hxm, show x ++ 0 :: m = (x ++ [0]) ++ m by simp]
          congr 1
          exact List.take_left' (by simp)
        have e2 : l.drop (p + x.length + 1) = m := by
          rw [Nat.add_assoc, ← List.drop_drop, hxm, show x ++ 0 :: m = (x ++ [0]) ++ m by simp]
          exact List.drop_left' (by simp)
        refine ⟨?_, ?_⟩
        · rw [e1, repL_append, ← HA.out.1, repL_zero x [] hx0, List.append_assoc]
          simp [repL]
        · rw [e2]
          have h1 := HA.out.2
          rw [hcm] at h1
          omega)
      clear hql hI hxm hx0 hidx hcm hyl
      go_wp2_with fail
      refine (HI.out _).mono ?_
      rintro e w3 ⟨rfl, rfl⟩
      go_wp2_with fail
      refine (bi_writeString w1.heap.size w1.heap.size a y x HY.out _ hB (by omega) hsz).mono ?_
      rintro e w4 ⟨rfl, hB4, hb4⟩
      have hb5 : Bl w1 w4 := Below.trans hb hb4
      have hsz5 := hb5.size
      clear hb4 hB
      go_wp2_with fail
      refine (bi_writeString w1.heap.size w1.heap.size (a ++ x) ⟨#[0, 255]⟩ [0, 255] rfl _ hB4 (by rw [List.length_append]; simp; omega) hsz5).mono ?_
      rintro e w6 ⟨rfl, hB6, hb6⟩
      have hb7 : Bl w1 w6 := Below.trans hb5 hb6
      clear hb5 hb6 hB4 hb
      go_wp2_with fail
      go_roundw
      case rel => exact ⟨k + 1, p + x.length + 1, _, by omega, by go_num, by go_num, hN, by omega, by rw [List.length_append, List.length_append]; simp; omega, hB6, hb7⟩
      case measure => simp [intOf]; omega
    · have hkM : k = M := by omega
      obtain ⟨q, hq⟩ : ∃ q : ByteArray, s.extract p s.size = q := ⟨_, rfl⟩
      have hql : q.data.toList = l.drop p := by
        rw [← hq, piece_SB HS.out p s.size, List.take_of_length_le]
        rw [List.length_drop]; have := HL.out; omega
      have HQ := Lib.hid hql
      have HF : Hid (a ++ l.drop p = repL l) := Lib.hid (by
        have h2 := HA.out.2
        rw [hkM, Nat.sub_self] at h2
        have h3 := repL_no (count_none h2)
        rw [HA.out.1, ← h3, ← repL_append, List.take_append_drop])
      have hdl : (l.drop p).length ≤ 1000000 := by rw [List.length_drop]; have := HL.out; omega
      clear hql
      go_wp2_with fail
      refine (bi_writeString w1.heap.size w1.heap.size a q _ HQ.out _ hB (by omega) hsz).mono ?_
      rintro e w4 ⟨rfl, hB4, hb4⟩
      have hb5 : Bl w1 w4 := Below.trans hb hb4
      have hsz5 := hb5.size
      clear hb4 hB
      go_wp2_with fail
      refine (Tryz.Builder_String_any w1.heap.size w1.heap.size _ _ hB4 hsz5).mono ?_
      rintro e w6 ⟨rfl, hb6⟩
      go_wp2_with fail
      go_ret
      exact ⟨by rw [HF.out]; rfl, Below.trans hb5 hb6⟩
set_option maxRecDepth 100000 in
theorem rep_none (s : ByteArray) (l : List UInt8) (w : World) (hs : SB s l) (hM : Lib.countByte l 0 = 0) :
    Calls Tryz.prog 110 #[.string s, .string ⟨#[0]⟩, .string ⟨#[0, 255]⟩, .int .i64 (-1)] w fun e w' => e = .returned (.string ⟨(repL l).toArray⟩) ∧ Bl w w' := by
  have hcnt : ∀ w, Calls Tryz.prog 150 #[.string s, .string ⟨#[0]⟩] w fun e w' => e = .returned (.int .i64 0) ∧ w' = w := fun w => by
    have := Tryz.strings_Count_one s 0 w
    rwa [show s.data.toList = l from hs, hM] at this
  have HC := Lib.hid hcnt
  have HE : Hid (s = ⟨(repL l).toArray⟩) := Lib.hid (by rw [repL_no (count_none hM)]; exact SB.eq hs (SB.mk _))
  clear hcnt hM hs
  go_enter Tryz.func110, Tryz.ntmps110
  go_wp2_with fail
  refine (HC.out _).mono ?_
  rintro e w1 ⟨rfl, rfl⟩
  go_wp2_with fail
  go_ret
  exact ⟨by rw [← HE.out]; rfl, Bl.refl _⟩
theorem repAll_any (s : ByteArray) (l : List UInt8) (w : World) (hs : SB s l) (hz : s.size ≤ 1000000) :
    Calls Tryz.prog 36 #[.string s, .string ⟨#[0]⟩, .string ⟨#[0, 255]⟩] w fun e w' => e = .returned (.string ⟨(repL l).toArray⟩) ∧ Bl w w' := by
  have hc : ∀ w, Calls Tryz.prog 110 #[.string s, .string ⟨#[0]⟩, .string ⟨#[0, 255]⟩, .int .i64 (-1)] w fun e w' => e = .returned (.string ⟨(repL l).toArray⟩) ∧ Bl w w' := fun w => by
    by_cases h : Lib.countByte l 0 = 0
    · exact rep_none s l w hs h
    · exact rep_some s l _ w hs hz rfl h
  have HC := Lib.hid hc
  clear hc
  generalize (⟨(repL l).toArray⟩ : ByteArray) = r at *
  go_enter Tryz.func36, Tryz.ntmps36
  go_wp2_with fail
  refine (HC.out _).mono ?_
  rintro e w1 ⟨rfl, hb⟩
  go_wp2_with fail
  go_ret
  exact ⟨rfl, hb⟩
/-- ikey.Head -/
theorem head_any (s : ByteArray) (l : List UInt8) (w : World) (hs : SB s l) (hz : s.size ≤ 1000000) :
    Calls Tryz.prog 16 #[.string s] w fun e w' => e = .returned (.string ⟨(headL l).toArray⟩) ∧ Bl w w' := by
  have hc := fun w => repAll_any s l w hs hz
  have hl := repL_len l
  have hzr : (⟨(repL l).toArray⟩ : ByteArray).size ≤ 2000000 := by rw [(SB.mk _).size]; have := hs.size; omega
  have HC := Lib.hid hc
  have HE : Hid ((⟨(repL l).toArray⟩ : ByteArray) ++ ⟨#[0, 1]⟩ = ⟨(headL l).toArray⟩) := Lib.hid (SB.eq (SB.append (SB.mk (repL l)) (show SB ⟨#[0, 1]⟩ [0, 1] from rfl)) (SB.mk _))
  clear hc hl
  generalize (⟨(repL l).toArray⟩ : ByteArray) = r at *
  go_enter Tryz.func16, Tryz.ntmps16
  go_wp2_with fail
  refine (HC.out _).mono ?_
  rintro e w1 ⟨rfl, hb⟩
  go_wp2_with fail
  go_ret
  exact ⟨by rw [← HE.out]; rfl, hb⟩
end Go.Proofs.YtkgpkkdcadkpmaaGreatDoor
end

/- float64 words, their order and their key. Plain facts over the model's Ieee. · real.Put, real.Compare, real.Max, real.Ratio. · real.Compare, real.Max. · real.Same, real.Min; what the order keys of numbers tell. By an AI agent. -/
section
namespace Go.Proofs.YtkgpkkdcadkpmaaGreatDoor
open Ieee

def two63 : Nat := 9223372036854775808
def two64 : Nat := 18446744073709551616
def two52 : Nat := 4503599627370496
def infR : Nat := 9218868437227405312
theorem d_binade : Ieee.double.binade = two52 := by decide +kernel
theorem d_infRung : Ieee.double.infRung = infR := by decide +kernel
theorem d_signWeight : Ieee.double.signWeight = two63 := by decide +kernel
theorem d_leastPlace : Ieee.double.leastPlace = -1074 := by decide +kernel

/-- is it no number? -/
def nanB (x : Nat) : Bool := decide (infR < x % two63)
/-- the word in the numbers' order -/
def fkey (x : Nat) : Nat := if nanB x then 0 else if two63 ≤ x then two64 - 1 - x else x + two63
/-- a rung's worth, in units of the least number -/
def uval (r : Nat) : Nat := if r < two52 then r else (two52 + r % two52) * 2 ^ (r / two52 - 1)
/-- a word's worth -/
def sval (x : Nat) : Int := if two63 ≤ x then -(uval (x % two63) : Int) else (uval (x % two63) : Int)

theorem uval_lt {r s : Nat} (h : r < s) : uval r < uval s := by
  unfold uval
  have hp : ∀ k : Nat, 1 ≤ 2 ^ k := fun k => Nat.one_le_two_pow
  by_cases h1 : s < two52
  · rw [if_pos (by omega), if_pos h1]; exact h
  · rw [if_neg h1]
    have hs : two52 ≤ (two52 + s % two52) * 2 ^ (s / two52 - 1) := by
      calc two52 ≤ two52 + s % two52 := by omega
        _ ≤ (two52 + s % two52) * 2 ^ (s / two52 - 1) := Nat.le_mul_of_pos_right _ (hp _)
    by_cases h2 : r < two52
    · rw [if_pos h2]; omega
    · rw [if_neg h2]
      have hr1 : 1 ≤ r / two52 := by unfold two52 at *; omega
      have hs1 : 1 ≤ s / two52 := by unfold two52 at *; omega
      have hle : r / two52 ≤ s / two52 := Nat.div_le_div_right (by omega)
      rcases Nat.lt_or_ge (r / two52) (s / two52) with hlt | hge
      · have e1 : (two52 + r % two52) * 2 ^ (r / two52 - 1) < two52 * 2 ^ (r / two52) := by
          have e : 2 ^ (r / two52) = 2 * 2 ^ (r / two52 - 1) := by
            rw [← Nat.pow_succ']; congr 1; omega
          rw [e, ← Nat.mul_assoc]
          exact Nat.mul_lt_mul_of_pos_right (by unfold two52 at *; omega) (hp _)
        have e2 : two52 * 2 ^ (r / two52) ≤ two52 * 2 ^ (s / two52 - 1) := Nat.mul_le_mul_left _ (Nat.pow_le_pow_right (by decide) (by omega))
        have e3 : two52 * 2 ^ (s / two52 - 1) ≤ (two52 + s % two52) * 2 ^ (s / two52 - 1) := Nat.mul_le_mul_right _ (by omega)
        omega
      · have e : r / two52 = s / two52 := by omega
        rw [e]
        refine Nat.mul_lt_mul_of_pos_right ?_ (hp _)
        have := Nat.div_add_mod r two52
        have := Nat.div_add_mod s two52
        rw [e] at *
        omega

theorem neg_of {x : Nat} (hx : x < two64) : (x / two63 % 2 == 1) = decide (two63 ≤ x) := by
  unfold two63 two64 at *
  rw [Bool.eq_iff_iff, beq_iff_eq, decide_eq_true_eq]; omega

/-- what a word stands for -/
theorem read_fin {x : Nat} (hx : x < two64) (h : x % two63 < infR) : ∃ (m : Nat) (p : Int), Ieee.double.read x = .number (decide (two63 ≤ x)) m p ∧ -1074 ≤ p ∧ m * 2 ^ (p + 1074).toNat = uval (x % two63) := by
  unfold Format.read
  rw [d_signWeight, d_binade, d_infRung, d_leastPlace, neg_of hx]
  simp only
  by_cases h1 : x % two63 < two52
  · rw [if_pos h1]
    exact ⟨_, _, rfl, by omega, by simp [uval, h1]⟩
  · rw [if_neg h1, if_pos h]
    refine ⟨_, _, rfl, by omega, ?_⟩
    rw [uval, if_neg h1]
    congr 2
    omega
theorem read_inf {x : Nat} (hx : x < two64) (h : x % two63 = infR) : Ieee.double.read x = .infinity (decide (two63 ≤ x)) := by
  unfold Format.read
  rw [d_signWeight, d_binade, d_infRung, d_leastPlace, neg_of hx]
  simp only
  rw [if_neg (by rw [h]; decide), if_neg (by omega), if_pos h]
theorem read_nan' {x : Nat} (h : nanB x = true) : ∃ s f, Ieee.double.read x = .nan s f := by
  have h' : infR < x % two63 := by simpa [nanB] using h
  unfold Format.read
  rw [d_signWeight, d_binade, d_infRung, d_leastPlace]
  simp only
  have hlt : two52 ≤ infR := by decide
  rw [if_neg (by omega), if_neg (by omega), if_neg (by omega)]
  exact ⟨_, _, rfl⟩

theorem signed_eq (s : Bool) (m up : Nat) : signed s m up = (if s then -1 else 1) * ((m * 2 ^ up : Nat) : Int) := by
  unfold signed
  rw [Nat.shiftLeft_eq]
  cases s <;> simp
theorem compare_scale (a b : Int) (c : Nat) : compare (a * (2 ^ c : Nat)) (b * (2 ^ c : Nat)) = compare a b := by
  have hc : (0 : Int) < ((2 ^ c : Nat) : Int) := by exact_mod_cast Nat.two_pow_pos c
  rcases Int.lt_trichotomy a b with h | h | h
  · rw [Int.compare_eq_lt.2 h, Int.compare_eq_lt.2 (Int.mul_lt_mul_of_pos_right h hc)]
  · subst h; simp
  · rw [Int.compare_eq_gt.2 h, Int.compare_eq_gt.2 (Int.mul_lt_mul_of_pos_right h hc)]

theorem fin_or_inf {x : Nat} (h : nanB x = false) : x % two63 < infR ∨ x % two63 = infR := by
  simp [nanB] at h; omega

theorem order_fin {x y : Nat} (hx : x < two64) (hy : y < two64) (h1 : x % two63 < infR) (h2 : y % two63 < infR) : Ieee.double.order x y = some (compare (sval x) (sval y)) := by
  obtain ⟨m, i, e1, p1, u1⟩ := read_fin hx h1
  obtain ⟨n, j, e2, p2, u2⟩ := read_fin hy h2
  unfold Format.order
  rw [e1, e2]
  simp only [Datum.order]
  congr 1
  have hb : -1074 ≤ min i j := by omega
  have k1 : (i - min i j).toNat + (min i j + 1074).toNat = (i + 1074).toNat := by omega
  have k2 : (j - min i j).toNat + (min i j + 1074).toNat = (j + 1074).toNat := by omega
  rw [← compare_scale _ _ (min i j + 1074).toNat, signed_eq, signed_eq]
  have g1 : ((if decide (two63 ≤ x) = true then -1 else 1) * ((m * 2 ^ (i - min i j).toNat : Nat) : Int)) * ((2 ^ (min i j + 1074).toNat : Nat) : Int) = sval x := by
    rw [Int.mul_assoc, ← Int.natCast_mul, Nat.mul_assoc, ← Nat.pow_add, k1, u1]
    unfold sval
    by_cases h : two63 ≤ x <;> simp [h]
  have g2 : ((if decide (two63 ≤ y) = true then -1 else 1) * ((n * 2 ^ (j - min i j).toNat : Nat) : Int)) * ((2 ^ (min i j + 1074).toNat : Nat) : Int) = sval y := by
    rw [Int.mul_assoc, ← Int.natCast_mul, Nat.mul_assoc, ← Nat.pow_add, k2, u2]
    unfold sval
    by_cases h : two63 ≤ y <;> simp [h]
  rw [g1, g2]

theorem order_eq {x y : Nat} (hx : x < two64) (hy : y < two64) (nx : nanB x = false) (ny : nanB y = false) : Ieee.double.order x y = some (compare (sval x) (sval y)) := by
  rcases fin_or_inf nx with h1 | h1 <;> rcases fin_or_inf ny with h2 | h2
  · exact order_fin hx hy h1 h2
  · obtain ⟨m, i, e1, p1, u1⟩ := read_fin hx h1
    unfold Format.order
    rw [e1, read_inf hy h2]
    simp only [Datum.order]
    have hlt := uval_lt h1
    congr 1
    unfold sval
    rw [h2]
    by_cases hn : two63 ≤ y
    · simp only [hn, decide_true, if_true]
      symm; rw [Int.compare_eq_gt]; split <;> omega
    · simp only [hn, decide_false, if_false, Bool.false_eq_true]
      symm; rw [Int.compare_eq_lt]; split <;> omega
  · obtain ⟨m, i, e1, p1, u1⟩ := read_fin hy h2
    unfold Format.order
    rw [e1, read_inf hx h1]
    simp only [Datum.order]
    have hlt := uval_lt h2
    congr 1
    unfold sval
    rw [h1]
    by_cases hn : two63 ≤ x
    · simp only [hn, decide_true, if_true]
      symm; rw [Int.compare_eq_lt]; split <;> omega
    · simp only [hn, decide_false, if_false, Bool.false_eq_true]
      symm; rw [Int.compare_eq_gt]; split <;> omega
  · unfold Format.order
    rw [read_inf hx h1, read_inf hy h2]
    simp only [Datum.order]
    congr 1
    have hpos : 0 < uval infR := by decide +kernel
    unfold sval
    rw [h1, h2]
    by_cases hn : two63 ≤ x <;> by_cases hm : two63 ≤ y <;> simp [hn, hm]
    · rw [Int.compare_eq_lt.2 (by omega)]; rfl
    · rw [Int.compare_eq_gt.2 (by omega)]; rfl
theorem order_nan {x y : Nat} (h : nanB x = true ∨ nanB y = true) : Ieee.double.order x y = none := by
  unfold Format.order
  rcases h with h | h
  · obtain ⟨s, f, e⟩ := read_nan' h
    rw [e]; rfl
  · obtain ⟨s, f, e⟩ := read_nan' h
    rw [e]
    cases Ieee.double.read x <;> rfl

theorem fkey_num {x : Nat} (h : nanB x = false) : fkey x = if two63 ≤ x then two64 - 1 - x else x + two63 := by simp [fkey, h]
/-- 'x != x' -/
theorem self_nan {x : Nat} (hx : x < two64) : (Ieee.double.order x x != some .eq) = nanB x := by
  cases nx : nanB x
  · rw [order_eq hx hx nx nx]; simp
  · rw [order_nan (.inl nx)]; rfl
end Go.Proofs.YtkgpkkdcadkpmaaGreatDoor

namespace Go.Proofs.YtkgpkkdcadkpmaaGreatDoor
open Go.RowKit

theorem run_bits (x : Nat) (w : World) : (callFunc 168 #[.float .f64 x]).run Tryz.prog w = .ok (.value (.int .u64 x)) w := by
  rw [run_callFunc_extern Tryz.func168 (by kernel_rfl) (by kernel_rfl) (by kernel_rfl) (e := Extern.MathFloatBits.float64bits) (by kernel_rfl)]
  rfl


/-- -1, 0, 1 -/
def cmpN (a b : Nat) : Int := if a < b then -1 else if b < a then 1 else 0

end Go.Proofs.YtkgpkkdcadkpmaaGreatDoor

namespace Go.Proofs.YtkgpkkdcadkpmaaGreatDoor
open Go.RowKit




end Go.Proofs.YtkgpkkdcadkpmaaGreatDoor

namespace Go.Proofs.YtkgpkkdcadkpmaaGreatDoor
open Go.RowKit


theorem cmpN_zero (a b : Nat) : (cmpN a b == 0) = decide (a = b) := by
  unfold cmpN
  by_cases h : a < b
  · rw [if_pos h, decide_eq_false (by omega)]; rfl
  · rw [if_neg h]
    by_cases h2 : b < a
    · rw [if_pos h2, decide_eq_false (by omega)]; rfl
    · rw [if_neg h2, decide_eq_true (by omega)]; rfl
end Go.Proofs.YtkgpkkdcadkpmaaGreatDoor
end

/- a block that holds these cells. By an AI agent. -/
section
namespace Go.Proofs.YtkgpkkdcadkpmaaGreatDoor
open Go.RowKit

/-- a block that holds these cells -/
def AC (w : World) (g : Nat) (cs : List Value) : Prop := ∃ t, w.heap[g]? = some (.cells cs.toArray t (0, 0))
theorem AC.new (w : World) (g : Nat) (hg : g = w.heap.size) (cs : List Value) (t : TypeId) : AC (w.alloc (.cells cs.toArray t)) g cs := by
  subst hg; exact ⟨t, heap_alloc_new w _⟩
theorem AC.keep {w w' : World} {g : Nat} {cs : List Value} (h : AC w g cs) (hb : Bl w w') : AC w' g cs := by
  obtain ⟨t, h⟩ := h; exact ⟨t, hb.heap h⟩
theorem AC.cell {w : World} {g : Nat} {cs : List Value} (h : AC w g cs) (j : Nat) (v : Value) (hj : cs[j]? = some v) : w.cell? ⟨g, j, none⟩ = some v := by
  obtain ⟨t, h⟩ := h
  rw [cell_of_row w g j _ t (0, 0) h]
  simpa using hj
theorem AC.frozen {w : World} {g : Nat} {cs : List Value} (h : AC w g cs) (j : Nat) : w.frozen? ⟨g, j, none⟩ = false := by
  obtain ⟨t, h⟩ := h
  exact frozen_of_row w g j _ t h
theorem AC.lt {w : World} {g : Nat} {cs : List Value} (h : AC w g cs) : g < w.heap.size := by
  obtain ⟨t, h⟩ := h; exact lt_of_heap h
theorem AC.other {w : World} {g g' j : Nat} {cs : List Value} {u : Value} (h : AC w g cs) (hn : g ≠ g') : AC (w.setCell ⟨g', j, none⟩ u) g cs := by
  obtain ⟨t, h⟩ := h
  exact ⟨t, by rw [Below.heap_setCell _ _ _ _ hn]; exact h⟩
end Go.Proofs.YtkgpkkdcadkpmaaGreatDoor
end

/- acts and values, and what the package op tells of them: plain definitions and their laws; blocks of cells; op.nought, right. By an AI agent. -/
section
namespace Go.Proofs.YtkgpkkdcadkpmaaGreatDoor
open Go.RowKit

structure ActL where
  k : Int
  x : Nat
  n : Int
  s : ByteArray
def ActL.v (a : ActL) : Value := .agg #[.int .i64 a.k, .float .f64 a.x, .int .i64 a.n, .string a.s]
/-- ranges of Go's types -/
structure ActL.Ok (a : ActL) : Prop where
  k : -9223372036854775808 ≤ a.k ∧ a.k ≤ 9223372036854775807
  x : a.x < two64
  n : -9223372036854775808 ≤ a.n ∧ a.n ≤ 9223372036854775807
  s : a.s.size ≤ 140737488351232

/-- a key's first byte -/
def hd (key : ByteArray) : Nat := (key.data.toList.headD 0).toNat
def isKeyB (key : ByteArray) : Bool := !key.toList.isEmpty && (decide (key.size ≤ 64) && (decide (hd key = 114) || (decide (hd key = 116) || (decide (hd key = 99) || (decide (hd key = 120) || decide (hd key = 110))))))
def sameA (v u : ActL) : Bool := decide (v.k = u.k) && (decide (fkey v.x = fkey u.x) && (decide (v.n = u.n) && (v.s.toList == u.s.toList)))






end Go.Proofs.YtkgpkkdcadkpmaaGreatDoor

namespace Go.Proofs.YtkgpkkdcadkpmaaGreatDoor
open Go.RowKit

def ActL.cs (a : ActL) : List Value := [.int .i64 a.k, .float .f64 a.x, .int .i64 a.n, .string a.s]
theorem AC.act {w : World} {g : Nat} {k n : Int} {x : Nat} {s : ByteArray} (h : AC w g [.int .i64 k, .float .f64 x, .int .i64 n, .string s]) :
    w.cell? ⟨g, 0, none⟩ = some (.int .i64 k) ∧ w.cell? ⟨g, 1, none⟩ = some (.float .f64 x) ∧ w.cell? ⟨g, 2, none⟩ = some (.int .i64 n) ∧ w.cell? ⟨g, 3, none⟩ = some (.string s) :=
  ⟨h.cell 0 _ rfl, h.cell 1 _ rfl, h.cell 2 _ rfl, h.cell 3 _ rfl⟩
theorem AC.val {w : World} {g : Nat} {b : Bool} {n : Int} {x : Nat} {s : ByteArray} (h : AC w g [.bool b, .float .f64 x, .int .i64 n, .string s]) :
    w.cell? ⟨g, 0, none⟩ = some (.bool b) ∧ w.cell? ⟨g, 1, none⟩ = some (.float .f64 x) ∧ w.cell? ⟨g, 2, none⟩ = some (.int .i64 n) ∧ w.cell? ⟨g, 3, none⟩ = some (.string s) :=
  ⟨h.cell 0 _ rfl, h.cell 1 _ rfl, h.cell 2 _ rfl, h.cell 3 _ rfl⟩


theorem hd_get {s : ByteArray} (h : 0 < s.size) : (s[0]'h).toNat = hd s := by
  obtain ⟨⟨l⟩⟩ := s
  cases l with
  | nil => exact absurd h (by decide)
  | cons a l => rfl
theorem pos_of {s : ByteArray} (h : ¬ s.toList = []) : 0 < s.size := by
  rw [ByteArray.toList_eq] at h
  obtain ⟨⟨l⟩⟩ := s
  cases l with
  | nil => exact absurd rfl h
  | cons a l => simp [ByteArray.size]

theorem store_float (a : Addr) (b : Nat) (w : World) : (store a (.float .f64 b)).run Tryz.prog w = stored Tryz.prog w a (.float .f64 b) .plain := run_store Tryz.prog w a _ .plain rfl


end Go.Proofs.YtkgpkkdcadkpmaaGreatDoor
end
