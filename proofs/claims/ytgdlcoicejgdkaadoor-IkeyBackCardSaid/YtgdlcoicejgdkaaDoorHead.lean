/- strings.ReplaceAll of one byte; ikey.Head. By an AI agent. -/
import Derived.Test.YtgdlcoicejgdkaaDoorVecP
import Derived.Outline
namespace Go.Proofs.YtgdlcoicejgdkaaDoor
open Go.RowKit Go.Shelf

/-- a byte as it stands in a key's head -/
def repC (c : UInt8) : List UInt8 := if c = 0 then [0, 255] else [c]
def repL (l : List UInt8) : List UInt8 := l.flatMap repC
def headL (l : List UInt8) : List UInt8 := repL l ++ [0, 1]
theorem repL_append (l m : List UInt8) : repL (l ++ m) = repL l ++ repL m := by simp [repL]
theorem repL_no {l : List UInt8} (h : (0 : UInt8) ∉ l) : repL l = l := by
  induction l with
  | nil => rfl
  | cons a l ih =>
    have ha : a ≠ 0 := fun e => h (by rw [e]; exact List.mem_cons_self ..)
    show repC a ++ repL l = a :: l
    rw [ih (fun x => h (List.mem_cons_of_mem _ x)), repC, if_neg ha]; rfl
theorem repL_zero (l m : List UInt8) (h : (0 : UInt8) ∉ l) : repL (l ++ 0 :: m) = l ++ [0, 255] ++ repL m := by
  rw [repL_append, repL_no h, List.append_assoc]; rfl
theorem repL_len (l : List UInt8) : (repL l).length ≤ 2 * l.length := by
  induction l with
  | nil => simp [repL]
  | cons a l ih =>
    show (repC a ++ repL l).length ≤ _
    have : (repC a).length ≤ 2 := by unfold repC; split <;> simp
    rw [List.length_append, List.length_cons]; omega
theorem count_none {l : List UInt8} (h : Lib.countByte l 0 = 0) : (0 : UInt8) ∉ l := by
  unfold Lib.countByte at h
  exact List.count_eq_zero.1 h
/-- the first nought behind a place -/
theorem first_zero {l : List UInt8} (h : 0 < Lib.countByte l 0) : ∃ a m, l = a ++ 0 :: m ∧ (0 : UInt8) ∉ a ∧ Lib.indexByte l 0 = a.length ∧ Lib.countByte l 0 = Lib.countByte m 0 + 1 := by
  unfold Lib.countByte at *
  induction l with
  | nil => simp at h
  | cons b l ih =>
    by_cases hb : b = 0
    · subst hb
      exact ⟨[], l, rfl, by simp, rfl, by simp⟩
    · have hc : (b :: l).count 0 = l.count 0 := by rw [List.count_cons]; simp [hb]
      rw [hc] at h
      obtain ⟨a, m, rfl, h1, h2, h3⟩ := ih h
      refine ⟨b :: a, m, rfl, ?_, ?_, ?_⟩
      · intro x
        rcases List.mem_cons.1 x with x | x
        · exact hb x.symm
        · exact h1 x
      · have hbb : (b == 0) = false := by simpa using hb
        rw [Lib.indexByte, hbb, h2]
        simp only [Bool.false_eq_true, if_false, List.length_cons]
        rw [if_neg (by simp <;> omega)]
        omega
      · rw [hc, h3]

theorem BI.of_grow {B b : Nat} {w : World} (h : Lib.BuilderAt 113 5 B b (.pointer (some ⟨b, 0, none⟩)) [] w) : BI B b [] w := .inr h

theorem piece_SB {s : ByteArray} {l : List UInt8} (h : SB s l) (i j : Nat) : SB (s.extract i j) ((l.drop i).take (j - i)) := by
  rw [SB, Lib.extract_data, h]

set_option maxHeartbeats 1600000 in
set_option maxRecDepth 100000 in
theorem rep_some (s : ByteArray) (l : List UInt8) (M : Nat) (w : World) (hs : SB s l) (hz : s.size ≤ 1000000) (hM : Lib.countByte l 0 = M) (h0 : M ≠ 0) :
    Calls Tryd.prog 121 #[.string s, .string ⟨#[0]⟩, .string ⟨#[0, 255]⟩, .int .i64 (-1)] w fun e w' => e = .returned (.string ⟨(repL l).toArray⟩) ∧ Bl w w' := by
  have hlen := hs.size
  have hMl : M ≤ s.size := by rw [← hM, hlen]; exact List.count_le_length
  have q0 : ((M : Int) == 0) = false := by simpa using h0
  have hcnt : ∀ w, Calls Tryd.prog 146 #[.string s, .string ⟨#[0]⟩] w fun e w' => e = .returned (.int .i64 M) ∧ w' = w := fun w => by
    have := Tryd.strings_Count_one s 0 w
    rwa [show s.data.toList = l from hs, hM] at this
  have HC := Lib.hid hcnt
  have HM := Lib.hid hM
  have HS := Lib.hid hs
  have HL := Lib.hid hlen
  clear hcnt hM hs hlen
  go_enter Tryd.func121, Tryd.ntmps121
  go_wp2_with fail
  refine (HC.out _).mono ?_
  rintro e w1 ⟨rfl, rfl⟩
  go_wp2_with fail
  have hbl0 := (Bl.refl w1).alloc (.cells #[.pointer none, .slice none 0 0] 113)
  have hgrow := Tryd.Builder_Grow_fresh w1.heap.size w1.heap.size (s.size + M) (w1.alloc (.cells #[.pointer none, .slice none 0 0] 113)) (Nat.le_refl _) (heap_alloc_new w1 _) (by simp) (by omega)
  rw [show ((s.size + M : Nat) : Int) = (s.size : Int) + (M : Int) by push_cast; rfl] at hgrow
  refine hgrow.mono ?_
  rintro e w2 ⟨rfl, hB, hbl⟩
  have hB := BI.of_grow hB
  have hb2 : Bl w1 w2 := Below.trans hbl0 hbl
  clear hgrow hbl0 hbl
  go_wp2_with fail
  go_loopw [53, 11] (fun i st wr => ∃ (k p : Nat) (a : List UInt8), k ≤ M ∧ i = .int .i64 k ∧ st = .int .i64 p ∧ Hid (a = repL (l.take p) ∧ Lib.countByte (l.drop p) 0 = M - k) ∧ p ≤ s.size ∧ a.length ≤ 2 * p ∧ BI w1.heap.size w1.heap.size a wr ∧ Bl w1 wr) (fun i _ _ => M - (intOf i).toNat)
  case atStart => exact ⟨0, 0, [], Nat.zero_le _, rfl, rfl, Lib.hid ⟨rfl, HM.out⟩, Nat.zero_le _, Nat.le_refl _, hB, hb2⟩
  case round =>
    clear hB hb2
    obtain ⟨k, p, a, hk, rfl, rfl, HA, hp, hal, hB, hb⟩ := hrel
    have hsz := hb.size
    by_cases hlt : k < M
    · obtain ⟨x, m, hxm, hx0, hidx, hcm⟩ := first_zero (l := l.drop p) (by rw [HA.out.2]; omega)
      obtain ⟨q, hq⟩ : ∃ q : ByteArray, s.extract p s.size = q := ⟨_, rfl⟩
      have hql : q.data.toList = l.drop p := by
        rw [← hq, piece_SB HS.out p s.size, List.take_of_length_le]
        rw [List.length_drop]; have := HL.out; omega
      have hI : ∀ w, Calls Tryd.prog 148 #[.string q, .string ⟨#[0]⟩] w fun e w' => e = .returned (.int .i64 (x.length : Int)) ∧ w' = w := fun w => by
        have := Tryd.strings_Index_one q 0 w
        rwa [hql, hidx] at this
      have HI := Lib.hid hI
      have hlen : p + x.length + 1 + m.length = s.size := by
        have := congrArg List.length hxm
        rw [List.length_drop, List.length_append, List.length_cons] at this
        have := HL.out
        omega
      obtain ⟨y, hy⟩ : ∃ y : ByteArray, s.extract p (p + x.length) = y := ⟨_, rfl⟩
      have hyl : y.data.toList = x := by
        rw [← hy, piece_SB HS.out p (p + x.length), hxm, show p + x.length - p = x.length by omega]
        exact List.take_left
      have HY := Lib.hid hyl
      have hN : Hid (a ++ x ++ [0, 255] = repL (l.take (p + x.length + 1)) ∧ Lib.countByte (l.drop (p + x.length + 1)) 0 = M - (k + 1)) := Lib.hid (by
        have e1 : l.take (p + x.length + 1) = l.take p ++ (x ++ [0]) := by
          rw [Nat.add_assoc, List.take_add, hxm, show x ++ 0 :: m = (x ++ [0]) ++ m by simp]
          congr 1
          exact List.take_left' (by simp)
        have e2 : l.drop (p + x.length + 1) = m := by
          rw [Nat.add_assoc, ← List.drop_drop, hxm, show x ++ 0 :: m = (x ++ [0]) ++ m by simp]
          exact List.drop_left' (by simp)
        refine ⟨?_, ?_⟩
        · rw [e1, repL_append, ← HA.out.1, repL_zero x [] hx0, List.append_assoc]
          simp [repL]
        · rw [e2]
          have h1 := HA.out.2
          rw [hcm] at h1
          omega)
      clear hql hI hxm hx0 hidx hcm hyl
      go_wp2_with fail
      refine (HI.out _).mono ?_
      rintro e w3 ⟨rfl, rfl⟩
      go_wp2_with fail
      refine (bi_writeString w1.heap.size w1.heap.size a y x HY.out _ hB (by omega) hsz).mono ?_
      rintro e w4 ⟨rfl, hB4, hb4⟩
      have hb5 : Bl w1 w4 := Below.trans hb hb4
      have hsz5 := hb5.size
      clear hb4 hB
      go_wp2_with fail
      refine (bi_writeString w1.heap.size w1.heap.size (a ++ x) ⟨#[0, 255]⟩ [0, 255] rfl _ hB4 (by rw [List.length_append]; simp; omega) hsz5).mono ?_
      rintro e w6 ⟨rfl, hB6, hb6⟩
      have hb7 : Bl w1 w6 := Below.trans hb5 hb6
      clear hb5 hb6 hB4 hb
      go_wp2_with fail
      go_roundw
      case rel => exact ⟨k + 1, p + x.length + 1, _, by omega, by go_num, by go_num, hN, by omega, by rw [List.length_append, List.length_append]; simp; omega, hB6, hb7⟩
      case measure => simp [intOf]; omega
    · have hkM : k = M := by omega
      obtain ⟨q, hq⟩ : ∃ q : ByteArray, s.extract p s.size = q := ⟨_, rfl⟩
      have hql : q.data.toList = l.drop p := by
        rw [← hq, piece_SB HS.out p s.size, List.take_of_length_le]
        rw [List.length_drop]; have := HL.out; omega
      have HQ := Lib.hid hql
      have HF : Hid (a ++ l.drop p = repL l) := Lib.hid (by
        have h2 := HA.out.2
        rw [hkM, Nat.sub_self] at h2
        have h3 := repL_no (count_none h2)
        rw [HA.out.1, ← h3, ← repL_append, List.take_append_drop])
      have hdl : (l.drop p).length ≤ 1000000 := by rw [List.length_drop]; have := HL.out; omega
      clear hql
      go_wp2_with fail
      refine (bi_writeString w1.heap.size w1.heap.size a q _ HQ.out _ hB (by omega) hsz).mono ?_
      rintro e w4 ⟨rfl, hB4, hb4⟩
      have hb5 : Bl w1 w4 := Below.trans hb hb4
      have hsz5 := hb5.size
      clear hb4 hB
      go_wp2_with fail
      refine (Tryd.Builder_String_any w1.heap.size w1.heap.size _ _ hB4 hsz5).mono ?_
      rintro e w6 ⟨rfl, hb6⟩
      go_wp2_with fail
      go_ret
      exact ⟨by rw [HF.out]; rfl, Below.trans hb5 hb6⟩
set_option maxRecDepth 100000 in
theorem rep_none (s : ByteArray) (l : List UInt8) (w : World) (hs : SB s l) (hM : Lib.countByte l 0 = 0) :
    Calls Tryd.prog 121 #[.string s, .string ⟨#[0]⟩, .string ⟨#[0, 255]⟩, .int .i64 (-1)] w fun e w' => e = .returned (.string ⟨(repL l).toArray⟩) ∧ Bl w w' := by
  have hcnt : ∀ w, Calls Tryd.prog 146 #[.string s, .string ⟨#[0]⟩] w fun e w' => e = .returned (.int .i64 0) ∧ w' = w := fun w => by
    have := Tryd.strings_Count_one s 0 w
    rwa [show s.data.toList = l from hs, hM] at this
  have HC := Lib.hid hcnt
  have HE : Hid (s = ⟨(repL l).toArray⟩) := Lib.hid (by rw [repL_no (count_none hM)]; exact SB.eq hs (SB.mk _))
  clear hcnt hM hs
  go_enter Tryd.func121, Tryd.ntmps121
  go_wp2_with fail
  refine (HC.out _).mono ?_
  rintro e w1 ⟨rfl, rfl⟩
  go_wp2_with fail
  go_ret
  exact ⟨by rw [← HE.out]; rfl, Bl.refl _⟩
theorem repAll_any (s : ByteArray) (l : List UInt8) (w : World) (hs : SB s l) (hz : s.size ≤ 1000000) :
    Calls Tryd.prog 73 #[.string s, .string ⟨#[0]⟩, .string ⟨#[0, 255]⟩] w fun e w' => e = .returned (.string ⟨(repL l).toArray⟩) ∧ Bl w w' := by
  have hc : ∀ w, Calls Tryd.prog 121 #[.string s, .string ⟨#[0]⟩, .string ⟨#[0, 255]⟩, .int .i64 (-1)] w fun e w' => e = .returned (.string ⟨(repL l).toArray⟩) ∧ Bl w w' := fun w => by
    by_cases h : Lib.countByte l 0 = 0
    · exact rep_none s l w hs h
    · exact rep_some s l _ w hs hz rfl h
  have HC := Lib.hid hc
  clear hc
  generalize (⟨(repL l).toArray⟩ : ByteArray) = r at *
  go_enter Tryd.func73, Tryd.ntmps73
  go_wp2_with fail
  refine (HC.out _).mono ?_
  rintro e w1 ⟨rfl, hb⟩
  go_wp2_with fail
  go_ret
  exact ⟨rfl, hb⟩
/-- ikey.Head -/
theorem head_any (s : ByteArray) (l : List UInt8) (w : World) (hs : SB s l) (hz : s.size ≤ 1000000) :
    Calls Tryd.prog 22 #[.string s] w fun e w' => e = .returned (.string ⟨(headL l).toArray⟩) ∧ Bl w w' := by
  have hc := fun w => repAll_any s l w hs hz
  have hl := repL_len l
  have hzr : (⟨(repL l).toArray⟩ : ByteArray).size ≤ 2000000 := by rw [(SB.mk _).size]; have := hs.size; omega
  have HC := Lib.hid hc
  have HE : Hid ((⟨(repL l).toArray⟩ : ByteArray) ++ ⟨#[0, 1]⟩ = ⟨(headL l).toArray⟩) := Lib.hid (SB.eq (SB.append (SB.mk (repL l)) (show SB ⟨#[0, 1]⟩ [0, 1] from rfl)) (SB.mk _))
  clear hc hl
  generalize (⟨(repL l).toArray⟩ : ByteArray) = r at *
  go_enter Tryd.func22, Tryd.ntmps22
  go_wp2_with fail
  refine (HC.out _).mono ?_
  rintro e w1 ⟨rfl, hb⟩
  go_wp2_with fail
  go_ret
  exact ⟨by rw [← HE.out]; rfl, hb⟩
end Go.Proofs.YtgdlcoicejgdkaaDoor
