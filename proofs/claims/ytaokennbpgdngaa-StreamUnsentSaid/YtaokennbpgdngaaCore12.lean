import Derived.Test.YtaokennbpgdngaaCore11
import Derived.Test.YtaokennbpgdngaaCore4
import Derived.Test.YtaokennbpgdngaaCore7
import Derived.Test.YtaokennbpgdngaaCore10

/- strings of bytes; strings.Clone. By an AI agent. -/
section
set_option linter.unusedVariables false
set_option linter.unusedSimpArgs false
namespace Go.Proofs.Ytaokennbpgdngaa
open Go.RowKit

theorem cloneB_any (s : ByteArray) (w : World) (hs : s.size ≤ 140737488351232) : Calls Try.prog 86 #[.string s] w fun e w' => e = .returned (.string s) ∧ Bl w w' := by
  go_enter Try.func86, Try.ntmps86
  go_wp2_with fail
  refine (Try.stringslite_Clone s _ (by omega)).mono ?_
  rintro e w' ⟨rfl, hb⟩
  go_wp2_with fail
  go_ret
  exact ⟨rfl, hb⟩
/-- the string of these bytes -/
def strL (l : List UInt8) : ByteArray := ⟨l.toArray⟩
theorem strL_SB (l : List UInt8) : SB (strL l) l := rfl
theorem strL_size (l : List UInt8) : (strL l).size = l.length := (strL_SB l).size
theorem strL_of {s : ByteArray} {l : List UInt8} (h : SB s l) : s = strL l := SB.eq h (strL_SB l)
theorem strL_app (l m : List UInt8) : strL l ++ strL m = strL (l ++ m) := SB.eq ((strL_SB l).append (strL_SB m)) (strL_SB _)
theorem strL_nums (x : Int) (n : Nat) : strOfNums (putN x n n) = strL (numB x n) := SB.eq (strOfNums_list _) (strL_SB _)
theorem strL_ext (l : List UInt8) (a b : Nat) : (strL l).extract a b = strL ((l.drop a).take (b - a)) := by
  refine strL_of ?_
  rw [SB, Lib.extract_data, strL_SB]
theorem strL_take (l : List UInt8) (n : Nat) : (strL l).extract 0 n = strL (l.take n) := by
  rw [strL_ext, List.drop_zero, Nat.sub_zero]
theorem strL_drop (l : List UInt8) (n : Nat) : (strL l).extract n (strL l).size = strL (l.drop n) := by
  rw [strL_ext, strL_size, List.take_of_length_le (by rw [List.length_drop]; omega)]
theorem getL_any (l : List UInt8) (w : World) (h1 : 1 ≤ l.length) (h7 : l.length ≤ 7) :
    Calls Try.prog 102 #[.string (strL l)] w fun e w' => e = .returned (.tuple #[.int .i64 (getN l), .int .i64 0]) ∧ w = w' :=
  get_any (strL l) w (by rw [strL_size]; exact h1) (by rw [strL_size]; exact h7)
theorem strL_data (s : ByteArray) : strL s.data.toList = s := by unfold strL; simp
end Go.Proofs.Ytaokennbpgdngaa
end

/- laws of acts, values and sealed bytes. By an AI agent. -/
section
set_option linter.unusedVariables false
set_option linter.unusedSimpArgs false
namespace Go.Proofs.Ytaokennbpgdngaa
open Go.RowKit

theorem size_nil (s : ByteArray) : s.data.toList.length = s.size := by simp
theorem toList_inj {s t : ByteArray} (h : s.toList = t.toList) : s = t := by
  rw [ByteArray.toList_eq, ByteArray.toList_eq] at h
  exact ByteArray.ext (Array.toList_inj.1 h)
theorem sameA_parts {a b : ActL} (h : sameA a b = true) : a.k = b.k ∧ fkey a.x = fkey b.x ∧ a.n = b.n ∧ a.s = b.s := by
  simp only [sameA, Bool.and_eq_true, decide_eq_true_eq, beq_iff_eq] at h
  exact ⟨h.1, h.2.1, h.2.2.1, toList_inj h.2.2.2⟩
theorem sameV_parts {a b : ValL} (h : sameV a b = true) : a.there = b.there ∧ fkey a.x = fkey b.x ∧ a.n = b.n ∧ a.s = b.s := by
  simp only [sameV, Bool.and_eq_true, decide_eq_true_eq, beq_iff_eq] at h
  exact ⟨h.1, h.2.1, h.2.2.1, toList_inj h.2.2.2⟩
theorem fits_same (key : ByteArray) {a b : ActL} (h : sameA a b = true) : fitsB key a = fitsB key b := by
  obtain ⟨h1, h2, h3, h4⟩ := sameA_parts h
  have hn : noughtB a.x = noughtB b.x := by unfold noughtB; rw [h2]
  unfold fitsB rightB
  rw [h1, h3, h4, hn]
theorem valOf_same {a b : ActL} (h : sameA a b = true) : sameV (valOf a) (valOf b) = true := by
  obtain ⟨h1, h2, h3, h4⟩ := sameA_parts h
  unfold valOf
  rw [h1]
  split
  · exact sameV_refl _
  · exact sameV_of rfl h2 h3 h4
theorem sameV_trans {a b c : ValL} (h : sameV a b = true) (k : sameV b c = true) : sameV a c = true := by
  obtain ⟨h1, h2, h3, h4⟩ := sameV_parts h
  obtain ⟨k1, k2, k3, k4⟩ := sameV_parts k
  exact sameV_of (h1.trans k1) (h2.trans k2) (h3.trans k3) (h4.trans k4)
theorem sameV_symm {a b : ValL} (h : sameV a b = true) : sameV b a = true := by
  obtain ⟨h1, h2, h3, h4⟩ := sameV_parts h
  exact sameV_of h1.symm h2.symm h3.symm h4.symm
theorem key_size {key : ByteArray} (h : isKeyB key = true) : key.size ≤ 64 := by
  simp only [isKeyB, Bool.and_eq_true, decide_eq_true_eq] at h
  exact h.2.1
theorem rdV_put {xs : List Int} (h : validL xs = true) (m : List UInt8) : rdV (putL xs ++ m) = some (xs, m) := by
  have hv := valid_parts h
  have e : (UInt8.ofNat xs.length).toNat = xs.length := by simp; omega
  have hb : (putBodyL xs).length = 6 * xs.length := putBodyL_len xs
  unfold putL
  rw [List.cons_append, rdV_cons, e, if_pos ⟨⟨hv.1, hv.2.1⟩, by rw [List.length_append]; omega⟩, vals_put xs m hv.2.2, List.drop_left' hb]
theorem rdTake_put (l m : List UInt8) {n : Nat} (h : l.length = n) : rdTake n (l ++ m) = some (l, m) := by
  subst h
  unfold rdTake
  rw [if_pos (by rw [List.length_append]; omega), List.take_left, List.drop_left]
def sealL (l : List UInt8) : List UInt8 := l ++ numB (sumL l : Int) 4
theorem sealL_len (l : List UInt8) : (sealL l).length = l.length + 4 := by unfold sealL; rw [List.length_append, numB_len]
theorem sealL_take (l : List UInt8) : (sealL l).take ((sealL l).length - 4) = l := by
  rw [sealL_len, Nat.add_sub_cancel]
  unfold sealL
  exact List.take_left
theorem sealL_drop (l : List UInt8) : (sealL l).drop ((sealL l).length - 4) = numB (sumL l : Int) 4 := by
  rw [sealL_len, Nat.add_sub_cancel]
  unfold sealL
  exact List.drop_left
theorem seal_changed {l m : List UInt8} {k : Nat} {c : UInt8} (hk : k < (sealL l).length) (h : sealL m = (sealL l).set k c) : c = (sealL l)[k] := by
  have hlen : m.length = l.length := by
    have := congrArg List.length h
    rw [List.length_set, sealL_len, sealL_len] at this
    omega
  have hsl := sealL_len l
  by_cases hkl : k < l.length
  · have e1 : (sealL l).set k c = l.set k c ++ numB (sumL l : Int) 4 := by
      unfold sealL
      rw [List.set_append_left _ _ hkl]
    rw [e1] at h
    unfold sealL at h
    obtain ⟨h1, h2⟩ := List.append_inj h (by rw [List.length_set, hlen])
    have h3 : sumL m = sumL l := by
      have g1 := getN_numB 4 (sumL m : Int) (by omega) (by rw [show (256 : Int) ^ 4 = 4294967296 from rfl]; have := sumL_lt m; omega)
      have g2 := getN_numB 4 (sumL l : Int) (by omega) (by rw [show (256 : Int) ^ 4 = 4294967296 from rfl]; have := sumL_lt l; omega)
      rw [h2] at g1
      omega
    have e2 : (sealL l)[k] = l[k] := by
      unfold sealL
      exact List.getElem_append_left hkl
    rw [e2]
    refine Classical.byContradiction fun hne => ?_
    have s1 : l = l.take k ++ l[k] :: l.drop (k + 1) := by rw [← List.drop_eq_getElem_cons hkl, List.take_append_drop]
    have s2 : m = l.take k ++ c :: l.drop (k + 1) := by rw [h1, List.set_eq_take_append_cons_drop, if_pos hkl]
    rw [s2] at h3
    conv at h3 => rhs; rw [s1]
    exact sumL_other _ _ hne h3
  · have e1 : (sealL l).set k c = l ++ (numB (sumL l : Int) 4).set (k - l.length) c := by
      unfold sealL
      rw [List.set_append_right _ _ (by omega)]
    rw [e1] at h
    unfold sealL at h
    obtain ⟨h1, h2⟩ := List.append_inj h hlen
    subst h1
    have e2 : (sealL m)[k] = (numB (sumL m : Int) 4)[k - m.length]'(by rw [numB_len]; omega) := by
      unfold sealL
      exact List.getElem_append_right (by omega)
    rw [e2]
    have h3 : ((numB (sumL m : Int) 4).set (k - m.length) c)[k - m.length]'(by rw [List.length_set, numB_len]; omega) = c := List.getElem_set_self ..
    rw [← h3]
    simp only [← h2]
theorem putS_right {a : ActL} (h : rightB a = true) : putS a = putA a ∧ putC a = 0 := by unfold putS putC; rw [if_pos h, if_pos h]; exact ⟨rfl, rfl⟩
theorem bcells_len (l : List UInt8) : (Lib.byteCells l).length = l.length := by simp [Lib.byteCells]
/-- worlds that go on from W1 and hold a box -/
def HoldB (W1 : World) (g : Nat) (cs : List Value) (W' : World) : Prop := Bl W1 W' ∧ AC W' g cs
theorem HoldB.keep {W1 : World} {g : Nat} {cs : List Value} (w w' : World) (h : HoldB W1 g cs w) (k : Bl w w') : HoldB W1 g cs w' := ⟨h.1.trans k, h.2.keep k⟩
end Go.Proofs.Ytaokennbpgdngaa
end
