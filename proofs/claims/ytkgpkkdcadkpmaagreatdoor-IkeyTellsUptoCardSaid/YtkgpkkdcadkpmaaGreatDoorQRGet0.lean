import Derived.Test.YtkgpkkdcadkpmaaGreatDoorQIkeyTellsUptoP8
import Derived.Test.YtkgpkkdcadkpmaaGreatDoorQIkeyTellsUptoP9

/- bedrockref5.Get in plain words: a key that is read leniently. By an AI agent. -/
section
set_option linter.unusedVariables false
namespace Go.Proofs.YtkgpkkdcadkpmaaGreatDoor
open Go.RowKit

/-- what stands ahead of an end, and what stands from the end on -/
def lenK : List UInt8 → List UInt8 × List UInt8
  | [] => ([], [])
  | [c] => ([], [c])
  | c :: d :: l => if c = 0 then (if d = 1 then ([], c :: d :: l) else (0 :: (lenK l).1, (lenK l).2)) else (c :: (lenK (d :: l)).1, (lenK (d :: l)).2)
theorem lenK_nil : lenK [] = ([], []) := by rw [lenK]
theorem lenK_sole (c : UInt8) : lenK [c] = ([], [c]) := by rw [lenK]
theorem lenK_two (c d : UInt8) (l : List UInt8) : lenK (c :: d :: l) = if c = 0 then (if d = 1 then ([], c :: d :: l) else (0 :: (lenK l).1, (lenK l).2)) else (c :: (lenK (d :: l)).1, (lenK (d :: l)).2) := by rw [lenK]
theorem lenK_head : ∀ (k x : List UInt8), lenK (headL k ++ x) = (k, 0 :: 1 :: x)
  | [], x => by
    show lenK (0 :: 1 :: x) = _
    rw [lenK_two, if_pos rfl, if_pos rfl]
  | c :: k, x => by
    have e : headL (c :: k) ++ x = repC c ++ (headL k ++ x) := by simp [headL, repL]
    rw [e]
    by_cases hc : c = 0
    · subst hc
      show lenK (0 :: 255 :: (headL k ++ x)) = _
      rw [lenK_two, if_pos rfl, if_neg (by decide), lenK_head k x]
    · rw [show repC c = [c] from by simp [repC, hc]]
      have hl : ∃ d l, headL k ++ x = d :: l := by
        cases h : headL k ++ x with
        | nil =>
          have := headL_len k
          have h2 := congrArg List.length h
          rw [List.length_append, List.length_nil] at h2
          omega
        | cons d l => exact ⟨d, l, rfl⟩
      obtain ⟨d, l, hl⟩ := hl
      have ih := lenK_head k x
      show lenK (c :: (headL k ++ x)) = _
      rw [hl] at ih ⊢
      rw [lenK_two, if_neg hc, ih]
/-- ahead of what is left xs is read -/
def preK (xs : List UInt8) (p : List UInt8 × List UInt8) : List UInt8 × List UInt8 := (xs ++ p.1, p.2)
theorem preK_cons {xs l : List UInt8} {c d : UInt8} (h : c ≠ 0) : preK xs (lenK (c :: d :: l)) = preK (xs ++ [c]) (lenK (d :: l)) := by
  rw [lenK_two, if_neg h]; simp [preK]
theorem preK_zero {xs l : List UInt8} {d : UInt8} (h : d ≠ 1) : preK xs (lenK (0 :: d :: l)) = preK (xs ++ [0]) (lenK l) := by
  rw [lenK_two, if_pos rfl, if_neg h]; simp [preK]
theorem preK_end {xs l : List UInt8} : preK xs (lenK (0 :: 1 :: l)) = (xs, 0 :: 1 :: l) := by
  rw [lenK_two, if_pos rfl, if_pos rfl]; simp [preK]
theorem preK_short {xs l : List UInt8} (h : l.length < 2) : preK xs (lenK l) = (xs, l) := by
  match l, h with
  | [], _ => rw [lenK_nil]; simp [preK]
  | [c], _ => rw [lenK_sole]; simp [preK]
/-- of a version's bytes the version comes -/
theorem lenK_put {V : VerL} {l : List UInt8} (hv : ValidK V) (h : putK V = l) : (lenK l).1 = V.key.data.toList ∧ 15 ≤ (lenK l).2.length ∧ 255 - getN (((lenK l).2.drop 8).take 1) = V.origin ∧ 281474976710655 - getN (((lenK l).2.drop 9).take 6) = V.tx ∧ (lenK l).2.drop 15 = putL V.at_ := by
  obtain ⟨r, k1, l1, l2, l3, o1, t1, a1⟩ := put_parts hv h
  have e : lenK l = (V.key.data.toList, 0 :: 1 :: tailK V) := by rw [← h]; exact lenK_head _ _
  have e2 : keyP l = some (V.key.data.toList, tailK V) := by rw [← h]; exact keyP_head _ _
  rw [k1] at e2
  simp only [Option.some.injEq, Prod.mk.injEq, true_and] at e2
  subst e2
  rw [e]
  rw [List.length_drop] at l2 l3
  rw [List.drop_drop, List.drop_drop] at a1
  rw [List.drop_drop] at t1
  refine ⟨rfl, ?_, ?_, ?_, ?_⟩
  · simp only [List.length_cons]
    rw [List.length_drop] at l3
    omega
  · exact o1
  · exact t1
  · exact a1
/-- what Get reads behind the key's end, at the place i -/
theorem lenK_at {V : VerL} {l xs : List UInt8} {i : Nat} (hv : ValidK V) (h : putK V = l) (he : lenK l = (xs, l.drop i)) (hi : i ≤ l.length) : V.key = ⟨xs.toArray⟩ ∧ i + 15 ≤ l.length ∧ 255 - getN ((l.drop (i + 8)).take 1) = V.origin ∧ 281474976710655 - getN ((l.drop (i + 9)).take 6) = V.tx ∧ l.drop (i + 15) = putL V.at_ := by
  obtain ⟨k1, k2, k3, k4, k5⟩ := lenK_put hv h
  rw [he] at k1 k2 k3 k4 k5
  dsimp only at k1 k2 k3 k4 k5
  rw [List.drop_drop] at k3 k4 k5
  rw [List.length_drop] at k2
  exact ⟨ByteArray.ext (Array.toList_inj.1 (by rw [← k1])), by omega, k3, k4, k5⟩
theorem lenK_fit {V : VerL} {l xs : List UInt8} {i : Nat} (hv : ValidK V) (h : putK V = l) (he : lenK l = (xs, l.drop i)) (hi : i ≤ l.length) : rdV (l.drop (i + 15)) = some (V.at_, []) ∧ i + 15 + (1 + 6 * V.at_.length) = l.length := by
  obtain ⟨-, h2, -, -, h5⟩ := lenK_at hv h he hi
  have h6 := rdV_put hv.at_ []
  rw [List.append_nil, ← h5] at h6
  have h7 := congrArg List.length h5
  rw [List.length_drop, putL_len] at h7
  exact ⟨h6, by omega⟩
/-- of what Get has read, with what it is put as: is it the version whose bytes these are? -/
theorem get_no {l xs ys : List UInt8} {i : Nat} {at_ : List Int} (he : lenK l = (xs, l.drop i)) (hi : i ≤ l.length) (hr : rdV (l.drop (i + 15)) = some (at_, ys))
    (hno : ¬ (i + 15 + (1 + 6 * at_.length) = l.length ∧ validK ⟨⟨xs.toArray⟩, at_, 255 - getN ((l.drop (i + 8)).take 1), 281474976710655 - getN ((l.drop (i + 9)).take 6), ⟨0, 0, 0, ⟨#[]⟩⟩⟩ = true ∧ putK ⟨⟨xs.toArray⟩, at_, 255 - getN ((l.drop (i + 8)).take 1), 281474976710655 - getN ((l.drop (i + 9)).take 6), ⟨0, 0, 0, ⟨#[]⟩⟩⟩ = l)) :
    ∀ V, ValidK V → putK V ≠ l := fun V hv h => by
  obtain ⟨h1, h2, h3, h4, h5⟩ := lenK_at hv h he hi
  obtain ⟨h6, h7⟩ := lenK_fit hv h he hi
  rw [h6] at hr
  simp only [Option.some.injEq, Prod.mk.injEq] at hr
  obtain ⟨rfl, rfl⟩ := hr
  apply hno
  rw [h3, h4, ← h1]
  obtain ⟨e1, e2⟩ := put_same V V.key V.at_ V.origin V.tx ⟨0, 0, 0, ⟨#[]⟩⟩ rfl rfl rfl rfl
  exact ⟨h7, by rw [← e1]; exact (validK_iff V).2 hv, by rw [← e2]; exact h⟩
end Go.Proofs.YtkgpkkdcadkpmaaGreatDoor
end
