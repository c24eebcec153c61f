/- Texts tell lists of ints apart. Plain facts. By an AI agent. -/
import Derived.Test.YtpfpefapdcdkeaaVec3
namespace Go.Proofs.Ytpfpefapdcdkeaa
open Go.RowKit

def decVal (l : List Int) : Int := l.foldl (fun a x => a * 10 + (x - 48)) 0
theorem decVal_decD (u : Nat) : decVal (decD u) = u := by
  induction u using Nat.strongRecOn with
  | _ u ih =>
    by_cases hu : u < 10
    · rw [decD_small hu]; simp [decVal]; omega
    · rw [decD_big hu]
      have := ih (u / 10) (by omega)
      simp only [decVal] at this ⊢
      rw [List.foldl_append, this]
      simp; omega
theorem decD_inj {u v : Nat} (h : decD u = decD v) : u = v := by
  have h1 := decVal_decD u
  rw [h, decVal_decD v] at h1
  omega
theorem digL_inj {x y : Int} (h : digL x = digL y) : x = y := by
  have key : ∀ u v : Nat, (45 : Int) :: decD u ≠ decD v := by
    intro u v e
    have := decD_digit v 45 (by rw [← e]; simp)
    omega
  unfold digL at h
  split at h <;> split at h
  · have := decD_inj (List.cons.inj h).2; omega
  · exact absurd h (key _ _)
  · exact absurd h.symm (key _ _)
  · have := decD_inj h; omega
theorem digL_digit (x : Int) : ∀ c ∈ digL x, 45 ≤ c ∧ c ≤ 57 := by
  intro c hc
  unfold digL at hc
  split at hc
  · rcases List.mem_cons.1 hc with h | h
    · omega
    · have := decD_digit _ c h; omega
  · have := decD_digit _ c hc; omega
theorem digL_ne (x : Int) : digL x ≠ [] := by
  have := decD_pos x.natAbs
  unfold digL
  split
  · simp
  · intro h; rw [h] at this; simp at this

theorem bytesN_inj {a b : List Int} (ha : ∀ c ∈ a, 0 ≤ c ∧ c < 256) (hb : ∀ c ∈ b, 0 ≤ c ∧ c < 256) (h : bytesN a = bytesN b) : a = b := by
  induction a generalizing b with
  | nil => cases b with
    | nil => rfl
    | cons y b => simp [bytesN] at h
  | cons x a ih =>
    cases b with
    | nil => simp [bytesN] at h
    | cons y b =>
      simp only [bytesN, List.map_cons, List.cons.injEq] at h
      have h1 := ha x (by simp)
      have h2 := hb y (by simp)
      have h3 := congrArg UInt8.toNat h.1
      simp at h3
      have h4 := ih (fun c hc => ha c (by simp [hc])) (fun c hc => hb c (by simp [hc])) h.2
      rw [h4, show x = y by omega]

/-- an element's bytes: none is a comma -/
def NoSep (x : List UInt8) : Prop := ∀ c ∈ x, c ≠ 44
theorem dig_noSep (x : Int) : NoSep (bytesN (digL x)) := by
  intro c hc
  obtain ⟨d, hd, rfl⟩ := List.mem_map.1 hc
  have := digL_digit x d hd
  intro e
  have := congrArg UInt8.toNat e
  simp at this; omega
theorem dig_inj {x y : Int} (h : bytesN (digL x) = bytesN (digL y)) : x = y :=
  digL_inj (bytesN_inj (fun c hc => by have := digL_digit x c hc; omega) (fun c hc => by have := digL_digit y c hc; omega) h)
theorem dig_ne (x : Int) : bytesN (digL x) ≠ [] := by
  intro h; exact digL_ne x (by simpa [bytesN] using h)

theorem split_inj {x x' t t' : List UInt8} (hx : NoSep x) (hx' : NoSep x') (ht : t = [] ∨ ∃ r, t = 44 :: r) (ht' : t' = [] ∨ ∃ r, t' = 44 :: r) (h : x ++ t = x' ++ t') : x = x' ∧ t = t' := by
  induction x generalizing x' with
  | nil =>
    cases x' with
    | nil => exact ⟨rfl, by simpa using h⟩
    | cons c x' =>
      exfalso
      rcases ht with rfl | ⟨r, rfl⟩
      · simp at h
      · simp at h; exact hx' c (by simp) h.1.symm
  | cons c x ih =>
    cases x' with
    | nil =>
      exfalso
      rcases ht' with rfl | ⟨r, rfl⟩
      · simp at h
      · simp at h; exact hx c (by simp) h.1
    | cons c' x' =>
      simp only [List.cons_append, List.cons.injEq] at h
      obtain ⟨h1, h2⟩ := ih (fun c hc => hx c (by simp [hc])) (fun c hc => hx' c (by simp [hc])) h.2
      exact ⟨by rw [h.1, h1], h2⟩
theorem joinTail_cons (x : List UInt8) (l : List (List UInt8)) : Lib.joinTail [44] (x :: l) = 44 :: (x ++ Lib.joinTail [44] l) := by simp [Lib.joinTail]
theorem joinTail_form (l : List (List UInt8)) : Lib.joinTail [44] l = [] ∨ ∃ r, Lib.joinTail [44] l = 44 :: r := by
  cases l with
  | nil => left; simp [Lib.joinTail]
  | cons x l => right; exact ⟨_, joinTail_cons x l⟩
theorem joinTail_inj (xs ys : List Int) (h : Lib.joinTail [44] (xs.map fun x => bytesN (digL x)) = Lib.joinTail [44] (ys.map fun x => bytesN (digL x))) : xs = ys := by
  induction xs generalizing ys with
  | nil =>
    cases ys with
    | nil => rfl
    | cons y ys => rw [List.map_cons, joinTail_cons] at h; simp [Lib.joinTail] at h
  | cons x xs ih =>
    cases ys with
    | nil => rw [List.map_cons, joinTail_cons] at h; simp [Lib.joinTail] at h
    | cons y ys =>
      rw [List.map_cons, List.map_cons, joinTail_cons, joinTail_cons] at h
      obtain ⟨h1, h2⟩ := split_inj (dig_noSep x) (dig_noSep y) (joinTail_form _) (joinTail_form _) (List.cons.inj h).2
      rw [dig_inj h1, ih ys h2]
theorem join_inj (xs ys : List Int) (h : Lib.join (xs.map fun x => bytesN (digL x)) [44] = Lib.join (ys.map fun x => bytesN (digL x)) [44]) : xs = ys := by
  cases xs with
  | nil =>
    cases ys with
    | nil => rfl
    | cons y ys =>
      rw [List.map_cons, Lib.join_cons] at h
      have := dig_ne y
      simp [Lib.join_nil] at h
      exact absurd h.1 this
  | cons x xs =>
    cases ys with
    | nil =>
      rw [List.map_cons, Lib.join_cons] at h
      have := dig_ne x
      simp [Lib.join_nil] at h
      exact absurd h.1 this
    | cons y ys =>
      rw [List.map_cons, List.map_cons, Lib.join_cons, Lib.join_cons] at h
      obtain ⟨h1, h2⟩ := split_inj (dig_noSep x) (dig_noSep y) (joinTail_form _) (joinTail_form _) h
      rw [dig_inj h1, joinTail_inj xs ys h2]
theorem textL_inj {xs ys : List Int} (h : textL xs = textL ys) : xs = ys := by
  unfold textL at h
  simp only [List.cons_append, List.cons.injEq, true_and] at h
  exact join_inj xs ys (List.append_cancel_right h)
end Go.Proofs.Ytpfpefapdcdkeaa
