/- the order of versions' bytes. Plain. By an AI agent. -/
import Derived.Test.YtgdlcoicejgdkaaDoorIkeyL
namespace Go.Proofs.YtgdlcoicejgdkaaDoor
open Go.RowKit

theorem putB_succ (x : Int) (n : Nat) : putB x (n + 1) = putB (x / 256) n ++ [UInt8.ofNat (x % 256).toNat] := by
  unfold putB putN
  rw [List.range_succ, List.map_append]
  have e1 : ∀ j ∈ List.range n, (if n + 1 - (n + 1) ≤ j then byteAt x (n + 1) j else 0) = (if n - n ≤ j then byteAt (x / 256) n j else 0) := by
    intro j hj
    have hj : j < n := List.mem_range.1 hj
    rw [if_pos (by omega), if_pos (by omega)]
    unfold byteAt
    rw [show 8 * (n + 1 - 1 - j) = 8 + 8 * (n - 1 - j) by omega, Int.pow_add, show (2 : Int) ^ 8 = 256 from rfl, ← Int.ediv_ediv_of_nonneg (by decide)]
  rw [List.map_congr_left e1]
  simp [bytesN, byteAt]
theorem less_irrefl (x : List UInt8) : less x x = false := by
  induction x with
  | nil => rfl
  | cons a x ih => rw [less_cons, ih]; simp
theorem less_one (a b : UInt8) : less [a] [b] = decide (a < b) := by rw [less_cons, less_nil]; simp
theorem less_putB : ∀ (n : Nat) (x y : Int), 0 ≤ x → x < 256 ^ n → 0 ≤ y → y < 256 ^ n → less (putB x n) (putB y n) = decide (x < y)
  | 0, x, y, h0, h1, h2, h3 => by
    simp at h1 h3
    have e1 : x = 0 := by omega
    have e2 : y = 0 := by omega
    subst e1; subst e2
    rw [less_irrefl]; rfl
  | n + 1, x, y, h0, h1, h2, h3 => by
    rw [Int.pow_succ] at h1 h3
    rw [putB_succ, putB_succ]
    have hx : x / 256 < 256 ^ n := Int.ediv_lt_of_lt_mul (by decide) h1
    have hy : y / 256 < 256 ^ n := Int.ediv_lt_of_lt_mul (by decide) h3
    by_cases h : x / 256 = y / 256
    · rw [h, less_same, less_one, decide_eq_decide, UInt8.lt_iff_toNat_lt]
      simp
      omega
    · have ih := less_putB n (x / 256) (y / 256) (by omega) hx (by omega) hy
      have ih2 := less_putB n (y / 256) (x / 256) (by omega) hy (by omega) hx
      have hne : putB (x / 256) n ≠ putB (y / 256) n := by
        intro e
        rw [e, less_irrefl] at ih
        rw [e, less_irrefl] at ih2
        have a1 := of_decide_eq_false ih.symm
        have a2 := of_decide_eq_false ih2.symm
        omega
      rw [less_front _ _ _ _ (by rw [putB_len, putB_len]) hne, ih, decide_eq_decide]
      omega
theorem putB_ne {n : Nat} {x y : Int} (h0 : 0 ≤ x) (h1 : x < 256 ^ n) (h2 : 0 ≤ y) (h3 : y < 256 ^ n) (h : x ≠ y) : putB x n ≠ putB y n := by
  intro e
  have a := less_putB n x y h0 h1 h2 h3
  have b := less_putB n y x h2 h3 h0 h1
  rw [e, less_irrefl] at a
  rw [e, less_irrefl] at b
  have a1 := of_decide_eq_false a.symm
  have a2 := of_decide_eq_false b.symm
  omega
/-- has one a greater stamp? -/
def LaterP (x o t x' o' t' : Int) : Prop := x > x' ∨ (x = x' ∧ (o > o' ∨ (o = o' ∧ t > t')))
instance (x o t x' o' t' : Int) : Decidable (LaterP x o t x' o' t') := by unfold LaterP; infer_instance
theorem tail_less {V W : VerL} (hv : ValidK V) (hw : ValidK W) : (timeL V = timeL W ∧ V.origin = W.origin ∧ V.tx = W.tx) ∨
    less (tailK V) (tailK W) = decide (LaterP (timeL V) V.origin V.tx (timeL W) W.origin W.tx) := by
  have p6 : (256 : Int) ^ 6 = 281474976710656 := rfl
  have p1 : (256 : Int) ^ 1 = 256 := rfl
  have t1 := hv.time
  have t2 := hw.time
  have a1 := hv.o0
  have a2 := hv.o255
  have b1 := hw.o0
  have b2 := hw.o255
  have c1 := hv.t0
  have c2 := hv.t1
  have d1 := hw.t0
  have d2 := hw.t1
  unfold tailK
  generalize timeL V = x at *
  generalize timeL W = y at *
  by_cases h1 : x = y
  · subst h1
    rw [less_same]
    by_cases h2 : V.origin = W.origin
    · rw [h2, less_same]
      by_cases h3 : V.tx = W.tx
      · exact .inl ⟨rfl, rfl, h3⟩
      · right
        rw [less_front _ _ _ _ (by rw [putB_len, putB_len]) (putB_ne (by omega) (by omega) (by omega) (by omega) (by omega)), less_putB 6 _ _ (by omega) (by omega) (by omega) (by omega), decide_eq_decide]
        unfold LaterP; omega
    · right
      rw [less_front _ _ _ _ (by rw [putB_len, putB_len]) (putB_ne (by omega) (by omega) (by omega) (by omega) (by omega)), less_putB 1 _ _ (by omega) (by omega) (by omega) (by omega), decide_eq_decide]
      unfold LaterP; omega
  · right
    rw [less_front _ _ _ _ (by rw [putB_len, putB_len]) (putB_ne (by omega) (by omega) (by omega) (by omega) (by omega)), less_putB 6 _ _ (by omega) (by omega) (by omega) (by omega), decide_eq_decide]
    unfold LaterP; omega
end Go.Proofs.YtgdlcoicejgdkaaDoor
