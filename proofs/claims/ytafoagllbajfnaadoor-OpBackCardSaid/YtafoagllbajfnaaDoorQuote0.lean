/- texts in quotes: plain definitions; unlike bytes have unlike texts. By an AI agent. -/
import Derived.Test.YtafoagllbajfnaaDoorRaw0
namespace Go.Proofs.YtafoagllbajfnaaDoor
open Go.RowKit

def hexB (k : UInt8) : UInt8 := if k.toNat < 10 then 48 + k else 87 + k
/-- one byte's text -/
def quoC (c : UInt8) : List UInt8 :=
  if c.toNat = 34 ∨ c.toNat = 92 then [92, c]
  else if 32 ≤ c.toNat ∧ c.toNat ≤ 126 then [c]
  else [92, 120, hexB (c / 16), hexB (c % 16)]
def quoL (l : List UInt8) : List UInt8 := 34 :: (l.flatMap quoC ++ [34])

def clash (a b : UInt8) : Bool := a == b || !((quoC a).isPrefixOf (quoC b) || (quoC b).isPrefixOf (quoC a))
theorem clash_fin : ∀ a b : Fin 256, clash (UInt8.ofNat a.val) (UInt8.ofNat b.val) = true := by decide +kernel
theorem clash_all (a b : UInt8) : clash a b = true := by
  have h := clash_fin ⟨a.toNat, a.toNat_lt⟩ ⟨b.toNat, b.toNat_lt⟩
  simpa using h
theorem first_fin : ∀ a : Fin 256, (quoC (UInt8.ofNat a.val)).headD 0 ≠ 34 ∧ quoC (UInt8.ofNat a.val) ≠ [] := by decide +kernel
theorem first_all (a : UInt8) : (quoC a).headD 0 ≠ 34 ∧ quoC a ≠ [] := by
  have h := first_fin ⟨a.toNat, a.toNat_lt⟩
  simpa using h
theorem flat_inj : ∀ (l m : List UInt8), l.flatMap quoC ++ [34] = m.flatMap quoC ++ [34] → l = m
  | [], [], _ => rfl
  | [], b :: m, h => by
    exfalso
    obtain ⟨h1, h2⟩ := first_all b
    cases e : quoC b with
    | nil => exact h2 e
    | cons x t => rw [e] at h1; (simp [e] at h) <;> exact h1 h.1.symm
  | a :: l, [], h => by
    exfalso
    obtain ⟨h1, h2⟩ := first_all a
    cases e : quoC a with
    | nil => exact h2 e
    | cons x t => rw [e] at h1; (simp [e] at h) <;> exact h1 h.1
  | a :: l, b :: m, h => by
    rw [List.flatMap_cons, List.flatMap_cons, List.append_assoc, List.append_assoc] at h
    have p1 : quoC a <+: (quoC a ++ (l.flatMap quoC ++ [34])) := List.prefix_append _ _
    have p2 : quoC b <+: (quoC a ++ (l.flatMap quoC ++ [34])) := by rw [h]; exact List.prefix_append _ _
    have hc := clash_all a b
    have hab : a = b := by
      rcases List.prefix_or_prefix_of_prefix p1 p2 with p | p
      · have := List.isPrefixOf_iff_prefix.2 p
        simpa [clash, this] using hc
      · have := List.isPrefixOf_iff_prefix.2 p
        simpa [clash, this] using hc
    subst hab
    have := flat_inj l m (List.append_cancel_left h)
    rw [this]
theorem quoL_inj {l m : List UInt8} (h : quoL l = quoL m) : l = m := flat_inj l m (by simpa [quoL] using h)
theorem quoC_len (c : UInt8) : (quoC c).length ≤ 4 := by unfold quoC; (repeat' split) <;> simp
theorem flat_len (l : List UInt8) : (l.flatMap quoC).length ≤ 4 * l.length := by
  induction l with
  | nil => simp
  | cons a l ih => rw [List.flatMap_cons, List.length_append, List.length_cons]; have := quoC_len a; omega
theorem quoL_len (l : List UInt8) : (quoL l).length ≤ 4 * l.length + 2 := by
  have := flat_len l
  show (34 :: (l.flatMap quoC ++ [34])).length ≤ _
  rw [List.length_cons, List.length_append, List.length_singleton]
  omega
end Go.Proofs.YtafoagllbajfnaaDoor
