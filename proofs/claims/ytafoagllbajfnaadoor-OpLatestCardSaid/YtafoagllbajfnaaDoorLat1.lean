/- OpLatest: what its loops keep. By an AI agent. -/
import Derived.Test.YtafoagllbajfnaaDoorLat0
import Derived.Test.YtafoagllbajfnaaDoorVer6
namespace Go.Proofs.YtafoagllbajfnaaDoor
open Go.RowKit

/-- all times of the versions ahead of k are at most M -/
def MostL (vs : List VerL) (k : Nat) (M : Int) : Prop := ∀ j, j < k → ∀ x ∈ (nthR vs j).at_, x ≤ M
theorem most_all {vs : List VerL} {k : Nat} {M : Int} (h : MostL vs k M) (hk : vs.length ≤ k) : ∀ v ∈ vs, ∀ x ∈ v.at_, x ≤ M := by
  intro v hv x hx
  obtain ⟨j, hj, rfl⟩ := List.mem_iff_getElem.1 hv
  exact h j (by omega) x (by rwa [nthR_eq hj])
theorem most_next {vs : List VerL} {k : Nat} {M M' : Int} (h : MostL vs k M) (hM : M ≤ M') (h2 : ∀ x ∈ (nthR vs k).at_, x ≤ M') : MostL vs (k + 1) M' := by
  intro j hj x hx
  by_cases hjk : j < k
  · have := h j hjk x hx; omega
  · obtain rfl : j = k := by omega
    exact h2 x hx
theorem all_take {xs : List Int} {k : Nat} {M M' : Int} (hk : k < xs.length) (h : ∀ x ∈ xs.take k, x ≤ M) (hM : M ≤ M') (h2 : nth xs k ≤ M') : ∀ x ∈ xs.take (k + 1), x ≤ M' := by
  intro x hx
  rw [List.take_succ_eq_append_getElem hk, List.mem_append, List.mem_singleton] at hx
  rcases hx with hx | rfl
  · have := h x hx; omega
  · rwa [nth_eq hk] at h2

theorem ok_set {f : Nat} (hf : f < two64) : ActL.Ok ⟨0, f, 0, nilS⟩ := ⟨⟨by show (-9223372036854775808 : Int) ≤ 0; decide, by show (0 : Int) ≤ 9223372036854775807; decide⟩, hf, ⟨by show (-9223372036854775808 : Int) ≤ 0; decide, by show (0 : Int) ≤ 9223372036854775807; decide⟩, by show 0 ≤ 140737488351232; decide⟩
theorem ok_latest : ActL.Ok ⟨0, 0, 0, sLatest⟩ := ⟨by decide, by decide, by decide, by decide⟩
theorem ok_clear : ActL.Ok ⟨4, 0, 0, nilS⟩ := ⟨by decide, by decide, by decide, by decide⟩
end Go.Proofs.YtafoagllbajfnaaDoor
