/- OpLatest in plain Lean: of a register that version counts whose time is the greatest. By an AI agent. -/
import Derived.Test.YtgdlcoicejgdkaaDoorVer5
namespace Go.Proofs.YtgdlcoicejgdkaaDoor
open Go.RowKit

theorem foldl_max_le {M : Int} : ∀ (xs : List Int) (x : Int), x ≤ M → (∀ y ∈ xs, y ≤ M) → xs.foldl max x ≤ M
  | [], x, h, _ => h
  | y :: ys, x, h, hs => foldl_max_le ys (max x y) (by have := hs y (by simp); omega) (fun z hz => hs z (by simp [hz]))
theorem time_le {v : VerL} {M : Int} (h0 : 0 ≤ M) (h : ∀ x ∈ v.at_, x ≤ M) : timeL v ≤ M := by
  unfold timeL
  split
  · obtain ⟨k, xs, o, t, a⟩ := v
    cases xs with
    | nil => exact h0
    | cons x xs => exact foldl_max_le xs x (h x (by simp)) (fun y hy => h y (by simp [hy]))
  · split
    · rename_i h2
      have hlt : v.origin.toNat < v.at_.length := by omega
      rw [nth_eq hlt]
      exact h _ (List.getElem_mem hlt)
    · exact h0
theorem cmp_lt {x y : Int} (h : x < y) : Lib.compareInt x y = -1 := by unfold Lib.compareInt; rw [if_pos h]
theorem cmp_gt {x y : Int} (h : y < x) : Lib.compareInt x y = 1 := by
  unfold Lib.compareInt; rw [if_neg (by omega)]
  first | rw [if_pos h] | (rw [if_neg (by omega)])
theorem order_first {u v : VerL} (h : timeL u < timeL v) : orderL v u < 0 := by
  unfold orderL
  rw [cmp_lt h]
  show (if (-1 : Int) = 0 then _ else (-1 : Int)) < 0
  rw [if_neg (by decide)]; decide
theorem order_later {u c : VerL} (h : timeL u < timeL c) : ¬ orderL u c < 0 := by
  unfold orderL
  rw [cmp_gt h]
  show ¬ (if (1 : Int) = 0 then _ else (1 : Int)) < 0
  rw [if_neg (by decide)]; decide
theorem step_mem {key : ByteArray} {last : Option VerL} {v u : VerL} (h : stepL key last v = some u) : u = v ∨ last = some u := by
  unfold stepL at h
  split at h
  · cases last with
    | none => exact .inl (Option.some.inj h).symm
    | some x =>
      simp only at h
      split at h
      · exact .inl (Option.some.inj h).symm
      · exact .inr h
  · exact .inr h
theorem fold_mem {key : ByteArray} {u : VerL} : ∀ (vs : List VerL) (last : Option VerL), vs.foldl (stepL key) last = some u → u ∈ vs ∨ last = some u
  | [], _, h => .inr h
  | v :: vs, last, h => by
    rcases fold_mem vs _ h with h1 | h1
    · exact .inl (by simp [h1])
    · rcases step_mem h1 with rfl | h2
      · exact .inl (by simp)
      · exact .inr h2
theorem last_mem {key : ByteArray} {vs : List VerL} {u : VerL} (h : lastL key vs = some u) : u ∈ vs := by
  rcases fold_mem vs none h with h1 | h1
  · exact h1
  · cases h1
/-- behind all others in the list, ahead of them in time -/
theorem last_snoc {key : ByteArray} {vs : List VerL} {v : VerL} (hf : fitsB key v.act = true) (h : ∀ u ∈ vs, timeL u < timeL v) : lastL key (vs ++ [v]) = some v := by
  rw [lastL_snoc]
  unfold stepL
  rw [if_pos hf]
  cases hl : lastL key vs with
  | none => rfl
  | some u =>
    simp only
    rw [if_pos (order_first (h u (last_mem hl)))]
/-- ahead of all others in the list and in time -/
theorem last_cons {key : ByteArray} {vs : List VerL} {c : VerL} (hf : fitsB key c.act = true) (h : ∀ u ∈ vs, timeL u < timeL c) : lastL key (c :: vs) = some c := by
  show vs.foldl (stepL key) (stepL key none c) = some c
  rw [show stepL key none c = some c by unfold stepL; rw [if_pos hf]]
  induction vs with
  | nil => rfl
  | cons u us ih =>
    show us.foldl (stepL key) (stepL key (some c) u) = some c
    have e : stepL key (some c) u = some c := by
      unfold stepL
      split
      · simp only
        rw [if_neg (order_later (h u (by simp)))]
      · rfl
    rw [e]
    exact ih (fun u hu => h u (by simp [hu]))
theorem value_snoc {key : ByteArray} {vs : List VerL} {v : VerL} (hr : regB key = true) (hf : fitsB key v.act = true) (h : ∀ u ∈ vs, timeL u < timeL v) : valueL key (vs ++ [v]) = valOf v.act := by
  unfold valueL
  rw [hr, last_snoc hf h]
  exact after_reg noVal hr hf
theorem value_cons {key : ByteArray} {vs : List VerL} {v : VerL} (hr : regB key = true) (hf : fitsB key v.act = true) (h : ∀ u ∈ vs, timeL u < timeL v) : valueL key (v :: vs) = valOf v.act := by
  unfold valueL
  rw [hr, last_cons hf h]
  exact after_reg noVal hr hf
def kR : ByteArray := ⟨#[114]⟩
def kT : ByteArray := ⟨#[116]⟩
def sLatest : ByteArray := ⟨#[108, 97, 116, 101, 115, 116]⟩
theorem fits_r (f : Nat) : fitsB kR ⟨0, f, 0, nilS⟩ = true := by
  have h1 : isKeyB kR = true := by decide +kernel
  have h2 : hd kR = 114 := by decide +kernel
  simp [fitsB, h1, h2, rightB, nil_list, show nilS.size = 0 from rfl]
theorem fits_t : fitsB kT ⟨0, 0, 0, sLatest⟩ = true := by decide +kernel
theorem fits_clear {key : ByteArray} (h : key = kR ∨ key = kT) : fitsB key ⟨4, 0, 0, nilS⟩ = true := by
  rcases h with rfl | rfl <;> decide +kernel
theorem reg_r : regB kR = true := by decide +kernel
theorem reg_t : regB kT = true := by decide +kernel
theorem time_new (key : ByteArray) (T : Int) (a : ActL) : timeL ⟨key, [T], 0, 0, a⟩ = T := by
  unfold timeL
  rw [if_neg (by simp), if_pos (by simp)]
  rfl
end Go.Proofs.YtgdlcoicejgdkaaDoor
