import Derived.Test.YtginbjcpcgphgaaCore17

/- OpLatest in plain Lean: of a register that version counts whose time is the greatest. By an AI agent. -/
section
namespace Go.Proofs.Ytginbjcpcgphgaa
open Go.RowKit

theorem foldl_max_le {M : Int} : ∀ (xs : List Int) (x : Int), x ≤ M → (∀ y ∈ xs, y ≤ M) → xs.foldl max x ≤ M
  | [], x, h, _ => h
  | y :: ys, x, h, hs => foldl_max_le ys (max x y) (by have := hs y (by simp); omega) (fun z hz => hs z (by simp [hz]))
theorem time_le {v : VerL} {M : Int} (h0 : 0 ≤ M) (h : ∀ x ∈ v.at_, x ≤ M) : timeL v ≤ M := by
  unfold timeL
  split
  · obtain ⟨k, xs, o, t, a⟩ := v
    cases xs with
    | nil => exact h0
    | cons x xs => exact foldl_max_le xs x (h x (by simp)) (fun y hy => h y (by simp [hy]))
  · split
    · rename_i h2
      have hlt : v.origin.toNat < v.at_.length := by omega
      rw [nth_eq hlt]
      exact h _ (List.getElem_mem hlt)
    · exact h0
theorem cmp_lt {x y : Int} (h : x < y) : Lib.compareInt x y = -1 := by unfold Lib.compareInt; rw [if_pos h]
theorem cmp_gt {x y : Int} (h : y < x) : Lib.compareInt x y = 1 := by
  unfold Lib.compareInt; rw [if_neg (by omega)]
  first | rw [if_pos h] | (rw [if_neg (by omega)])
theorem order_first {u v : VerL} (h : timeL u < timeL v) : orderL v u < 0 := by
  unfold orderL
  rw [cmp_lt h]
  show (if (-1 : Int) = 0 then _ else (-1 : Int)) < 0
  rw [if_neg (by decide)]; decide
theorem order_later {u c : VerL} (h : timeL u < timeL c) : ¬ orderL u c < 0 := by
  unfold orderL
  rw [cmp_gt h]
  show ¬ (if (1 : Int) = 0 then _ else (1 : Int)) < 0
  rw [if_neg (by decide)]; decide
theorem step_mem {key : ByteArray} {last : Option VerL} {v u : VerL} (h : stepL key last v = some u) : u = v ∨ last = some u := by
  unfold stepL at h
  split at h
  · cases last with
    | none => exact .inl (Option.some.inj h).symm
    | some x =>
      simp only at h
      split at h
      · exact .inl (Option.some.inj h).symm
      · exact .inr h
  · exact .inr h
theorem fold_mem {key : ByteArray} {u : VerL} : ∀ (vs : List VerL) (last : Option VerL), vs.foldl (stepL key) last = some u → u ∈ vs ∨ last = some u
  | [], _, h => .inr h
  | v :: vs, last, h => by
    rcases fold_mem vs _ h with h1 | h1
    · exact .inl (by simp [h1])
    · rcases step_mem h1 with rfl | h2
      · exact .inl (by simp)
      · exact .inr h2
theorem last_mem {key : ByteArray} {vs : List VerL} {u : VerL} (h : lastL key vs = some u) : u ∈ vs := by
  rcases fold_mem vs none h with h1 | h1
  · exact h1
  · cases h1
/-- behind all others in the list, ahead of them in time -/
theorem last_snoc {key : ByteArray} {vs : List VerL} {v : VerL} (hf : fitsB key v.act = true) (h : ∀ u ∈ vs, timeL u < timeL v) : lastL key (vs ++ [v]) = some v := by
  rw [lastL_snoc]
  unfold stepL
  rw [if_pos hf]
  cases hl : lastL key vs with
  | none => rfl
  | some u =>
    simp only
    rw [if_pos (order_first (h u (last_mem hl)))]
/-- ahead of all others in the list and in time -/
theorem last_cons {key : ByteArray} {vs : List VerL} {c : VerL} (hf : fitsB key c.act = true) (h : ∀ u ∈ vs, timeL u < timeL c) : lastL key (c :: vs) = some c := by
  show vs.foldl (stepL key) (stepL key none c) = some c
  rw [show stepL key none c = some c by unfold stepL; rw [if_pos hf]]
  induction vs with
  | nil => rfl
  | cons u us ih =>
    show us.foldl (stepL key) (stepL key (some c) u) = some c
    have e : stepL key (some c) u = some c := by
      unfold stepL
      split
      · simp only
        rw [if_neg (order_later (h u (by simp)))]
      · rfl
    rw [e]
    exact ih (fun u hu => h u (by simp [hu]))
theorem value_snoc {key : ByteArray} {vs : List VerL} {v : VerL} (hr : regB key = true) (hf : fitsB key v.act = true) (h : ∀ u ∈ vs, timeL u < timeL v) : valueL key (vs ++ [v]) = valOf v.act := by
  unfold valueL
  rw [hr, last_snoc hf h]
  exact after_reg noVal hr hf
theorem value_cons {key : ByteArray} {vs : List VerL} {v : VerL} (hr : regB key = true) (hf : fitsB key v.act = true) (h : ∀ u ∈ vs, timeL u < timeL v) : valueL key (v :: vs) = valOf v.act := by
  unfold valueL
  rw [hr, last_cons hf h]
  exact after_reg noVal hr hf
def kR : ByteArray := ⟨#[114]⟩
def kT : ByteArray := ⟨#[116]⟩
def sLatest : ByteArray := ⟨#[108, 97, 116, 101, 115, 116]⟩
theorem fits_r (f : Nat) : fitsB kR ⟨0, f, 0, nilS⟩ = true := by
  have h1 : isKeyB kR = true := by decide +kernel
  have h2 : hd kR = 114 := by decide +kernel
  simp [fitsB, h1, h2, rightB, nil_list, show nilS.size = 0 from rfl]
theorem fits_t : fitsB kT ⟨0, 0, 0, sLatest⟩ = true := by decide +kernel
theorem fits_clear {key : ByteArray} (h : key = kR ∨ key = kT) : fitsB key ⟨4, 0, 0, nilS⟩ = true := by
  rcases h with rfl | rfl <;> decide +kernel
theorem reg_r : regB kR = true := by decide +kernel
theorem reg_t : regB kT = true := by decide +kernel
theorem time_new (key : ByteArray) (T : Int) (a : ActL) : timeL ⟨key, [T], 0, 0, a⟩ = T := by
  unfold timeL
  rw [if_neg (by simp), if_pos (by simp)]
  rfl
end Go.Proofs.Ytginbjcpcgphgaa
end

/- OpGrows in plain Lean: what one act more does to what a key has that adds up. By an AI agent. -/
section
namespace Go.Proofs.Ytginbjcpcgphgaa
open Go.RowKit

def kX : ByteArray := ⟨#[120]⟩
def kN : ByteArray := ⟨#[110]⟩
def kC : ByteArray := ⟨#[99]⟩
theorem kX_key : isKeyB kX = true := by decide +kernel
theorem kN_key : isKeyB kN = true := by decide +kernel
theorem kC_key : isKeyB kC = true := by decide +kernel
def vMax (f : Nat) : VerL := ⟨nilS, [], 0, 0, ⟨2, f, 0, nilS⟩⟩
def vMin (f : Nat) : VerL := ⟨nilS, [], 0, 0, ⟨3, f, 0, nilS⟩⟩
def vAdd (m : Int) : VerL := ⟨nilS, [], 0, 0, ⟨1, 0, m, nilS⟩⟩
theorem valueL_x (vs : List VerL) (f : Nat) : valueL kX (vs ++ [vMax f]) = ⟨true, if (valueL kX vs).there then rmax (valueL kX vs).x f else f, 0, nilS⟩ := by
  have hr : regB kX = false := by decide +kernel
  simp only [valueL, hr, Bool.false_eq_true, if_false, outL_snoc]
  exact after_max _ kX_key (by decide +kernel) f
theorem valueL_n (vs : List VerL) (f : Nat) : valueL kN (vs ++ [vMin f]) = ⟨true, if (valueL kN vs).there then rmin (valueL kN vs).x f else f, 0, nilS⟩ := by
  have hr : regB kN = false := by decide +kernel
  simp only [valueL, hr, Bool.false_eq_true, if_false, outL_snoc]
  exact after_min _ kN_key (by decide +kernel) f
theorem valueL_c (vs : List VerL) (m : Int) : valueL kC (vs ++ [vAdd m]) = ⟨true, 0, if (valueL kC vs).there then wrap64 ((valueL kC vs).n + m) else m, nilS⟩ := by
  have hr : regB kC = false := by decide +kernel
  simp only [valueL, hr, Bool.false_eq_true, if_false, outL_snoc]
  exact after_add _ kC_key (by decide +kernel) m
theorem valueL_num_ok {key : ByteArray} (hr : regB key = false) {vs : List VerL} (h : ∀ v ∈ vs, v.act.Ok) : (valueL key vs).Ok := by
  simp only [valueL, hr, Bool.false_eq_true, if_false]
  exact outL_ok h
/-- what the tests of OpGrows ask of the numbers -/
structure GrowF (f xx ax : Nat) (ab : Bool) (yx bx : Nat) (bb : Bool) : Prop where
  xa : ab = true → (FloatKind.f64.format.order xx ax == some .lt) = false
  yb : bb = true → (FloatKind.f64.format.order yx bx == some .gt) = false
  xf : (FloatKind.f64.format.order xx f == some .lt) = false
  x0 : ab = false → xx = f
  xo : xx < two64
theorem not_lt {x y : Nat} (hx : x < two64) (hy : y < two64) (h : fkey y ≤ fkey x) : (FloatKind.f64.format.order x y == some .lt) = false := by
  rw [Bool.eq_false_iff]
  intro e
  have := key_lt hx hy (eq_of_beq e)
  omega
theorem not_gt {x y : Nat} (hx : x < two64) (hy : y < two64) (h : fkey x ≤ fkey y) : (FloatKind.f64.format.order x y == some .gt) = false := by
  rw [Bool.eq_false_iff]
  intro e
  have := key_gt hx hy (eq_of_beq e)
  omega
theorem growF {f ax bx : Nat} (hf : f < two64) (ha : ax < two64) (hb : bx < two64) (ab bb : Bool) : GrowF f (if ab then rmax ax f else f) ax ab (if bb then rmin bx f else f) bx bb := by
  refine ⟨?_, ?_, ?_, ?_, ?_⟩
  · rintro rfl
    refine not_lt (rmax_lt' ha hf) ha ?_
    show fkey ax ≤ fkey (rmax ax f)
    rw [rmax_key']; omega
  · rintro rfl
    refine not_gt (rmin_lt hb hf) hb ?_
    show fkey (rmin bx f) ≤ fkey bx
    rw [rmin_key]; omega
  · cases ab
    · exact not_lt hf hf (Nat.le_refl _)
    · refine not_lt (rmax_lt' ha hf) hf ?_
      show fkey f ≤ fkey (rmax ax f)
      rw [rmax_key']; omega
  · rintro rfl; rfl
  · cases ab
    · exact hf
    · exact rmax_lt' ha hf
theorem value_agg (key : ByteArray) (a : Option Addr) (n ca : Nat) (vs : List VerL) (w : World) (b : Bool) (x : Nat) (m : Int) (z : ByteArray) (H : Hid (valueL key vs = ⟨b, x, m, z⟩)) (hkey : key.size ≤ 140737488351232) (hv : VA w a n vs) :
    Calls Try.prog 30 #[.string key, .slice a n ca] w fun e w' => e = .returned (.agg #[.bool b, .float .f64 x, .int .i64 m, .string z]) ∧ Bl w w' := by
  have h := value_any key a n ca vs w hkey hv
  rw [H.out] at h
  exact h
theorem ok_max {f : Nat} (hf : f < two64) : ActL.Ok ⟨2, f, 0, nilS⟩ := ⟨⟨by show (-9223372036854775808 : Int) ≤ 2; decide, by show (2 : Int) ≤ 9223372036854775807; decide⟩, hf, ⟨by show (-9223372036854775808 : Int) ≤ 0; decide, by show (0 : Int) ≤ 9223372036854775807; decide⟩, by show 0 ≤ 140737488351232; decide⟩
theorem ok_min {f : Nat} (hf : f < two64) : ActL.Ok ⟨3, f, 0, nilS⟩ := ⟨⟨by show (-9223372036854775808 : Int) ≤ 3; decide, by show (3 : Int) ≤ 9223372036854775807; decide⟩, hf, ⟨by show (-9223372036854775808 : Int) ≤ 0; decide, by show (0 : Int) ≤ 9223372036854775807; decide⟩, by show 0 ≤ 140737488351232; decide⟩
theorem ok_add {m : Int} (hm : -9223372036854775808 ≤ m ∧ m ≤ 9223372036854775807) : ActL.Ok ⟨1, 0, m, nilS⟩ := ⟨⟨by show (-9223372036854775808 : Int) ≤ 1; decide, by show (1 : Int) ≤ 9223372036854775807; decide⟩, (by show 0 < two64; decide), hm, by show 0 ≤ 140737488351232; decide⟩
theorem ok_val {f : Nat} (hf : f < two64) (b : Bool) : ValL.Ok ⟨b, f, 0, nilS⟩ := ⟨hf, ⟨by show (-9223372036854775808 : Int) ≤ 0; decide, by show (0 : Int) ≤ 9223372036854775807; decide⟩, by show 0 ≤ 140737488351232; decide⟩
end Go.Proofs.Ytginbjcpcgphgaa
end
