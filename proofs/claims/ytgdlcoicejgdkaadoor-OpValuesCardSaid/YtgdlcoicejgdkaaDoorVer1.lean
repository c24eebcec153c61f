/- versions and their order: cmp.Or, slices.Compare, slices.Max, ikey.Time. By an AI agent. -/
import Derived.Test.YtgdlcoicejgdkaaDoorOp5
import Derived.Test.YtgdlcoicejgdkaaDoorExt2
import Derived.Outline
import Derived.Deep.DeepCutAuto
namespace Go.Proofs.YtgdlcoicejgdkaaDoor
open Go.RowKit

/-- the first that is not nought -/
def orL : List Int → Int
  | [] => 0
  | x :: xs => if x = 0 then orL xs else x
/-- lists in order, number by number -/
def cmpV : List Int → List Int → Int
  | [], [] => 0
  | [], _ :: _ => -1
  | _ :: _, [] => 1
  | x :: xs, y :: ys => if Lib.compareInt x y = 0 then cmpV xs ys else Lib.compareInt x y
/-- the greatest -/
def maxL : List Int → Int
  | [] => 0
  | x :: xs => xs.foldl max x
structure VerL where
  key : ByteArray
  at_ : List Int
  origin : Int
  tx : Int
  act : ActL
def timeL (v : VerL) : Int :=
  if v.origin = 254 ∧ 0 < v.at_.length then maxL v.at_
  else if 0 ≤ v.origin ∧ v.origin < (v.at_.length : Int) then nth v.at_ v.origin.toNat
  else 0
def orderL (a b : VerL) : Int :=
  orL [Lib.compareInt (timeL b) (timeL a), Lib.compareInt b.origin a.origin, Lib.compareInt b.tx a.tx, Lib.compareInt (a.at_.length : Int) (b.at_.length : Int), cmpV a.at_ b.at_]

theorem drop_cons {xs : List Int} {k : Nat} (h : k < xs.length) : xs.drop k = nth xs k :: xs.drop (k + 1) := by
  rw [nth_eq h]; exact List.drop_eq_getElem_cons h
theorem or_any (g n : Nat) (xs : List Int) (w : World) (hn : xs.length = n) (hn2 : n ≤ 1000) (hc : ∀ j, j < n → w.cell? ⟨g, j, none⟩ = some (.int .i64 (nth xs j))) :
    Calls Tryd.prog 111 #[.slice (some ⟨g, 0, none⟩) n n] w fun e w' => e = .returned (.int .i64 (orL xs)) ∧ w = w' := by
  have HN := Lib.hid hn
  go_enter Tryd.func111, Tryd.ntmps111
  go_wp2_with fail
  go_loop [8] (fun i => ∃ k : Nat, k ≤ n ∧ i = .int .i64 k ∧ orL xs = orL (xs.drop k)) (fun i => n - (intOf i).toNat)
  case atStart => exact ⟨0, Nat.zero_le _, rfl, rfl⟩
  case round =>
    obtain ⟨k, hk, rfl, ho⟩ := hrel
    by_cases hlt : k < n
    · have hck := hc k hlt
      have hd := drop_cons (xs := xs) (k := k) (by rw [HN.out]; exact hlt)
      rw [hd] at ho
      have HO := Lib.hid ho
      clear ho hd
      by_cases h0 : nth xs k = 0
      · have q : (nth xs k != 0) = false := by simp [h0]
        have H0 := Lib.hid h0
        clear h0
        go_wp2_with fail
        go_round
        case rel => exact ⟨k + 1, by omega, by go_num, by rw [HO.out]; show (if nth xs k = 0 then _ else _) = _; rw [if_pos H0.out]⟩
        case measure => simp [intOf]; omega
      · have q : (nth xs k != 0) = true := by simp [h0]
        have H0 := Lib.hid h0
        clear h0
        go_wp2_with fail
        go_ret
        exact ⟨ret_int (by rw [HO.out]; show _ = (if nth xs k = 0 then _ else _); rw [if_neg H0.out]), rfl⟩
    · have hE : xs.drop k = [] := List.drop_eq_nil_of_le (by omega)
      rw [hE] at ho
      have HO := Lib.hid ho
      clear ho hE
      go_wp2_with fail
      go_ret
      exact ⟨ret_int (by rw [HO.out]; rfl), rfl⟩

theorem IA.at_k {w : World} {a : Option Addr} {n : Nat} {xs : List Int} (h : IA w a n xs) (k : Nat) (hk : k < n) : ∃ b off, a = some ⟨b, off, none⟩ ∧ w.cell? ⟨b, off + k, none⟩ = some (.int .i64 (nth xs k)) := by
  obtain ⟨b, off, e, hc⟩ := h.cells k hk
  exact ⟨b, off, e, hc k hk⟩
theorem compare_zero {x y : Int} : Lib.compareInt x y = 0 ↔ x = y := by
  unfold Lib.compareInt
  split
  · constructor <;> intro h <;> omega
  · split
    · constructor <;> intro h <;> omega
    · constructor <;> intro h <;> omega
set_option maxHeartbeats 800000 in
theorem cmpV_any (a b : Option Addr) (n m ca cb : Nat) (xs ys : List Int) (w : World) (hx : IA w a n xs) (hy : IA w b m ys) :
    Calls Tryd.prog 113 #[.slice a n ca, .slice b m cb] w fun e w' => e = .returned (.int .i64 (cmpV xs ys)) ∧ w = w' := by
  have HX := Lib.hid hx.len
  have HY := Lib.hid hy.len
  have hnb := hx.cap
  have hmb := hy.cap
  go_enter Tryd.func113, Tryd.ntmps113
  go_wp2_with fail
  go_loop [11] (fun i => ∃ k : Nat, k ≤ n ∧ k ≤ m ∧ i = .int .i64 k ∧ cmpV xs ys = cmpV (xs.drop k) (ys.drop k)) (fun i => n - (intOf i).toNat)
  case atStart => exact ⟨0, Nat.zero_le _, Nat.zero_le _, rfl, rfl⟩
  case round =>
    obtain ⟨k, hk, hk2, rfl, ho⟩ := hrel
    by_cases hlt : k < n
    · obtain ⟨ba, oa, rfl, hca⟩ := hx.at_k k hlt
      have hd := drop_cons (xs := xs) (k := k) (by rw [HX.out]; exact hlt)
      by_cases hlt2 : k < m
      · obtain ⟨bb, ob, rfl, hcb⟩ := hy.at_k k hlt2
        have hd2 := drop_cons (xs := ys) (k := k) (by rw [HY.out]; exact hlt2)
        rw [hd, hd2] at ho
        have HO := Lib.hid ho
        clear ho hd hd2
        go_wp2_with fail
        refine (Tryd.cmp_Compare_int _ _ _).mono ?_
        rintro e w' ⟨rfl, rfl⟩
        by_cases h0 : Lib.compareInt (nth xs k) (nth ys k) = 0
        · rw [h0]
          have H0 := Lib.hid h0
          clear h0
          go_wp2_with fail
          go_round
          case rel => exact ⟨k + 1, by omega, by omega, by go_num, by rw [HO.out]; show (if Lib.compareInt _ _ = 0 then _ else _) = _; rw [if_pos H0.out]⟩
          case measure => simp [intOf]; omega
        · have H1 : Hid (cmpV xs ys = Lib.compareInt (nth xs k) (nth ys k)) := Lib.hid (by rw [HO.out]; show (if Lib.compareInt _ _ = 0 then _ else _) = _; rw [if_neg h0])
          have q : (Lib.compareInt (nth xs k) (nth ys k) != 0) = true := by simp [h0]
          clear HO
          generalize Lib.compareInt (nth xs k) (nth ys k) = c at *
          clear h0
          go_wp2_with fail
          go_ret
          exact ⟨ret_int H1.out.symm, rfl⟩
      · have hE : ys.drop k = [] := List.drop_eq_nil_of_le (by have := HY.out; omega)
        rw [hd, hE] at ho
        have HO := Lib.hid ho
        clear ho hE hd
        go_wp2_with fail
        go_ret
        exact ⟨ret_int (by rw [HO.out]; rfl), rfl⟩
    · have hE : xs.drop k = [] := List.drop_eq_nil_of_le (by have := HX.out; omega)
      rw [hE] at ho
      by_cases hnm : n < m
      · have hd2 := drop_cons (xs := ys) (k := k) (by have := HY.out; omega)
        rw [hd2] at ho
        have HO := Lib.hid ho
        clear ho hE hd2
        go_wp2_with fail
        go_ret
        exact ⟨ret_int (by rw [HO.out]; rfl), rfl⟩
      · have hE2 : ys.drop k = [] := List.drop_eq_nil_of_le (by have := HY.out; omega)
        rw [hE2] at ho
        have HO := Lib.hid ho
        clear ho hE hE2
        go_wp2_with fail
        go_ret
        exact ⟨ret_int (by rw [HO.out]; rfl), rfl⟩
theorem maxL_take {xs : List Int} {k : Nat} (h1 : 1 ≤ k) (h : k < xs.length) : maxL (xs.take (k + 1)) = max (maxL (xs.take k)) (nth xs k) := by
  cases xs with
  | nil => simp at h
  | cons x xs =>
    obtain ⟨j, rfl⟩ : ∃ j, k = j + 1 := ⟨k - 1, by omega⟩
    simp only [List.take_succ_cons, maxL]
    have hj : j < xs.length := by simpa using h
    rw [List.take_succ_eq_append_getElem hj, List.foldl_append]
    simp [nth, List.getD, hj]
set_option maxHeartbeats 800000 in
theorem maxV_any (a : Option Addr) (n ca : Nat) (xs : List Int) (w : World) (hx : IA w a n xs) (h0 : 0 < n) :
    Calls Tryd.prog 116 #[.slice a n ca] w fun e w' => e = .returned (.int .i64 (maxL xs)) ∧ w = w' := by
  have HX := Lib.hid hx.len
  have hnb := hx.cap
  obtain ⟨ba, oa, rfl, hc0⟩ := hx.at_k 0 h0
  have hn1 : ¬ ((n : Int) < 1) := by omega
  have hn2 : (0 : Int) < (n : Int) := by omega
  have hc1 : w.cell? ⟨ba, oa, none⟩ = some (.int .i64 (nth xs 0)) := hc0
  go_enter Tryd.func116, Tryd.ntmps116
  go_wp2_with fail
  go_loop [3, 4] (fun v i => ∃ k : Nat, 1 ≤ k ∧ k ≤ n ∧ i = .int .i64 k ∧ v = .int .i64 (maxL (xs.take k))) (fun _ i => n - (intOf i).toNat)
  case atStart =>
    refine ⟨1, Nat.le_refl _, h0, rfl, ?_⟩
    have hl := HX.out
    cases xs with
    | nil => simp at hl; omega
    | cons x xs => rfl
  case round =>
    clear hc0 hc1
    obtain ⟨k, h1, hk, rfl, rfl⟩ := hrel
    by_cases hlt : k < n
    · obtain ⟨b2, o2, e2, hck⟩ := hx.at_k k hlt
      simp only [Option.some.injEq, Addr.mk.injEq] at e2
      obtain ⟨rfl, rfl, _⟩ := e2
      have HM := Lib.hid (maxL_take h1 (xs := xs) (k := k) (by rw [HX.out]; exact hlt))
      go_wp2_with fail
      go_round
      case rel => exact ⟨k + 1, by omega, by omega, by go_num, by rw [HM.out]⟩
      case measure => simp [intOf]; omega
    · have HE : Hid (xs.take k = xs) := Lib.hid (List.take_of_length_le (by have := HX.out; omega))
      go_wp2_with fail
      go_ret
      exact ⟨ret_int (by rw [HE.out]), rfl⟩
end Go.Proofs.YtgdlcoicejgdkaaDoor
