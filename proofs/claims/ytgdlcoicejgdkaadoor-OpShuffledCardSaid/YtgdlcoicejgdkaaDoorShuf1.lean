/- bedrocklaw6.time. By an AI agent. -/
import Derived.Test.YtgdlcoicejgdkaaDoorShuf0
import Derived.Test.YtgdlcoicejgdkaaDoorOp7
namespace Go.Proofs.YtgdlcoicejgdkaaDoor
open Go.RowKit

theorem maxL_one {xs : List Int} (h : 0 < xs.length) : maxL (xs.take (0 + 1)) = nth xs 0 := by
  cases xs with
  | nil => exact absurd h (by decide)
  | cons x xs => rfl
set_option maxHeartbeats 3200000 in
set_option maxRecDepth 100000 in
theorem ltime_any (key : ByteArray) (a : Option Addr) (n ca : Nat) (xs : List Int) (o t : Int) (k : Int) (x : Nat) (m : Int) (s : ByteArray) (T : Int) (w : World) (hx : IA w a n xs)
    (HT : Hid (timeL ⟨key, xs, o, t, ⟨k, x, m, s⟩⟩ = T)) :
    Calls Tryd.prog 18 #[.agg #[.string key, .slice a n ca, .int .i64 o, .int .i64 t, .int .i64 k, .float .f64 x, .int .i64 m, .string s]] w fun e w' => e = .returned (.int .i64 T) ∧ Bl w w' := by
  have HX := Lib.hid hx.len
  have hcap := hx.cap
  have hE : (if o = 254 ∧ 0 < n then maxL xs else if 0 ≤ o ∧ o < (n : Int) then nth xs o.toNat else 0) = T := by
    have := HT.out
    unfold timeL at this
    simp only [HX.out] at this
    exact this
  clear HT
  have hbl := (Bl.refl w).alloc (.cells #[.string key, .slice a n ca, .int .i64 o, .int .i64 t, .int .i64 k, .float .f64 x, .int .i64 m, .string s] 30)
  have cb := AC.new w w.heap.size rfl [.string key, .slice a n ca, .int .i64 o, .int .i64 t, .int .i64 k, .float .f64 x, .int .i64 m, .string s] 30
  have hI := hx.keep hbl
  go_enter Tryd.func18, Tryd.ntmps18
  go_upto_region 1 with fail
  generalize w.alloc (.cells #[.string key, .slice a n ca, .int .i64 o, .int .i64 t, .int .i64 k, .float .f64 x, .int .i64 m, .string s] 30) = W at *
  generalize w.heap.size = g at *
  have c1 := cb.cell 1 _ rfl
  have c2 := cb.cell 2 _ rfl
  clear cb
  by_cases h1 : o = 254
  · subst h1
    have hT : Hid (maxL xs = T) := Lib.hid (by
      by_cases h0 : 0 < n
      · rw [if_pos ⟨rfl, h0⟩] at hE; exact hE
      · rw [if_neg (by omega), if_neg (by omega)] at hE
        obtain rfl : xs = [] := List.eq_nil_of_length_eq_zero (by rw [HX.out]; omega)
        exact hE)
    clear hE
    go_wp2_with fail
    go_loop [3, 4] (fun t i => ∃ q : Nat, q ≤ n ∧ i = .int .i64 q ∧ t = .int .i64 (maxL (xs.take q))) (fun _ i => n - (intOf i).toNat)
    case atStart => exact ⟨0, Nat.zero_le _, rfl, rfl⟩
    case round =>
      obtain ⟨q, hq, rfl, rfl⟩ := hrel
      by_cases hlt : q < n
      · obtain ⟨vb, vo, rfl, hc⟩ := hI.at_k q hlt
        by_cases h0 : q = 0
        · subst h0
          have HM := Lib.hid (maxL_one (xs := xs) (by rw [HX.out]; exact hlt))
          have hc0 : W.cell? ⟨vb, vo, none⟩ = some (.int .i64 (nth xs 0)) := hc
          clear hc
          go_wp2_with fail
          go_round
          case rel => exact ⟨1, by omega, by go_num, by rw [← HM.out]⟩
          case measure => simp [intOf]; omega
        · have HM := Lib.hid (maxL_take (xs := xs) (k := q) (by omega) (by rw [HX.out]; exact hlt))
          obtain ⟨y, hy⟩ : ∃ y, nth xs q = y := ⟨_, rfl⟩
          obtain ⟨z, hz⟩ : ∃ z, maxL (xs.take q) = z := ⟨_, rfl⟩
          rw [hy] at hc HM
          rw [hz] at HM ⊢
          clear hy hz
          have hq0 : ((q : Int) == 0) = false := by simp; omega
          by_cases h2 : z < y
          · have d2 : decide (z < y) = true := by simp; omega
            go_wp2_with fail
            go_round
            case rel => exact ⟨q + 1, by omega, by go_num, by rw [HM.out]; congr 1; omega⟩
            case measure => simp [intOf]; omega
          · have d2 : decide (z < y) = false := by simp; omega
            go_wp2_with fail
            go_round
            case rel => exact ⟨q + 1, by omega, by go_num, by rw [HM.out]; congr 1; omega⟩
            case measure => simp [intOf]; omega
      · have hE : xs.take q = xs := List.take_of_length_le (by rw [HX.out]; omega)
        rw [hE, hT.out]
        go_wp2_with fail
        go_ret
        exact ⟨rfl, hbl⟩
  · have d1 : (o == 254) = false := by simp [h1]
    rw [if_neg (fun h => h1 h.1)] at hE
    by_cases h2 : o < 0
    · have d2 : decide (o < 0) = true := by simp; omega
      rw [if_neg (by omega)] at hE
      subst hE
      go_wp2_with fail
      go_ret
      exact ⟨rfl, hbl⟩
    · have d2 : decide (o < 0) = false := by simp; omega
      by_cases h3 : (n : Int) ≤ o
      · have d3 : decide ((n : Int) ≤ o) = true := by simp; omega
        rw [if_neg (by omega)] at hE
        subst hE
        go_wp2_with fail
        go_ret
        exact ⟨rfl, hbl⟩
      · have d3 : decide ((n : Int) ≤ o) = false := by simp; omega
        rw [if_pos (by omega)] at hE
        obtain ⟨oN, rfl⟩ : ∃ oN : Nat, o = (oN : Int) := ⟨o.toNat, by omega⟩
        rw [Int.toNat_natCast] at hE
        obtain ⟨vb, vo, rfl, hc⟩ := hI.at_k oN (by omega)
        rw [hE] at hc
        have hlt : oN < n := by omega
        go_wp2_with fail
        go_ret
        exact ⟨rfl, hbl⟩
end Go.Proofs.YtgdlcoicejgdkaaDoor
