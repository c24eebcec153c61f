/- GossipLags: the walk of the great way. By an AI agent. -/
import Derived.Test.YtpfpefapdcdkeaaLags2
namespace Go.Proofs.Ytpfpefapdcdkeaa
open Go.RowKit

theorem eq_of_ne {a b : Option Ordering} (h : (a != b) = true) : (a == b) = false := by simpa using h

set_option maxHeartbeats 3200000 in
set_option maxRecDepth 100000 in
theorem lags_yes (n : Nat) (ad : Option Addr) (c : Nat) (xs : List Int) (w : World) (hx : IA w ad n xs) (h1 : 1 ≤ n) (h8 : n ≤ 8) (hv : validL xs = true) :
    Calls Try.prog 3 #[.int .i64 n, .slice ad n c] w fun e w' => e = .returned (.bool true) ∧ Bl w w' := by
  have q1 : ((n : Int) != (n : Int)) = false := by simp
  have HX := Lib.hid hx.len
  have HP : ∀ x ∈ xs, 0 ≤ x := fun x hx => by
    have : xs.any badT = false := by simp [validL] at hv; rw [List.any_eq_false]; intro y hy; simp [hv.2 y hy]
    have := List.any_eq_false.1 this x hx
    simp [badT] at this; omega
  have HPB : ∀ x ∈ xs, x < 281474976710656 := fun x hx => by
    have : xs.any badT = false := by simp [validL] at hv; rw [List.any_eq_false]; intro y hy; simp [hv.2 y hy]
    have := List.any_eq_false.1 this x hx
    simp [badT] at this; omega
  have HXL := Lib.hid (lags_xlen hx.len HP h1)
  have HYL := Lib.hid (lags_ylen hx.len HP h1)
  have HXK := Lib.hid (lags_x hx.len HP HPB h1)
  have HYK := Lib.hid (lags_y hx.len HP HPB h1)
  have HMN := Lib.hid (RA_min (xs := xs) h1)
  have HP := Lib.hid HP
  clear HPB
  go_enter Try.func3, Try.ntmps3
  go_wp2_with fail
  refine (rvalid_any ad n c xs _ hx).mono ?_
  rintro e w1 ⟨rfl, rfl⟩
  rw [hv]
  go_wp2_with fail
  refine (new_yes n _ h1 h8).mono ?_
  rintro e w1 ⟨g, rfl, hr, hb1⟩
  rw [← RA_zero n xs] at hr
  go_wp2_with fail
  go_loopw [6, 7] (fun s i wr => ∃ (k : Nat) (p : Bool), k ≤ n ∧ i = .int .i64 k ∧ s = .bool p ∧ p = anyP xs k ∧ RG w.heap.size wr g (RA n (min k 1) xs) ∧ Bl w wr) (fun _ i _ => n - (intOf i).toNat)
  case atStart => exact ⟨0, _, Nat.zero_le _, rfl, rfl, rfl, hr, hb1⟩
  case round =>
    clear hr hb1
    obtain ⟨k, p, hk, rfl, rfl, hp, hr, hb⟩ := hrel
    have HPK := Lib.hid hp; clear hp
    by_cases hlt : k < n
    · obtain ⟨ba, oa, rfl, hca⟩ := hx.cells k hlt
      have hc := hb.cell (hca k hlt)
      clear hca
      have hRA : (RA n (min k 1) xs).set 0 (joinL (nthR (RA n (min k 1) xs) 0) xs) = RA n (min (k + 1) 1) xs := by
        rw [RA_set HX.out HP.out (by omega) (by omega) (by omega)]; congr 1; omega
      have HRA := Lib.hid hRA; clear hRA
      have hxk := hx.keep hb
      have hrl := RA_len (n := n) (m := min k 1) (by omega) xs
      cases p
      · by_cases hpos : 0 < nth xs k
        · have HN := Lib.hid (show anyP xs (k + 1) = true by rw [anyP_succ]; simp [hpos])
          go_wp2_with fail
          refine (set_yes _ g n c _ 0 _ xs _ hr hrl h8 (by omega) hxk hv).mono ?_
          rintro e w2 ⟨rfl, hr2, hb2⟩
          rw [HRA.out] at hr2
          have hb3 : Bl w w2 := Below.trans hb hb2
          go_wp2_with fail
          go_roundw
          case rel => exact ⟨k + 1, _, by omega, by go_num, rfl, HN.out.symm, hr2, hb3⟩
          case measure => simp [intOf]; omega
        · have HN := Lib.hid (show anyP xs (k + 1) = false by rw [anyP_succ, ← HPK.out]; simp; omega)
          go_wp2_with fail
          refine (set_yes _ g n c _ 0 _ xs _ hr hrl h8 (by omega) hxk hv).mono ?_
          rintro e w2 ⟨rfl, hr2, hb2⟩
          rw [HRA.out] at hr2
          have hb3 : Bl w w2 := Below.trans hb hb2
          go_wp2_with fail
          go_roundw
          case rel => exact ⟨k + 1, _, by omega, by go_num, rfl, HN.out.symm, hr2, hb3⟩
          case measure => simp [intOf]; omega
      · have HN := Lib.hid (show anyP xs (k + 1) = true by rw [anyP_succ, ← HPK.out]; simp)
        go_wp2_with fail
        refine (set_yes _ g n c _ 0 _ xs _ hr hrl h8 (by omega) hxk hv).mono ?_
        rintro e w2 ⟨rfl, hr2, hb2⟩
        rw [HRA.out] at hr2
        have hb3 : Bl w w2 := Below.trans hb hb2
        go_wp2_with fail
        go_roundw
        case rel => exact ⟨k + 1, _, by omega, by go_num, rfl, HN.out.symm, hr2, hb3⟩
        case measure => simp [intOf]; omega
    · obtain rfl : k = n := by omega
      rw [show min k 1 = 1 by omega] at hr
      have hrl := RA_len (n := k) (m := 1) (by omega) xs
      go_wp2_with fail
      refine (lag_yes _ g _ _ hr (by omega) (by omega) HXL.out).mono ?_
      rintro e w3 ⟨x, rfl, hxl, hxk, hb3⟩
      rw [HXK.out, ← HPK.out] at hxk
      have hr3 := hr.keep hb3
      have hb3 := hb.trans hb3
      clear hr hb
      cases p
      · rw [if_neg (by decide)] at hxk
        have f1 : (FloatKind.f64.format.order x x == some .eq) = false := eq_of_ne ((self_nan hxl).trans (fkey_zero hxl hxk))
        clear hxk
        by_cases h2 : (1 : Int) < (k : Int)
        · go_wp2_with fail
          go_loopw [9] (fun i wr => ∃ j : Nat, j ≤ k ∧ i = .int .i64 j ∧ RG w.heap.size wr g (RA k (max j 1) xs) ∧ Bl w wr) (fun i _ => k - (intOf i).toNat)
          case atStart => exact ⟨0, Nat.zero_le _, rfl, hr3, hb3⟩
          case round =>
            clear hr3 hb3
            obtain ⟨j, hj, rfl, hr, hb⟩ := hrel
            by_cases hjt : j < k
            · have HRA := Lib.hid (show (RA k (max j 1) xs).set j (joinL (nthR (RA k (max j 1) xs) j) xs) = RA k (max (j + 1) 1) xs by rw [RA_set HX.out HP.out (by omega) (by omega) hjt]; congr 1; omega)
              have hrl2 := RA_len (n := k) (m := max j 1) (by omega) xs
              have hxk := hx.keep hb
              go_wp2_with fail
              refine (set_yes _ g k c _ j _ xs _ hr hrl2 h8 hjt hxk hv).mono ?_
              rintro e w2 ⟨rfl, hr2, hb2⟩
              rw [HRA.out] at hr2
              have hb3 : Bl w w2 := Below.trans hb hb2
              go_wp2_with fail
              go_roundw
              case rel => exact ⟨j + 1, by omega, by go_num, hr2, hb3⟩
              case measure => simp [intOf]; omega
            · obtain rfl : j = k := by omega
              rw [show max j 1 = j by omega] at hr
              have hrl2 := RA_len (n := j) (m := j) (by omega) xs
              go_wp2_with fail
              refine (lag_yes _ g _ _ hr (by omega) (by omega) HYL.out).mono ?_
              rintro e w4 ⟨y, rfl, hyl, hyk, hb4⟩
              rw [HYK.out, ← HPK.out] at hyk
              have hr4 := hr.keep hb4
              have hb4 := hb.trans hb4
              clear hr hb
              rw [if_neg (by decide)] at hyk
              have g1 : (FloatKind.f64.format.order y y != some .eq) = true := (self_nan hyl).trans (fkey_zero hyl hyk)
              clear hyk
              go_wp2_with fail
              refine (alive20_any _).mono ?_
              rintro e w5 ⟨rfl, hb5⟩
              have hr5 := hr4.keep hb5
              have hb5 := hb4.trans hb5
              go_wp2_with fail
              refine (stable_yes _ g _ _ hr5 (by omega) (by omega)).mono ?_
              rintro e w6 ⟨v6, rfl, hf6, hb6⟩
              rw [HMN.out] at hf6
              obtain ⟨a6, n6, c6, rfl, hI6⟩ := hf6.si
              have hb6 := hb5.trans hb6
              have hx6 := hx.keep hb6
              clear hf6
              go_wp2_with fail
              refine (rsame_any _ _ _ _ _ _ xs xs _ hI6 hx6).mono ?_
              rintro e w7 ⟨rfl, hb7⟩
              rw [decide_eq_true (rfl : xs = xs)]
              go_wp2_with fail
              go_ret
              exact ⟨rfl, hb6.trans hb7⟩
        · go_wp2_with fail
          go_loopw [9] (fun i wr => ∃ j : Nat, j ≤ k ∧ i = .int .i64 j ∧ RG w.heap.size wr g (RA k (max j 1) xs) ∧ Bl w wr) (fun i _ => k - (intOf i).toNat)
          case atStart => exact ⟨0, Nat.zero_le _, rfl, hr3, hb3⟩
          case round =>
            clear hr3 hb3
            obtain ⟨j, hj, rfl, hr, hb⟩ := hrel
            by_cases hjt : j < k
            · have HRA := Lib.hid (show (RA k (max j 1) xs).set j (joinL (nthR (RA k (max j 1) xs) j) xs) = RA k (max (j + 1) 1) xs by rw [RA_set HX.out HP.out (by omega) (by omega) hjt]; congr 1; omega)
              have hrl2 := RA_len (n := k) (m := max j 1) (by omega) xs
              have hxk := hx.keep hb
              go_wp2_with fail
              refine (set_yes _ g k c _ j _ xs _ hr hrl2 h8 hjt hxk hv).mono ?_
              rintro e w2 ⟨rfl, hr2, hb2⟩
              rw [HRA.out] at hr2
              have hb3 : Bl w w2 := Below.trans hb hb2
              go_wp2_with fail
              go_roundw
              case rel => exact ⟨j + 1, by omega, by go_num, hr2, hb3⟩
              case measure => simp [intOf]; omega
            · obtain rfl : j = k := by omega
              rw [show max j 1 = j by omega] at hr
              have hrl2 := RA_len (n := j) (m := j) (by omega) xs
              go_wp2_with fail
              refine (lag_yes _ g _ _ hr (by omega) (by omega) HYL.out).mono ?_
              rintro e w4 ⟨y, rfl, hyl, hyk, hb4⟩
              rw [HYK.out, ← HPK.out] at hyk
              have hr4 := hr.keep hb4
              have hb4 := hb.trans hb4
              clear hr hb
              rw [if_neg (by decide)] at hyk
              have g1 : (FloatKind.f64.format.order y y != some .eq) = true := (self_nan hyl).trans (fkey_zero hyl hyk)
              clear hyk
              go_wp2_with fail
              refine (alive20_any _).mono ?_
              rintro e w5 ⟨rfl, hb5⟩
              have hr5 := hr4.keep hb5
              have hb5 := hb4.trans hb5
              go_wp2_with fail
              refine (stable_yes _ g _ _ hr5 (by omega) (by omega)).mono ?_
              rintro e w6 ⟨v6, rfl, hf6, hb6⟩
              rw [HMN.out] at hf6
              obtain ⟨a6, n6, c6, rfl, hI6⟩ := hf6.si
              have hb6 := hb5.trans hb6
              have hx6 := hx.keep hb6
              clear hf6
              go_wp2_with fail
              refine (rsame_any _ _ _ _ _ _ xs xs _ hI6 hx6).mono ?_
              rintro e w7 ⟨rfl, hb7⟩
              rw [decide_eq_true (rfl : xs = xs)]
              go_wp2_with fail
              go_ret
              exact ⟨rfl, hb6.trans hb7⟩
      · rw [if_pos rfl] at hxk
        by_cases h2 : (1 : Int) < (k : Int)
        · rw [if_pos (by omega)] at hxk
          obtain rfl := fkey_inj hxl (by decide) hxk (by decide +kernel)
          have f1 : (FloatKind.f64.format.order oneF 4607182418800017408 != some .eq) = false := by decide +kernel
          clear hxk
          go_wp2_with fail
          go_loopw [9] (fun i wr => ∃ j : Nat, j ≤ k ∧ i = .int .i64 j ∧ RG w.heap.size wr g (RA k (max j 1) xs) ∧ Bl w wr) (fun i _ => k - (intOf i).toNat)
          case atStart => exact ⟨0, Nat.zero_le _, rfl, hr3, hb3⟩
          case round =>
            clear hr3 hb3
            obtain ⟨j, hj, rfl, hr, hb⟩ := hrel
            by_cases hjt : j < k
            · have HRA := Lib.hid (show (RA k (max j 1) xs).set j (joinL (nthR (RA k (max j 1) xs) j) xs) = RA k (max (j + 1) 1) xs by rw [RA_set HX.out HP.out (by omega) (by omega) hjt]; congr 1; omega)
              have hrl2 := RA_len (n := k) (m := max j 1) (by omega) xs
              have hxk := hx.keep hb
              go_wp2_with fail
              refine (set_yes _ g k c _ j _ xs _ hr hrl2 h8 hjt hxk hv).mono ?_
              rintro e w2 ⟨rfl, hr2, hb2⟩
              rw [HRA.out] at hr2
              have hb3 : Bl w w2 := Below.trans hb hb2
              go_wp2_with fail
              go_roundw
              case rel => exact ⟨j + 1, by omega, by go_num, hr2, hb3⟩
              case measure => simp [intOf]; omega
            · obtain rfl : j = k := by omega
              rw [show max j 1 = j by omega] at hr
              have hrl2 := RA_len (n := j) (m := j) (by omega) xs
              go_wp2_with fail
              refine (lag_yes _ g _ _ hr (by omega) (by omega) HYL.out).mono ?_
              rintro e w4 ⟨y, rfl, hyl, hyk, hb4⟩
              rw [HYK.out, ← HPK.out] at hyk
              have hr4 := hr.keep hb4
              have hb4 := hb.trans hb4
              clear hr hb
              rw [if_pos rfl] at hyk
              obtain rfl := fkey_inj hyl (show (0 : Nat) < two64 by decide) (hyk.trans (show two63 = fkey 0 by decide)) (by decide)
              have g1 : (FloatKind.f64.format.order 0 0 == some .eq) = true := by decide +kernel
              clear hyk
              go_wp2_with fail
              refine (alive20_any _).mono ?_
              rintro e w5 ⟨rfl, hb5⟩
              have hr5 := hr4.keep hb5
              have hb5 := hb4.trans hb5
              go_wp2_with fail
              refine (stable_yes _ g _ _ hr5 (by omega) (by omega)).mono ?_
              rintro e w6 ⟨v6, rfl, hf6, hb6⟩
              rw [HMN.out] at hf6
              obtain ⟨a6, n6, c6, rfl, hI6⟩ := hf6.si
              have hb6 := hb5.trans hb6
              have hx6 := hx.keep hb6
              clear hf6
              go_wp2_with fail
              refine (rsame_any _ _ _ _ _ _ xs xs _ hI6 hx6).mono ?_
              rintro e w7 ⟨rfl, hb7⟩
              rw [decide_eq_true (rfl : xs = xs)]
              go_wp2_with fail
              go_ret
              exact ⟨rfl, hb6.trans hb7⟩
        · clear hxk
          go_wp2_with fail
          go_loopw [9] (fun i wr => ∃ j : Nat, j ≤ k ∧ i = .int .i64 j ∧ RG w.heap.size wr g (RA k (max j 1) xs) ∧ Bl w wr) (fun i _ => k - (intOf i).toNat)
          case atStart => exact ⟨0, Nat.zero_le _, rfl, hr3, hb3⟩
          case round =>
            clear hr3 hb3
            obtain ⟨j, hj, rfl, hr, hb⟩ := hrel
            by_cases hjt : j < k
            · have HRA := Lib.hid (show (RA k (max j 1) xs).set j (joinL (nthR (RA k (max j 1) xs) j) xs) = RA k (max (j + 1) 1) xs by rw [RA_set HX.out HP.out (by omega) (by omega) hjt]; congr 1; omega)
              have hrl2 := RA_len (n := k) (m := max j 1) (by omega) xs
              have hxk := hx.keep hb
              go_wp2_with fail
              refine (set_yes _ g k c _ j _ xs _ hr hrl2 h8 hjt hxk hv).mono ?_
              rintro e w2 ⟨rfl, hr2, hb2⟩
              rw [HRA.out] at hr2
              have hb3 : Bl w w2 := Below.trans hb hb2
              go_wp2_with fail
              go_roundw
              case rel => exact ⟨j + 1, by omega, by go_num, hr2, hb3⟩
              case measure => simp [intOf]; omega
            · obtain rfl : j = k := by omega
              rw [show max j 1 = j by omega] at hr
              have hrl2 := RA_len (n := j) (m := j) (by omega) xs
              go_wp2_with fail
              refine (lag_yes _ g _ _ hr (by omega) (by omega) HYL.out).mono ?_
              rintro e w4 ⟨y, rfl, hyl, hyk, hb4⟩
              rw [HYK.out, ← HPK.out] at hyk
              have hr4 := hr.keep hb4
              have hb4 := hb.trans hb4
              clear hr hb
              rw [if_pos rfl] at hyk
              obtain rfl := fkey_inj hyl (show (0 : Nat) < two64 by decide) (hyk.trans (show two63 = fkey 0 by decide)) (by decide)
              have g1 : (FloatKind.f64.format.order 0 0 == some .eq) = true := by decide +kernel
              clear hyk
              go_wp2_with fail
              refine (alive20_any _).mono ?_
              rintro e w5 ⟨rfl, hb5⟩
              have hr5 := hr4.keep hb5
              have hb5 := hb4.trans hb5
              go_wp2_with fail
              refine (stable_yes _ g _ _ hr5 (by omega) (by omega)).mono ?_
              rintro e w6 ⟨v6, rfl, hf6, hb6⟩
              rw [HMN.out] at hf6
              obtain ⟨a6, n6, c6, rfl, hI6⟩ := hf6.si
              have hb6 := hb5.trans hb6
              have hx6 := hx.keep hb6
              clear hf6
              go_wp2_with fail
              refine (rsame_any _ _ _ _ _ _ xs xs _ hI6 hx6).mono ?_
              rintro e w7 ⟨rfl, hb7⟩
              rw [decide_eq_true (rfl : xs = xs)]
              go_wp2_with fail
              go_ret
              exact ⟨rfl, hb6.trans hb7⟩
theorem lags_walk (n : Int) (ad : Option Addr) (m c : Nat) (xs : List Int) (w : World) (_hn : -9223372036854775808 ≤ n ∧ n ≤ 9223372036854775807) (hx : IA w ad m xs) :
    Calls Try.prog 3 #[.int .i64 n, .slice ad m c] w fun e w' => e = .returned (.bool true) ∧ Bl w w' := by
  by_cases h : 1 ≤ n ∧ n ≤ 8 ∧ (m : Int) = n ∧ validL xs = true
  · obtain ⟨h1, h2, rfl, hv⟩ := h
    exact lags_yes m ad c xs w hx (by omega) (by omega) hv
  · exact lags_no n ad m c xs w hx h
end Go.Proofs.Ytpfpefapdcdkeaa
