/- the walk of VecWith. By an AI agent. -/
import Derived.Test.YtpfpefapdcdkeaaVec4
import Derived.Deep.RegionHeld3
namespace Go.Proofs.Ytpfpefapdcdkeaa
open Go.RowKit Go.Shelf

theorem withL_back (xs : List Int) (m : Nat) (t : Int) (h : m < xs.length) : withL (withL xs m t) m (nth xs m) = xs := by
  apply getD_ext (by simp [withL_len])
  intro j hj
  rw [withL_len, withL_len] at hj
  rw [withL_nth _ _ _ _ (by rw [withL_len]; exact hj), withL_nth _ _ _ _ hj]
  by_cases e : (j : Int) = m
  · have : j = m := by omega
    subst this; simp
  · simp [e]
theorem leq_with (xs : List Int) (m : Nat) (t : Int) (h : m < xs.length) : leqL xs (withL xs m t) = decide (nth xs m ≤ t) := by
  rw [Bool.eq_iff_iff, leqL_iff (by rw [withL_len]), decide_eq_true_eq]
  constructor
  · intro h1
    have := h1 m h
    rw [withL_nth _ _ _ _ h, if_pos rfl] at this
    exact this
  · intro h1 j hj
    rw [withL_nth _ _ _ _ hj]
    by_cases e : (j : Int) = m
    · have : j = m := by omega
      subst this; rw [if_pos rfl]; exact h1
    · rw [if_neg e]; omega

set_option maxHeartbeats 3200000 in
set_option maxRecDepth 100000 in
theorem vecWith_walk (a : Option Addr) (n ca : Nat) (xs : List Int) (i t : Int) (w : World) (hx : IA w a n xs) (hi : -9223372036854775808 ≤ i ∧ i ≤ 9223372036854775807) (ht : -9223372036854775808 ≤ t ∧ t ≤ 9223372036854775807) :
    Calls Try.prog 6 #[.slice a n ca, .int .i64 i, .int .i64 t] w fun e w' => e = .returned (.bool true) ∧ Bl w w' := by
  have hx1 := hx.cap
  have HI := Lib.hid hi; clear hi
  by_cases h60 : (n : Int) > 60
  · go_enter Try.func6, Try.ntmps6
    go_wp2_with fail
    refine (alive3_any _).mono ?_
    rintro e w1 ⟨rfl, hb1⟩
    go_wp2
    go_ret
    exact ⟨rfl, hb1⟩
  · have hn60 : n ≤ 60 := by omega
    have HX := Lib.hid hx.len
    go_enter Try.func6, Try.ntmps6
    go_wp2_with fail
    refine (with_any a n ca xs i t _ hx ht).mono ?_
    rintro e w1 ⟨v, rfl, hf, hb1⟩
    obtain ⟨a2, n2, c2, rfl, hy⟩ := hf.si
    have hn2 : n2 = n := by rw [← hy.len, withL_len, HX.out]
    subst hn2
    have hnn : ((n2 : Int) != (n2 : Int)) = false := by simp
    go_wp2
    go_loopw [8] (fun j wr => ∃ k : Nat, k ≤ n2 ∧ j = .int .i64 k ∧ Bl w1 wr) (fun j _ => n2 - (intOf j).toNat)
    case atStart => exact ⟨0, Nat.zero_le _, rfl, Bl.refl _⟩
    case round =>
      obtain ⟨k, hk, rfl, hbr⟩ := hrel
      by_cases hlt : k < n2
      · obtain ⟨ba, oa, ea, hca⟩ := hx.cells k hlt
        obtain ⟨bb, ob, eb, hcb⟩ := hy.cells k hlt
        subst ea eb
        have ha := (hb1.trans hbr).cell (hca k hlt)
        have hb := hbr.cell (hcb k hlt)
        clear hca hcb
        have hkn : k < xs.length := by rw [HX.out]; exact hlt
        have hwn := withL_nth xs i t k hkn
        by_cases hki : (k : Int) = i
        · rw [if_pos hki] at hwn
          rw [hwn] at hb
          clear hwn
          have q1 : ((k : Int) != i) = false := by simp [hki]
          have q2 : ((k : Int) == i) = true := by simp [hki]
          have q3 : (t != t) = false := by simp
          clear hki
          go_wp2
          go_quiet (fail)
          go_wp2
          go_roundw
          case rel => exact ⟨k + 1, by omega, by go_num, hbr.drewN _⟩
          case measure => simp [intOf]; omega
        · rw [if_neg hki] at hwn
          rw [hwn] at hb
          clear hwn
          have q1 : ((k : Int) != i) = true := by simp [hki]
          have q2 : ((k : Int) == i) = false := by simp [hki]
          have q3 : (nth xs k != nth xs k) = false := by simp
          clear hki
          go_wp2
          go_quiet (fail)
          go_wp2
          go_roundw
          case rel => exact ⟨k + 1, by omega, by go_num, hbr.drewN _⟩
          case measure => simp [intOf]; omega
      · have hbw := hb1.trans hbr
        by_cases hin : 0 ≤ i ∧ i < n2
        · obtain ⟨h0, h1⟩ := hin
          obtain ⟨m, rfl⟩ := Int.eq_ofNat_of_zero_le h0
          have hm : m < n2 := by omega
          obtain ⟨ba, oa, ea, hca⟩ := hx.cells m hm
          subst ea
          have ha := hbw.cell (hca m hm)
          clear hca
          have hml : m < xs.length := by rw [HX.out]; exact hm
          have HS := Lib.hid (show decide (withL (withL xs m t) m (nth xs m) = xs) = true from decide_eq_true (withL_back xs m t hml))
          have HQ := Lib.hid (leq_with xs m t hml)
          have hwf := hx.wf_get m
          by_cases hge : nth xs m ≤ t
          · have HQ2 := Lib.hid (HQ.out.trans (decide_eq_true hge))
            go_wp2
            go_region_held3 (fun w' => w'.cell? ⟨ba, oa + m, none⟩ = some (.int .i64 (nth xs m))) (first | go_keep | (exact hb2.cell ‹_›) | (exact hb4.cell ‹_›) | (exact hb5.cell ‹_›)) (first
              | (go_at_call 17; refine (alive3_any _).mono ?_; rintro e w2 ⟨rfl, hb2⟩)
              | (go_at_call 23; have hb3 := hbr.trans (Bl.ofDrew hb2); have hbw3 := hbw.trans (Bl.ofDrew hb2); refine (leq_any _ _ _ _ _ _ xs (withL xs m t) _ (by exact hx.keep hbw3) (by exact hy.keep hb3)).mono ?_; rintro e w3 ⟨rfl, rfl⟩; rw [HQ2.out])
              | (go_at_call 24; refine (with_any _ _ _ (withL xs m t) m (nth xs m) _ (by exact hy.keep hb3) hwf).mono ?_; rintro e w4 ⟨v4, rfl, hf4, hb4⟩; obtain ⟨a4, n4, c4, rfl, hz⟩ := hf4.si)
              | (go_at_call 19; have hbw4 := hbw3.trans hb4; refine (same_any _ _ _ _ _ _ (withL (withL xs m t) m (nth xs m)) xs _ (by exact hz) (by exact hx.keep hbw4)).mono ?_; rintro e w5 ⟨rfl, hb5⟩; rw [HS.out]))
            go_wp2
            go_ret
            exact ⟨rfl, hbw4.trans hb5⟩
          · have HQ2 := Lib.hid (HQ.out.trans (decide_eq_false hge))
            have hgd : decide (nth xs m ≤ t) = false := decide_eq_false hge
            have hlt2 : t < nth xs m := by omega
            clear hge
            go_wp2
            go_region_held3 (fun w' => w'.cell? ⟨ba, oa + m, none⟩ = some (.int .i64 (nth xs m))) (first | go_keep | (exact hb2.cell ‹_›) | (exact hb4.cell ‹_›) | (exact hb5.cell ‹_›)) (first
              | (go_at_call 17; refine (alive3_any _).mono ?_; rintro e w2 ⟨rfl, hb2⟩)
              | (go_at_call 23; have hb3 := hbr.trans (Bl.ofDrew hb2); have hbw3 := hbw.trans (Bl.ofDrew hb2); refine (leq_any _ _ _ _ _ _ xs (withL xs m t) _ (by exact hx.keep hbw3) (by exact hy.keep hb3)).mono ?_; rintro e w3 ⟨rfl, rfl⟩; rw [HQ2.out])
              | (go_at_call 24; refine (with_any _ _ _ (withL xs m t) m (nth xs m) _ (by exact hy.keep hb3) hwf).mono ?_; rintro e w4 ⟨v4, rfl, hf4, hb4⟩; obtain ⟨a4, n4, c4, rfl, hz⟩ := hf4.si)
              | (go_at_call 19; have hbw4 := hbw3.trans hb4; refine (same_any _ _ _ _ _ _ (withL (withL xs m t) m (nth xs m)) xs _ (by exact hz) (by exact hx.keep hbw4)).mono ?_; rintro e w5 ⟨rfl, hb5⟩; rw [HS.out]))
            go_wp2
            go_ret
            exact ⟨rfl, hbw4.trans hb5⟩
        · have hwx : withL xs i t = xs := by
            unfold withL
            split
            · rw [List.set_eq_of_length_le]; have := HX.out; omega
            · rfl
          have HS := Lib.hid (show decide (xs = withL xs i t) = true from decide_eq_true hwx.symm)
          clear hwx
          by_cases h0 : i < 0
          · go_wp2_with fail
            refine (alive3_any _).mono ?_
            rintro e w2 ⟨rfl, hb2⟩
            have hbw2 := hbw.trans hb2
            go_wp2_with fail
            refine (same_any _ _ _ _ _ _ xs (withL xs i t) _ (hx.keep hbw2) (hy.keep (hbr.trans hb2))).mono ?_
            rintro e w3 ⟨rfl, hb3⟩
            rw [HS.out]
            go_wp2
            go_ret
            exact ⟨rfl, hbw2.trans hb3⟩
          · have h1 : (n2 : Int) ≤ i := by omega
            go_wp2_with fail
            refine (alive3_any _).mono ?_
            rintro e w2 ⟨rfl, hb2⟩
            have hbw2 := hbw.trans hb2
            go_wp2_with fail
            refine (same_any _ _ _ _ _ _ xs (withL xs i t) _ (hx.keep hbw2) (hy.keep (hbr.trans hb2))).mono ?_
            rintro e w3 ⟨rfl, hb3⟩
            rw [HS.out]
            go_wp2
            go_ret
            exact ⟨rfl, hbw2.trans hb3⟩
end Go.Proofs.Ytpfpefapdcdkeaa
