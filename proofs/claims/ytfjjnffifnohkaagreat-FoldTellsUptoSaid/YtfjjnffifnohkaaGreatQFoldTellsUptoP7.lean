import Derived.Test.YtfjjnffifnohkaaGreatQFoldTellsUptoP1
import Derived.Deep.QuietTactic
import Derived.BigQuiet
import Derived.Test.YtfjjnffifnohkaaGreatQFoldTellsUptoP6

/- bedrockref3: Leq, Same, Valid. By an AI agent. -/
section
namespace Go.Proofs.YtfjjnffifnohkaaGreat
open Go.RowKit

set_option maxHeartbeats 400000 in
theorem rleq_any (a b : Option Addr) (n m ca cb : Nat) (xs ys : List Int) (w : World) (hx : IA w a n xs) (hy : IA w b m ys) :
    Calls Tryz.prog 38 #[.slice a n ca, .slice b m cb] w fun e w' => e = .returned (.bool (leqL xs ys)) ∧ Bl w w' := by
  have hx1 := hx.cap
  have hy1 := hy.cap
  by_cases hl : n = m
  · subst hl
    have HLL := Lib.hid (hx.len.trans hy.len.symm)
    have HX := Lib.hid hx.len
    have h2 : ((n : Int) != (n : Int)) = false := by simp
    go_enter Tryz.func38, Tryz.ntmps38
    go_wp2
    go_loopw [5] (fun i wr => ∃ k : Nat, k ≤ n ∧ i = .int .i64 k ∧ Bl w wr ∧ ∀ j, j < k → nth xs j ≤ nth ys j) (fun i _ => n - (intOf i).toNat)
    case atStart => exact ⟨0, Nat.zero_le _, rfl, Bl.refl _, fun j h => by omega⟩
    case round =>
      obtain ⟨k, hk, rfl, hbl, hle⟩ := hrel
      have HLE := Lib.hid hle; clear hle
      by_cases hlt : k < n
      · obtain ⟨ba, oa, rfl, hca⟩ := hx.cells k hlt
        obtain ⟨bb, ob, rfl, hcb⟩ := hy.cells k hlt
        have ha := hbl.cell (hca k hlt)
        have hb := hbl.cell (hcb k hlt)
        clear hca hcb
        by_cases hgt : nth ys k < nth xs k
        · have HR := Lib.hid (leqL_false HLL.out (by rw [HX.out]; exact hlt) hgt)
          go_wp2
          go_quiet (fail)
          go_wp2
          go_ret
          exact ⟨ret_bool HR.out.symm, hbl.drewN _⟩
        · go_wp2
          go_quiet (fail)
          go_wp2
          go_roundw
          case rel => exact ⟨k + 1, by omega, by go_num, hbl.drewN _, fun j hj => by
            by_cases e : j = k
            · subst e; omega
            · exact HLE.out j (by omega)⟩
          case measure => simp [intOf]; omega
      · have HR := Lib.hid ((leqL_iff HLL.out).2 (fun j hj => HLE.out j (by rw [HX.out] at hj; omega)))
        go_wp2
        go_ret
        exact ⟨ret_bool HR.out.symm, hbl⟩
  · have h2 : ((n : Int) != (m : Int)) = true := by simp; omega
    have HR := Lib.hid (leqL_len (xs := xs) (ys := ys) (by rw [hx.len, hy.len]; exact hl))
    go_enter Tryz.func38, Tryz.ntmps38
    go_wp2
    go_ret
    exact ⟨ret_bool HR.out.symm, Bl.refl _⟩

theorem leq_both (xs ys : List Int) : (leqL xs ys && leqL ys xs) = decide (xs = ys) := by
  by_cases hl : xs.length = ys.length
  · rw [Bool.eq_iff_iff, Bool.and_eq_true, decide_eq_true_eq, leqL_iff hl, leqL_iff hl.symm]
    constructor
    · rintro ⟨h1, h2⟩
      exact getD_ext hl fun j hj => Int.le_antisymm (h1 j hj) (h2 j (by omega))
    · rintro rfl
      exact ⟨fun _ _ => Int.le_refl _, fun _ _ => Int.le_refl _⟩
  · rw [leqL_len hl, decide_eq_false (fun e => hl (by rw [e]))]; rfl

theorem rsame_any (a b : Option Addr) (n m ca cb : Nat) (xs ys : List Int) (w : World) (hx : IA w a n xs) (hy : IA w b m ys) :
    Calls Tryz.prog 50 #[.slice a n ca, .slice b m cb] w fun e w' => e = .returned (.bool (decide (xs = ys))) ∧ Bl w w' := by
  have HB := Lib.hid (leq_both xs ys)
  cases h1 : leqL xs ys
  · have HQ := Lib.hid h1
    go_enter Tryz.func50, Tryz.ntmps50
    go_wp2_with fail
    refine (rleq_any a b n m ca cb xs ys _ hx hy).mono ?_
    rintro e w1 ⟨rfl, hb1⟩
    rw [h1]
    clear h1
    go_wp2_with fail
    go_ret
    exact ⟨ret_bool (by rw [← HB.out, HQ.out]; rfl), hb1⟩
  · have HQ := Lib.hid h1
    go_enter Tryz.func50, Tryz.ntmps50
    go_wp2_with fail
    refine (rleq_any a b n m ca cb xs ys _ hx hy).mono ?_
    rintro e w1 ⟨rfl, hb1⟩
    rw [h1]
    clear h1
    go_wp2_with fail
    refine (rleq_any b a m n cb ca ys xs _ (hy.keep hb1) (hx.keep hb1)).mono ?_
    rintro e w2 ⟨rfl, hb2⟩
    go_wp2_with fail
    go_ret
    exact ⟨ret_bool (by rw [← HB.out, HQ.out]; rfl), hb1.trans hb2⟩
end Go.Proofs.YtfjjnffifnohkaaGreat
end

/- bedrockref5.Time. By an AI agent. -/
section
namespace Go.Proofs.YtfjjnffifnohkaaGreat
open Go.RowKit

def runL (xs : List Int) (k : Nat) : Int := maxL (xs.take k)
theorem runL_one {xs : List Int} (h : 0 < xs.length) : runL xs 1 = nth xs 0 := by
  cases xs with
  | nil => simp at h
  | cons a l => simp [runL, maxL, nth]
theorem runL_succ {xs : List Int} {k : Nat} (h0 : k ≠ 0) (h : k < xs.length) : runL xs (k + 1) = max (runL xs k) (nth xs k) := by
  unfold runL
  rw [List.take_succ_eq_append_getElem h, ← nth_eq h]
  cases xs with
  | nil => simp at h
  | cons a l =>
    obtain ⟨j, rfl⟩ : ∃ j, k = j + 1 := ⟨k - 1, by omega⟩
    simp [maxL, List.foldl_append]
theorem runL_all (xs : List Int) : runL xs xs.length = maxL xs := by unfold runL; rw [List.take_length]

set_option maxHeartbeats 1600000 in
set_option maxRecDepth 100000 in
theorem rtime_any (V : VerL) (a : Option Addr) (n ca : Nat) (T : Int) (w : World) (hx : IA w a n V.at_) (HT : Hid (timeL V = T)) :
    Calls Tryz.prog 40 #[.agg #[.string V.key, .slice a n ca, .int .i64 V.origin, .int .i64 V.tx, .int .i64 V.act.k, .float .f64 V.act.x, .int .i64 V.act.n, .string V.act.s]] w fun e w' => e = .returned (.int .i64 T) ∧ Bl w w' := by
  obtain ⟨key, xs, o, t, k0, x0, m0, s0⟩ := V
  dsimp only at hx ⊢
  have HX := Lib.hid hx.len
  have hcap := hx.cap
  have hbl := (Bl.refl w).alloc (.cells #[.string key, .slice a n ca, .int .i64 o, .int .i64 t, .int .i64 k0, .float .f64 x0, .int .i64 m0, .string s0] 59)
  have hA := ver_box w key a n ca o t k0 x0 m0 s0
  have hE : (if o = 254 ∧ 0 < n then maxL xs else if 0 ≤ o ∧ o < (n : Int) then nth xs o.toNat else 0) = T := by
    have := HT.out
    unfold timeL at this
    simp only [HX.out] at this
    exact this
  clear HT
  by_cases h1 : o = 254
  · subst h1
    have hE2 : (if n = 0 then 0 else maxL xs) = T := by
      rw [← hE]
      by_cases h0 : n = 0
      · rw [if_pos h0, if_neg (by omega), if_neg (by omega)]
      · rw [if_neg h0, if_pos ⟨rfl, by omega⟩]
    have HE := Lib.hid hE2
    clear hE hE2
    go_enter Tryz.func40, Tryz.ntmps40
    go_wp2_with fail
    go_loopw [3, 4] (fun v i wr => ∃ (k : Nat) (y : Int), k ≤ n ∧ i = .int .i64 k ∧ v = .int .i64 y ∧ Bl w wr ∧ AC wr w.heap.size (verC key a n ca 254 t k0 x0 m0 s0) ∧ Hid (y = if k = 0 then 0 else runL xs k)) (fun _ i _ => n - (intOf i).toNat)
    case atStart => exact ⟨0, 0, Nat.zero_le _, rfl, rfl, hbl, hA, Lib.hid rfl⟩
    case round =>
      clear hbl hA
      obtain ⟨k, y, hk, rfl, rfl, hb, hA, HY⟩ := hrel
      have d1 := hA.ver.2.1
      by_cases hlt : k < n
      · obtain ⟨ba, oa, rfl, hck⟩ := (hx.keep hb).at_k k hlt
        have hk2 : k < xs.length := by rw [HX.out]; exact hlt
        by_cases hz : k = 0
        · subst hz
          have HR := Lib.hid (runL_one hk2)
          rw [Nat.add_zero] at hck
          go_wp2_with fail
          go_roundw
          case rel => exact ⟨1, _, by omega, by go_num, rfl, hb, hA, Lib.hid (by rw [if_neg (by omega), HR.out])⟩
          case measure => simp [intOf]; omega
        · have HR := Lib.hid (runL_succ hz hk2)
          have HY2 : Hid (y = runL xs k) := Lib.hid (by rw [HY.out, if_neg hz])
          have q0 : ((k : Int) == 0) = false := by rw [beq_eq_false_iff_ne]; omega
          by_cases hgt : y < nth xs k
          · go_wp2_with fail
            go_roundw
            case rel => exact ⟨k + 1, _, by omega, by go_num, rfl, hb, hA, Lib.hid (by rw [if_neg (by omega), HR.out, ← HY2.out]; omega)⟩
            case measure => simp [intOf]; omega
          · go_wp2_with fail
            go_roundw
            case rel => exact ⟨k + 1, _, by omega, by go_num, rfl, hb, hA, Lib.hid (by rw [if_neg (by omega), HR.out, ← HY2.out]; omega)⟩
            case measure => simp [intOf]; omega
      · obtain rfl : k = n := by omega
        go_wp2_with fail
        go_ret
        exact ⟨ret_int (by rw [HY.out, ← HE.out]; split; rfl; rw [← runL_all, HX.out]), hb⟩
  · have q : (o == 254) = false := by rw [beq_eq_false_iff_ne]; exact h1
    rw [if_neg (by omega)] at hE
    by_cases h2 : 0 ≤ o ∧ o < (n : Int)
    · rw [if_pos h2] at hE
      subst hE
      obtain ⟨j, rfl⟩ : ∃ j : Nat, o = j := ⟨o.toNat, by omega⟩
      have hj : j < n := by omega
      obtain ⟨ba, oa, rfl, hcj⟩ := (hx.keep hbl).at_k j hj
      have h3 : (j : Int) < (n : Int) := by omega
      clear h1 h2
      go_enter Tryz.func40, Tryz.ntmps40
      go_wp2_with fail
      go_ret
      exact ⟨rfl, hbl⟩
    · rw [if_neg h2] at hE
      subst hE
      by_cases h3 : o < 0
      · clear h1 h2
        go_enter Tryz.func40, Tryz.ntmps40
        go_wp2_with fail
        go_ret
        exact ⟨rfl, hbl⟩
      · have h4 : (n : Int) ≤ o := by omega
        clear h1 h2
        go_enter Tryz.func40, Tryz.ntmps40
        go_wp2_with fail
        go_ret
        exact ⟨rfl, hbl⟩
end Go.Proofs.YtfjjnffifnohkaaGreat
end
