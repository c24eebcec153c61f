import Derived.Test.YtkpikmfijcffiaaGreatQTxnWritesUptoP12
import Derived.Test.YtkpikmfijcffiaaGreatQOpGet2
import Derived.Test.YtkpikmfijcffiaaGreatQBase
import Derived.Deep.QuietTactic
import Derived.BigQuiet
import Derived.Test.YtkpikmfijcffiaaGreatQTxnWritesUptoP23
import Derived.Test.YtkpikmfijcffiaaGreatQTxnWritesUptoP11

/- txn: num, want, reader's take and num. By an AI agent. -/
section
set_option linter.unusedVariables false
set_option linter.unusedSimpArgs false
namespace Go.Proofs.YtkpikmfijcffiaaGreat
open Go.RowKit

theorem tnum_any (v : Int) (n : Nat) (w : World) (hv : 0 ≤ v) (hn : 1 ≤ n) (hn1 : n ≤ 7) (hvn : v / 2 ^ (8 * n) = 0) :
    Calls Tryz.prog 99 #[.int .i64 v, .int .i64 n] w fun e w' => e = .returned (.string (strL (numB v n))) ∧ Bl w w' := by
  have H := Lib.hid (fun w => put_any v n w hv hn hn1 hvn)
  go_enter Tryz.func99, Tryz.ntmps99
  go_wp2_with fail
  refine (H.out _).mono ?_
  rintro e w' ⟨rfl, hb⟩
  rw [strL_nums]
  go_wp2_with fail
  go_ret
  exact ⟨rfl, hb⟩
theorem tnum1 (v : Int) (w : World) (h0 : 0 ≤ v) (h1 : v < 256) :
    Calls Tryz.prog 99 #[.int .i64 v, .int .i64 1] w fun e w' => e = .returned (.string (strL (numB v 1))) ∧ Bl w w' :=
  tnum_any v 1 w h0 (by decide) (by decide) (by rw [show (2 : Int) ^ (8 * 1) = 256 by decide]; omega)
theorem tnum2 (v : Int) (w : World) (h0 : 0 ≤ v) (h1 : v < 65536) :
    Calls Tryz.prog 99 #[.int .i64 v, .int .i64 2] w fun e w' => e = .returned (.string (strL (numB v 2))) ∧ Bl w w' :=
  tnum_any v 2 w h0 (by decide) (by decide) (by rw [show (2 : Int) ^ (8 * 2) = 65536 by decide]; omega)
theorem tnum4 (v : Int) (w : World) (h0 : 0 ≤ v) (h1 : v < 4294967296) :
    Calls Tryz.prog 99 #[.int .i64 v, .int .i64 4] w fun e w' => e = .returned (.string (strL (numB v 4))) ∧ Bl w w' :=
  tnum_any v 4 w h0 (by decide) (by decide) (by rw [show (2 : Int) ^ (8 * 4) = 4294967296 by decide]; omega)

theorem tnum6 (v : Int) (w : World) (h0 : 0 ≤ v) (h1 : v < 281474976710656) :
    Calls Tryz.prog 99 #[.int .i64 v, .int .i64 6] w fun e w' => e = .returned (.string (strL (numB v 6))) ∧ Bl w w' :=
  tnum_any v 6 w h0 (by decide) (by decide) (by rw [show (2 : Int) ^ (8 * 6) = 281474976710656 by decide]; omega)
theorem twant_yes (w : World) : Calls Tryz.prog 155 #[.bool true] w fun e w' => e = .returned (.tuple #[]) ∧ w = w' := by
  go_enter Tryz.func155, Tryz.ntmps155
  go_wp2_with fail
  go_end0
  exact ⟨rfl, rfl⟩
theorem twant_no (w : World) : Calls Tryz.prog 155 #[.bool false] w fun e w' => e = panE ∧ w = w' := by
  go_enter Tryz.func155, Tryz.ntmps155
  go_wp2_with fail
  exact ⟨rfl, rfl, rfl⟩
theorem ttake_some (b : Nat) (l : List UInt8) (n : Nat) (w : World) (hc : C1 w b (.string (strL l))) (hn : n ≤ l.length) :
    Calls Tryz.prog 158 #[.pointer (some ⟨b, 0, none⟩), .int .i64 n] w fun e w' => e = .returned (.string (strL (l.take n))) ∧ w' = w.setCell ⟨b, 0, none⟩ (.string (strL (l.drop n))) := by
  have h0 := hc.cell
  have hf := hc.frozen
  have z := strL_size l
  have e1 := strL_take l n
  have e2 := strL_drop l n
  rw [z] at e2
  clear hc
  generalize strL (l.take n) = q1 at *
  generalize strL (l.drop n) = q2 at *
  generalize strL l = s at *
  go_enter Tryz.func158, Tryz.ntmps158
  go_wp2_with fail
  refine (twant_yes _).mono ?_
  rintro e w' ⟨rfl, rfl⟩
  go_wp2_with fail
  go_ret
  exact ⟨rfl, rfl⟩
theorem ttake_none (b : Nat) (l : List UInt8) (n : Nat) (w : World) (hc : C1 w b (.string (strL l))) (hn : l.length < n) :
    Calls Tryz.prog 158 #[.pointer (some ⟨b, 0, none⟩), .int .i64 n] w fun e w' => e = panE ∧ w = w' := by
  have h0 := hc.cell
  have z := strL_size l
  have q : decide (n ≤ l.length) = false := by rw [decide_eq_false_iff_not]; omega
  clear hc
  generalize strL l = s at *
  go_enter Tryz.func158, Tryz.ntmps158
  go_wp2_with fail
  refine (twant_no _).mono ?_
  rintro e w' ⟨rfl, rfl⟩
  unfold panE
  go_wp2_with fail
  exact ⟨rfl, rfl, rfl⟩
theorem ttake_any (b : Nat) (l : List UInt8) (n : Nat) (w : World) (hc : C1 w b (.string (strL l))) :
    Calls Tryz.prog 158 #[.pointer (some ⟨b, 0, none⟩), .int .i64 n] w fun e w' =>
      (∃ t r, rdTake n l = some (t, r) ∧ e = .returned (.string (strL t)) ∧ w' = w.setCell ⟨b, 0, none⟩ (.string (strL r))) ∨ (rdTake n l = none ∧ e = panE ∧ w = w') := by
  unfold rdTake
  by_cases hn : n ≤ l.length
  · rw [if_pos hn]
    refine (ttake_some b l n w hc hn).mono ?_
    rintro e w' ⟨rfl, rfl⟩
    exact .inl ⟨_, _, rfl, rfl, rfl⟩
  · rw [if_neg hn]
    refine (ttake_none b l n w hc (by omega)).mono ?_
    rintro e w' ⟨rfl, rfl⟩
    exact .inr ⟨rfl, rfl, rfl⟩
theorem tnumR_some (b : Nat) (l : List UInt8) (n : Nat) (w : World) (hc : C1 w b (.string (strL l))) (hn : n ≤ l.length) (h1 : 1 ≤ n) (h7 : n ≤ 7) :
    Calls Tryz.prog 156 #[.pointer (some ⟨b, 0, none⟩), .int .i64 n] w fun e w' => e = .returned (.int .i64 (getN (l.take n))) ∧ w' = w.setCell ⟨b, 0, none⟩ (.string (strL (l.drop n))) := by
  have HG := Lib.hid (fun w => getL_any (l.take n) w (by rw [List.length_take]; omega) (by rw [List.length_take]; omega))
  go_enter Tryz.func156, Tryz.ntmps156
  go_wp2_with fail
  refine (ttake_some b l n _ hc hn).mono ?_
  rintro e w1 ⟨rfl, rfl⟩
  go_wp2_with fail
  refine (HG.out _).mono ?_
  rintro e w1 ⟨rfl, rfl⟩
  go_wp2_with fail
  go_ret
  exact ⟨rfl, rfl⟩
theorem tnumR_none (b : Nat) (l : List UInt8) (n : Nat) (w : World) (hc : C1 w b (.string (strL l))) (hn : l.length < n) :
    Calls Tryz.prog 156 #[.pointer (some ⟨b, 0, none⟩), .int .i64 n] w fun e w' => e = panE ∧ w = w' := by
  go_enter Tryz.func156, Tryz.ntmps156
  go_wp2_with fail
  refine (ttake_none b l n _ hc hn).mono ?_
  rintro e w1 ⟨rfl, rfl⟩
  unfold panE
  go_wp2_with fail
  exact ⟨rfl, rfl, rfl⟩
theorem tnumR_any (b : Nat) (l : List UInt8) (n : Nat) (w : World) (hc : C1 w b (.string (strL l))) (h1 : 1 ≤ n) (h7 : n ≤ 7) :
    Calls Tryz.prog 156 #[.pointer (some ⟨b, 0, none⟩), .int .i64 n] w fun e w' =>
      (∃ v r, rdNum n l = some (v, r) ∧ e = .returned (.int .i64 v) ∧ w' = w.setCell ⟨b, 0, none⟩ (.string (strL r))) ∨ (rdNum n l = none ∧ e = panE ∧ w = w') := by
  unfold rdNum
  by_cases hn : n ≤ l.length
  · rw [if_pos hn]
    refine (tnumR_some b l n w hc hn h1 h7).mono ?_
    rintro e w' ⟨rfl, rfl⟩
    exact .inl ⟨_, _, rfl, rfl, rfl⟩
  · rw [if_neg hn]
    refine (tnumR_none b l n w hc (by omega)).mono ?_
    rintro e w' ⟨rfl, rfl⟩
    exact .inr ⟨rfl, rfl, rfl⟩
end Go.Proofs.YtkpikmfijcffiaaGreat
end

/- parts of other texts. By an AI agent. -/
section
set_option linter.unusedVariables false
set_option linter.unusedSimpArgs false
namespace Go.Proofs.YtkpikmfijcffiaaGreat
open Go.RowKit

set_option maxHeartbeats 400000 in
theorem equal_any (a b : Option Addr) (n m ca cb : Nat) (xs ys : List Int) (w : World) (hx : IA w a n xs) (hy : IA w b m ys) :
    Calls Tryz.prog 163 #[.slice a n ca, .slice b m cb] w fun e w' => e = .returned (.bool (decide (xs = ys))) ∧ Bl w w' := by
  have hx1 := hx.cap
  have hy1 := hy.cap
  by_cases hl : n = m
  · subst hl
    have HLL := Lib.hid (hx.len.trans hy.len.symm)
    have HX := Lib.hid hx.len
    have h2 : ((n : Int) != (n : Int)) = false := by simp
    go_enter Tryz.func163, Tryz.ntmps163
    go_wp2
    go_loopw [13] (fun i w' => ∃ k : Nat, k ≤ n ∧ i = .int .i64 k ∧ Bl w w' ∧ ∀ j, j < k → nth xs j = nth ys j) (fun i _ => n - (intOf i).toNat)
    case atStart => exact ⟨0, Nat.zero_le _, rfl, Bl.refl _, fun j h => by omega⟩
    case round =>
      obtain ⟨k, hk, rfl, hbl, hle⟩ := hrel
      have HLE := Lib.hid hle; clear hle
      by_cases hlt : k < n
      · obtain ⟨ba, oa, rfl, hca⟩ := hx.cells k hlt
        obtain ⟨bb, ob, rfl, hcb⟩ := hy.cells k hlt
        have ha := hbl.cell (hca k hlt)
        have hb := hbl.cell (hcb k hlt)
        clear hca hcb
        by_cases hgt : nth xs k = nth ys k
        · have hbo : (nth xs k != nth ys k) = false := by simp [hgt]
          have HE := Lib.hid hgt; clear hgt
          go_wp2
          go_quiet (fail)
          go_wp2
          go_roundw
          case rel => exact ⟨k + 1, by omega, by go_num, hbl.drewN _, fun j hj => by
            by_cases e : j = k
            · subst e; exact HE.out
            · exact HLE.out j (by omega)⟩
          case measure => simp [intOf]; omega
        · have hbo : (nth xs k != nth ys k) = true := by simp [hgt]
          have HR := Lib.hid (show decide (xs = ys) = false from decide_eq_false (fun e => hgt (by rw [e])))
          clear hgt
          go_wp2
          go_quiet (fail)
          go_wp2
          go_ret
          exact ⟨ret_bool HR.out.symm, hbl.drewN _⟩
      · have HR := Lib.hid (show decide (xs = ys) = true from decide_eq_true (getD_ext HLL.out (fun j hj => HLE.out j (by rw [HX.out] at hj; omega))))
        go_wp2
        go_ret
        exact ⟨ret_bool HR.out.symm, hbl⟩
  · have h2 : ((n : Int) != (m : Int)) = true := by simp; omega
    have HR := Lib.hid (show decide (xs = ys) = false from decide_eq_false (fun e => hl (by rw [← hx.len, ← hy.len, e])))
    go_enter Tryz.func163, Tryz.ntmps163
    go_wp2
    go_ret
    exact ⟨ret_bool HR.out.symm, Bl.refl _⟩
theorem same_any (a b : Option Addr) (n m ca cb : Nat) (xs ys : List Int) (w : World) (hx : IA w a n xs) (hy : IA w b m ys) :
    Calls Tryz.prog 106 #[.slice a n ca, .slice b m cb] w fun e w' => e = .returned (.bool (decide (xs = ys))) ∧ Bl w w' := by
  go_enter Tryz.func106, Tryz.ntmps106
  go_wp2_with fail
  refine (equal_any a b n m ca cb xs ys _ hx hy).mono ?_
  rintro e w' ⟨rfl, hb⟩
  go_wp2
  go_ret
  exact ⟨rfl, hb⟩
end Go.Proofs.YtkpikmfijcffiaaGreat
end

/- vec.With. By an AI agent. -/
section
set_option linter.unusedVariables false
set_option linter.unusedSimpArgs false
namespace Go.Proofs.YtkpikmfijcffiaaGreat
open Go.RowKit

set_option maxHeartbeats 400000 in
theorem with_any (a : Option Addr) (n ca : Nat) (xs : List Int) (i t : Int) (w : World) (hx : IA w a n xs) (ht : -9223372036854775808 ≤ t ∧ t ≤ 9223372036854775807) :
    Calls Tryz.prog 107 #[.slice a n ca, .int .i64 i, .int .i64 t] w fun e w' => ∃ v, e = .returned v ∧ FI w.heap.size w' v (withL xs i t) ∧ Bl w w' := by
  have HX := Lib.hid hx.len
  by_cases hin : 0 ≤ i ∧ i < n
  · obtain ⟨h0, h1⟩ := hin
    obtain ⟨k, rfl⟩ := Int.eq_ofNat_of_zero_le h0
    have hkn : k < n := by omega
    go_enter Tryz.func107, Tryz.ntmps107
    go_wp2_with fail
    refine (vclone_any a n ca xs w hx).mono ?_
    rintro e w' ⟨v, rfl, hf, hb⟩
    have hn0 := hf.own.1
    obtain ⟨h1', ⟨rfl, h2⟩ | ⟨g, cap, cur, rfl, hB, hg, hn, hm, hs, htk⟩⟩ := hf.own
    · exfalso; have := HX.out; omega
    · have hown : w'.ownsRow w.heap.size 3 1 (.slice (some ⟨g, 0, none⟩) xs.length cap) xs.length (xs.map (Value.int .i64)) := ⟨h1', .inr ⟨g, cap, cur, rfl, hB, hg, hn, hm, hs, htk⟩⟩
      have hst := hown.stored k (.int .i64 t)
      have hc : w'.cell? ⟨g, k, none⟩ = some (.int .i64 (nth xs k)) := by
        rw [hown.cellAt k (by rw [HX.out]; omega)]
        have : k < xs.length := by rw [HX.out]; exact hkn
        simp [nth_eq this, this]
      have hfz : w'.frozen? ⟨g, k, none⟩ = false := hown.frozenAt k
      have hkx : k < xs.length := by rw [HX.out]; exact hkn
      have hnm : xs.length ≤ 9223372036854775807 := by have := hf.cap; omega
      have HST := Lib.hid hst
      have HF := Lib.hid hf
      clear hst hown htk hs hg h1' hf hn0
      go_wp2
      go_ret
      refine ⟨_, rfl, ⟨?_, ?_, ?_⟩, hb.grown HST.out.2 hb.size (fun k hk => by cases hk; exact hB)⟩
      · have := HST.out.1
        simpa [OI, withL, List.map_set] using this
      · rw [withL_len]; exact HF.out.cap
      · intro x hx
        unfold withL at hx
        rw [if_pos h0] at hx
        rcases List.mem_or_eq_of_mem_set hx with h | h
        · exact HF.out.wf x h
        · rw [h]; exact ht
  · have hw : withL xs i t = xs := by
      unfold withL
      split
      · rw [List.set_eq_of_length_le]; have := HX.out; omega
      · rfl
    have HW := Lib.hid hw; clear hw
    by_cases h0 : 0 ≤ i
    · have h1 : ¬ i < n := fun h => hin ⟨h0, h⟩
      clear hin
      go_enter Tryz.func107, Tryz.ntmps107
      go_wp2_with fail
      refine (vclone_any a n ca xs w hx).mono ?_
      rintro e w' ⟨v, rfl, hf, hb⟩
      obtain ⟨a', n', cap', rfl, hI⟩ := hf.si
      have hnn : n' = n := hI.len.symm.trans HX.out
      subst hnn
      go_wp2
      go_ret
      exact ⟨_, rfl, by rw [HW.out]; exact hf, hb⟩
    · clear hin
      go_enter Tryz.func107, Tryz.ntmps107
      go_wp2_with fail
      refine (vclone_any a n ca xs w hx).mono ?_
      rintro e w' ⟨v, rfl, hf, hb⟩
      obtain ⟨a', n', cap', rfl, hI⟩ := hf.si
      go_wp2
      go_ret
      exact ⟨_, rfl, by rw [HW.out]; exact hf, hb⟩
end Go.Proofs.YtkpikmfijcffiaaGreat
end
