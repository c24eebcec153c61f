import Derived.Test.YtkgpkkdcadkpmaaGreatDoorQIkeyTellsUptoP3
import Derived.Test.YtkgpkkdcadkpmaaGreatDoorQIkeyTellsUptoP11
import Derived.Test.YtkgpkkdcadkpmaaGreatDoorQIkeyTellsUptoP9
import Derived.Deep.Cut

/- bedrockref5.Head. By an AI agent. -/
section
set_option linter.unusedVariables false
set_option linter.unusedSimpArgs false
namespace Go.Proofs.YtkgpkkdcadkpmaaGreatDoor
open Go.RowKit

theorem repL_takeS (s : ByteArray) {k : Nat} (h : k < s.size) : repL (s.data.toList.take (k + 1)) = repL (s.data.toList.take k) ++ repC s[k] := by
  have hl : k < s.data.toList.length := by simpa using h
  rw [List.take_succ_eq_append_getElem hl, repL_append]
  congr 1
  simp [repL]
  rfl
theorem repL_take_len (l : List UInt8) (k : Nat) : (repL (l.take k)).length ≤ 2 * k := by
  have := repL_len (l.take k)
  have := List.length_take_le k l
  omega
set_option maxHeartbeats 1600000 in
set_option maxRecDepth 100000 in
theorem rhead_any (s : ByteArray) (w : World) (hs : s.size ≤ 1000000) :
    Calls Tryz.prog 17 #[.string s] w fun e w' => e = .returned (.string ⟨(headL s.data.toList).toArray⟩) ∧ Bl w w' := by
  obtain ⟨i0, hi, hz0, hz1, hz2⟩ := info_parts info_byte
  go_enter Tryz.func17, Tryz.ntmps17
  go_wp2_with fail
  go_loopw [3, 4] (fun v i wr => ∃ (k : Nat) (xs : List Int), k ≤ s.size ∧ i = .int .i64 k ∧ Bl w wr ∧ OB w.heap.size wr v xs ∧ xs = numsB (repL (s.data.toList.take k))) (fun _ i _ => s.size - (intOf i).toNat)
  case atStart => exact ⟨0, _, Nat.zero_le _, rfl, Bl.refl _, OB.nil _ _, rfl⟩
  case round =>
    obtain ⟨k, xs, hk, rfl, hbl, hown, hx⟩ := hrel
    have hxl : xs.length ≤ 2000000 := by
      rw [hx, numsB_len]
      have := repL_take_len s.data.toList k
      omega
    have HX := Lib.hid hx
    clear hx
    have hsz := hbl.size
    by_cases hlt : k < s.size
    · have HT := Lib.hid (repL_takeS s hlt)
      have hc8 : s[k].toNat < 256 := UInt8.toNat_lt s[k]
      go_wp2_with (at_builtin; refine wpList_append_own _ rfl _ _ 66 rfl (w.heap.size) 5 i0 (.int .u8 0) 1 1 Tryz.underlying66 hi hz0 hz1 hz2 rfl (by decide) _ _ _ rfl (World.ownsRow.alloc hown _) ⟨wr.heap.size, 0, none⟩ 1 1 (([(s[k].toNat : Int)] : List Int).map (Value.int .u8)) rfl rfl ?c1 ?c2 ?c3 ?c4 ?c5 ?_)
      case c1 => exact World.news_of_block (heap_alloc_new _ _)
      case c2 => intro u hu; simp at hu; rcases hu with rfl <;> rfl
      case c3 => unfold maxLen; omega
      case c4 => omega
      case c5 => simp; omega
      intro v' w3 hown' hgrow _
      obtain ⟨R1, R2⟩ := OB.pushL (ys := [(s[k].toNat : Int)]) hbl hsz hown hown' hgrow
      clear hown hown' hgrow
      by_cases h0 : s[k].toNat = 0
      · have HQ : Hid (numsB (repC s[k]) = [(s[k].toNat : Int), 255]) := Lib.hid (by
          have e : s[k] = 0 := UInt8.toNat_inj.1 h0
          rw [e]; rfl)
        have hl3 : (xs ++ [(s[k].toNat : Int)]).length ≤ 2000001 := by simp; omega
        have hsz3 := R2.size
        generalize hys : xs ++ [(s[k].toNat : Int)] = ys at *
        have HYS := Lib.hid hys
        clear hys
        have q1 : (s[k].toNat : Int) = 0 := by omega
        clear h0 hc8
        go_wp2_with (at_builtin; refine wpList_append_own _ rfl _ _ 66 rfl (w.heap.size) 5 i0 (.int .u8 0) 1 1 Tryz.underlying66 hi hz0 hz1 hz2 rfl (by decide) _ _ _ rfl (World.ownsRow.alloc R1 _) ⟨w3.heap.size, 0, none⟩ 1 1 (([255] : List Int).map (Value.int .u8)) rfl rfl ?c1 ?c2 ?c3 ?c4 ?c5 ?_)
        case c1 => exact World.news_of_block (heap_alloc_new _ _)
        case c2 => intro u hu; simp at hu; rcases hu with rfl <;> rfl
        case c3 => unfold maxLen; omega
        case c4 => omega
        case c5 => simp; omega
        intro v2 w4 hown' hgrow _
        obtain ⟨S1, S2⟩ := OB.pushL (ys := [255]) R2 hsz3 R1 hown' hgrow
        clear hown' hgrow R1 R2
        go_wp2
        go_roundw
        case rel => exact ⟨k + 1, _, by omega, by go_num, S2, S1, by rw [← HYS.out, HX.out, HT.out, numsB_append, HQ.out, List.append_assoc]; rfl⟩
        case measure => simp [intOf]; omega
      · have HQ : Hid (numsB (repC s[k]) = [(s[k].toNat : Int)]) := Lib.hid (by
          have e : s[k] ≠ 0 := fun e => h0 (by rw [e]; rfl)
          unfold repC
          rw [if_neg e]; rfl)
        have q1 : ((s[k].toNat : Int) == 0) = false := by simp; omega
        clear h0 hc8
        go_wp2
        go_roundw
        case rel => exact ⟨k + 1, _, by omega, by go_num, R2, R1, by rw [HX.out, HT.out, numsB_append, HQ.out]⟩
        case measure => simp [intOf]; omega
    · have HE := Lib.hid (show s.data.toList.take k = s.data.toList from List.take_of_length_le (by simp; omega))
      go_wp2_with (at_builtin; refine wpList_append_own _ rfl _ _ 66 rfl (w.heap.size) 5 i0 (.int .u8 0) 1 1 Tryz.underlying66 hi hz0 hz1 hz2 rfl (by decide) _ _ _ rfl (World.ownsRow.alloc hown _) ⟨wr.heap.size, 0, none⟩ 2 2 (([0, 1] : List Int).map (Value.int .u8)) rfl rfl ?c1 ?c2 ?c3 ?c4 ?c5 ?_)
      case c1 => exact World.news_of_block (heap_alloc_new _ _)
      case c2 => intro u hu; simp at hu; rcases hu with rfl | rfl <;> rfl
      case c3 => unfold maxLen; omega
      case c4 => omega
      case c5 => simp; omega
      intro v' w3 hown' hgrow _
      obtain ⟨R1, R2⟩ := OB.pushL (ys := [0, 1]) hbl hsz hown hown' hgrow
      clear hown hown' hgrow
      have hne : ∃ g cap, v' = .slice (some ⟨g, 0, none⟩) (xs.length + 2) cap := by
        obtain ⟨h1, ⟨rfl, h2⟩ | ⟨g, cap, cur, rfl, _⟩⟩ := R1
        · simp at h2
        · exact ⟨g, cap, by simp⟩
      obtain ⟨g, cap, rfl⟩ := hne
      have hst := OB.string R1 (by simp)
      go_wp2
      go_ret
      refine ⟨?_, R2⟩
      rw [HX.out, HE.out, show ([0, 1] : List Int) = numsB [0, 1] from rfl, ← numsB_append, str_numsB]
      rfl
end Go.Proofs.YtkgpkkdcadkpmaaGreatDoor
end

/- bedrockref2.isNan, key, Compare, Same. By an AI agent. -/
section
namespace Go.Proofs.YtkgpkkdcadkpmaaGreatDoor
open Go.RowKit

theorem ret_pairC {a b c d : Int} (h : a = b) (k : c = d) : Ending.returned (.tuple #[.int .i64 a, .int .i64 c]) = Ending.returned (.tuple #[.int .i64 b, .int .i64 d]) := by rw [h, k]
def keyH (x : Nat) : Nat := fkey x / 4294967296
def keyL (x : Nat) : Nat := fkey x % 4294967296
theorem key_nan {x : Nat} (h : nanB x = true) : keyH x = 0 ∧ keyL x = 0 := by
  have : fkey x = 0 := by unfold fkey; rw [h]; rfl
  unfold keyH keyL; rw [this]; exact ⟨rfl, rfl⟩
theorem key_neg {x : Nat} (h : nanB x = false) (hx : x < two64) (k : 2147483648 ≤ x / 4294967296) : keyH x = 4294967295 - x / 4294967296 ∧ keyL x = 4294967295 - x % 4294967296 := by
  have e := fkey_num h
  unfold two63 at e
  rw [if_pos (by omega)] at e
  unfold keyH keyL
  rw [e]
  unfold two64 at *
  omega
theorem half_pos {x : Nat} (h : nanB x = false) (k : ¬ 2147483648 ≤ x / 4294967296) : keyH x = x / 4294967296 + 2147483648 ∧ keyL x = x % 4294967296 := by
  have e := fkey_num h
  unfold two63 at e
  rw [if_neg (by omega)] at e
  unfold keyH keyL
  rw [e]
  omega
theorem key_order (x y : Nat) : cmpN (fkey x) (fkey y) = if keyH x < keyH y ∨ (keyH x = keyH y ∧ keyL x < keyL y) then -1 else if keyH y < keyH x ∨ keyL y < keyL x then 1 else 0 := by
  have h1 : fkey x < fkey y ↔ (keyH x < keyH y ∨ (keyH x = keyH y ∧ keyL x < keyL y)) := by unfold keyH keyL; omega
  have h2 : ¬ fkey x < fkey y → (fkey y < fkey x ↔ (keyH y < keyH x ∨ keyL y < keyL x)) := by unfold keyH keyL; omega
  unfold cmpN
  by_cases h : fkey x < fkey y
  · rw [if_pos h, if_pos (h1.1 h)]
  · rw [if_neg h, if_neg (fun k => h (h1.2 k))]
    by_cases h3 : fkey y < fkey x
    · rw [if_pos h3, if_pos ((h2 h).1 h3)]
    · rw [if_neg h3, if_neg (fun k => h3 ((h2 h).2 k))]

/-- eight bytes in two halves -/
theorem refNan_any (x : Nat) (w : World) (hx : x < two64) : Calls Tryz.prog 167 #[.float .f64 x] w fun e w' => e = .returned (.bool (nanB x)) ∧ w = w' := by
  have q : (FloatKind.f64.format.order x x != some .eq) = nanB x := self_nan hx
  cases hn : nanB x
  · rw [hn] at q
    go_enter Tryz.func167, Tryz.ntmps167
    go_wp2_with fail
    go_ret
    exact ⟨rfl, rfl⟩
  · rw [hn] at q
    go_enter Tryz.func167, Tryz.ntmps167
    go_wp2_with fail
    go_ret
    exact ⟨rfl, rfl⟩

set_option maxHeartbeats 800000 in
set_option maxRecDepth 100000 in
theorem refKey_any (x : Nat) (w : World) (hx : x < two64) :
    Calls Tryz.prog 160 #[.float .f64 x] w fun e w' => e = .returned (.tuple #[.int .i64 (keyH x), .int .i64 (keyL x)]) ∧ w = w' := by
  have hrb := run_bits x
  obtain ⟨H, hH⟩ : ∃ H : Nat, x / 4294967296 = H := ⟨_, rfl⟩
  obtain ⟨L, hL⟩ : ∃ L : Nat, x % 4294967296 = L := ⟨_, rfl⟩
  have eH := Lib.hid (show (x : Int) / 4294967296 = (H : Int) by omega)
  have eL := Lib.hid (show (x : Int) % 4294967296 = (L : Int) by omega)
  have bH : H < 4294967296 := by unfold two64 at hx; omega
  have bL : L < 4294967296 := by omega
  cases hn : nanB x
  · have hx2 : x < 18446744073709551616 := hx
    by_cases k : 2147483648 ≤ H
    · have HK := Lib.hid (key_neg hn hx (by rw [hH]; exact k))
      rw [hH, hL] at HK
      clear hH hL
      have q : decide ((2147483648 : Int) ≤ (H : Int)) = true := by simp; omega
      go_enter Tryz.func160, Tryz.ntmps160
      go_wp2_with fail
      refine (refNan_any x _ hx).mono ?_
      rintro e w1 ⟨rfl, rfl⟩
      rw [hn]
      go_upto_region 5 with fail
      rw [eH.out, eL.out]
      go_wp2_with fail
      go_ret2
      exact ⟨ret_pairC (by rw [HK.out.1]; omega) (by rw [HK.out.2]; omega), rfl⟩
    · have HK := Lib.hid (half_pos hn (by rw [hH]; exact k))
      rw [hH, hL] at HK
      clear hH hL
      have q : decide ((2147483648 : Int) ≤ (H : Int)) = false := by simp; omega
      go_enter Tryz.func160, Tryz.ntmps160
      go_wp2_with fail
      refine (refNan_any x _ hx).mono ?_
      rintro e w1 ⟨rfl, rfl⟩
      rw [hn]
      go_upto_region 5 with fail
      rw [eH.out, eL.out]
      go_wp2_with fail
      go_ret2
      exact ⟨ret_pairC (by rw [HK.out.1]; omega) (by rw [HK.out.2]), rfl⟩
  · have HK := Lib.hid (key_nan hn)
    clear hH hL bH bL
    go_enter Tryz.func160, Tryz.ntmps160
    go_wp2_with fail
    refine (refNan_any x _ hx).mono ?_
    rintro e w1 ⟨rfl, rfl⟩
    rw [hn]
    go_wp2_with fail
    go_ret2
    exact ⟨ret_pairC (by rw [HK.out.1]; rfl) (by rw [HK.out.2]; rfl), rfl⟩

set_option maxRecDepth 100000 in
theorem refCompare_any (x y : Nat) (w : World) (hx : x < two64) (hy : y < two64) :
    Calls Tryz.prog 147 #[.float .f64 x, .float .f64 y] w fun e w' => e = .returned (.int .i64 (cmpN (fkey x) (fkey y))) ∧ w = w' := by
  have HK := Lib.hid (key_order x y)
  obtain ⟨a, ha⟩ : ∃ a, keyH x = a := ⟨_, rfl⟩
  obtain ⟨b, hb⟩ : ∃ b, keyL x = b := ⟨_, rfl⟩
  obtain ⟨c, hc⟩ : ∃ c, keyH y = c := ⟨_, rfl⟩
  obtain ⟨d, hd⟩ : ∃ d, keyL y = d := ⟨_, rfl⟩
  have K1 := Lib.hid (fun w => refKey_any x w hx)
  have K2 := Lib.hid (fun w => refKey_any y w hy)
  rw [ha, hb] at K1 HK
  rw [hc, hd] at K2 HK
  clear ha hb hc hd
  go_enter Tryz.func147, Tryz.ntmps147
  go_wp2_with fail
  refine (K1.out _).mono ?_
  rintro e w1 ⟨rfl, rfl⟩
  go_wp2_with fail
  refine (K2.out _).mono ?_
  rintro e w1 ⟨rfl, rfl⟩
  rcases Nat.lt_trichotomy a c with h1 | h1 | h1
  · have q1 : decide ((a : Int) < (c : Int)) = true := by simp; omega
    go_wp2_with fail
    go_ret
    exact ⟨ret_int (by rw [HK.out, if_pos (by omega)]), rfl⟩
  · subst h1
    have q1 : decide ((a : Int) < (a : Int)) = false := by simp
    have q2 : ((a : Int) == (a : Int)) = true := by simp
    rcases Nat.lt_trichotomy b d with h2 | h2 | h2
    · have q3 : decide ((b : Int) < (d : Int)) = true := by simp; omega
      go_wp2_with fail
      go_ret
      exact ⟨ret_int (by rw [HK.out]; simp [h2]), rfl⟩
    · subst h2
      have q3 : decide ((b : Int) < (b : Int)) = false := by simp
      go_wp2_with fail
      go_ret
      exact ⟨ret_int (by rw [HK.out, if_neg (by omega), if_neg (by omega)]), rfl⟩
    · have q3 : decide ((b : Int) < (d : Int)) = false := by simp; omega
      have q4 : decide ((d : Int) < (b : Int)) = true := by simp; omega
      go_wp2_with fail
      go_ret
      exact ⟨ret_int (by rw [HK.out, if_neg (by omega), if_pos (by omega)]), rfl⟩
  · have q1 : decide ((a : Int) < (c : Int)) = false := by simp; omega
    have q2 : ((a : Int) == (c : Int)) = false := by simp; omega
    have q3 : decide ((c : Int) < (a : Int)) = true := by simp; omega
    go_wp2_with fail
    go_ret
    exact ⟨ret_int (by rw [HK.out, if_neg (by omega), if_pos (by omega)]), rfl⟩
theorem refSame_any (x y : Nat) (w : World) (hx : x < two64) (hy : y < two64) : Calls Tryz.prog 106 #[.float .f64 x, .float .f64 y] w fun e w' => e = .returned (.bool (decide (fkey x = fkey y))) ∧ w = w' := by
  have HZ := Lib.hid (cmpN_zero (fkey x) (fkey y))
  go_enter Tryz.func106, Tryz.ntmps106
  go_wp2_with fail
  refine (refCompare_any x y _ hx hy).mono ?_
  rintro e w1 ⟨rfl, rfl⟩
  go_wp2_with fail
  go_ret
  exact ⟨ret_bool HZ.out, rfl⟩
end Go.Proofs.YtkgpkkdcadkpmaaGreatDoor
end
