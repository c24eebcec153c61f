/- bedrockref1.Quote; bedrockref5.Text of every value (printed by a program). By an AI agent. -/
import Derived.Test.YtgdlcoicejgdkaaDoorOp8
import Derived.Test.YtgdlcoicejgdkaaDoorRefO1
import Derived.Test.YtgdlcoicejgdkaaDoorRefT2
namespace Go.Proofs.YtgdlcoicejgdkaaDoor
open Go.RowKit
attribute [local go_sem] eOp eOper eUpon

set_option maxHeartbeats 1600000 in
set_option maxRecDepth 100000 in
theorem refQuote_any (s : ByteArray) (w : World) (hs : s.size ≤ 1000000) :
    Calls Tryd.prog 100 #[.string s] w fun e w' => e = .returned (.string ⟨(quoL s.data.toList).toArray⟩) ∧ Bl w w' := by
  obtain ⟨i0, hi, hz0, hz1, hz2⟩ := info_parts info_byte
  have hob : OB w.heap.size (w.alloc (.cells #[.int .u8 34] 5)) (.slice (some ⟨w.heap.size, 0, none⟩) 1 1) [34] :=
    ⟨by simp, .inr ⟨w.heap.size, 1, #[.int .u8 34], rfl, Nat.le_refl _, heap_alloc_new w _, by decide, by decide, rfl, rfl⟩⟩
  have hbl0 := (Bl.refl w).alloc (.cells #[.int .u8 34] 5)
  go_enter Tryd.func100, Tryd.ntmps100
  go_wp2
  go_loopw [3, 4] (fun v i wr => ∃ (k : Nat) (xs : List Int), k ≤ s.size ∧ i = .int .i64 k ∧ Bl w wr ∧ OB w.heap.size wr v xs ∧ xs = numsB (34 :: (s.data.toList.take k).flatMap quoC)) (fun _ i _ => s.size - (intOf i).toNat)
  case atStart => exact ⟨0, _, Nat.zero_le _, rfl, hbl0, hob, by simp [numsB]⟩
  case round =>
    clear hob hbl0
    obtain ⟨k, xs, hk, rfl, hbl, hown, hx⟩ := hrel
    have hxl : xs.length ≤ 4000001 := by
      rw [hx, numsB_len, List.length_cons]
      have := quo_len_take s.data.toList k (by simpa using hk)
      omega
    have HX := Lib.hid hx
    clear hx
    have hsz := hbl.size
    by_cases hlt : k < s.size
    · have HT := Lib.hid (quo_take hlt)
      have hc8 : s[k].toNat < 256 := UInt8.toNat_lt s[k]
      by_cases h34 : s[k].toNat = 34
      · have HQ : Hid (numsB (quoC s[k]) = [92, 34]) := Lib.hid (by rw [quo_esc (.inl h34), h34]; rfl)
        have q1 : (s[k].toNat : Int) = 34 := by omega
        clear h34 hc8
        go_wp2_with (at_builtin; refine wpList_append_own _ rfl _ _ 51 rfl (w.heap.size) 5 i0 (.int .u8 0) 1 1 Tryd.underlying51 hi hz0 hz1 hz2 rfl (by decide) _ _ _ rfl (World.ownsRow.alloc hown _) ⟨wr.heap.size, 0, none⟩ 2 2 (([92, 34] : List Int).map (Value.int .u8)) rfl rfl ?c1 ?c2 ?c3 ?c4 ?c5 ?_)
        case c1 => exact World.news_of_block (heap_alloc_new _ _)
        case c2 => intro u hu; simp at hu; rcases hu with rfl | rfl <;> rfl
        case c3 => unfold maxLen; omega
        case c4 => omega
        case c5 => simp; omega
        intro v' w3 hown' hgrow _
        obtain ⟨R1, R2⟩ := OB.pushL (ys := [92, 34]) hbl hsz hown hown' hgrow
        clear hown hown' hgrow
        go_wp2
        go_roundw
        case rel => exact ⟨k + 1, _, by omega, by go_num, R2, R1, by rw [HX.out, HT.out, ← List.cons_append, numsB_append, HQ.out]⟩
        case measure => simp [intOf]; omega
      by_cases h92 : s[k].toNat = 92
      · have HQ : Hid (numsB (quoC s[k]) = [92, 92]) := Lib.hid (by rw [quo_esc (.inr h92), h92]; rfl)
        have q1 : (s[k].toNat : Int) = 92 := by omega
        clear h34 h92 hc8
        go_wp2_with (at_builtin; refine wpList_append_own _ rfl _ _ 51 rfl (w.heap.size) 5 i0 (.int .u8 0) 1 1 Tryd.underlying51 hi hz0 hz1 hz2 rfl (by decide) _ _ _ rfl (World.ownsRow.alloc hown _) ⟨wr.heap.size, 0, none⟩ 2 2 (([92, 92] : List Int).map (Value.int .u8)) rfl rfl ?c1 ?c2 ?c3 ?c4 ?c5 ?_)
        case c1 => exact World.news_of_block (heap_alloc_new _ _)
        case c2 => intro u hu; simp at hu; rcases hu with rfl | rfl <;> rfl
        case c3 => unfold maxLen; omega
        case c4 => omega
        case c5 => simp; omega
        intro v' w3 hown' hgrow _
        obtain ⟨R1, R2⟩ := OB.pushL (ys := [92, 92]) hbl hsz hown hown' hgrow
        clear hown hown' hgrow
        go_wp2
        go_roundw
        case rel => exact ⟨k + 1, _, by omega, by go_num, R2, R1, by rw [HX.out, HT.out, ← List.cons_append, numsB_append, HQ.out]⟩
        case measure => simp [intOf]; omega
      have hA : ¬ (s[k].toNat = 34 ∨ s[k].toNat = 92) := by omega
      have q1 : ((s[k].toNat : Int) == 34) = false := by simp; omega
      have q2 : ((s[k].toNat : Int) == 92) = false := by simp; omega
      by_cases hB : 32 ≤ s[k].toNat ∧ s[k].toNat ≤ 126
      · have HQ := Lib.hid (quo_plain hA hB)
        have q3 : (32 : Int) ≤ (s[k].toNat : Int) := by omega
        have q4 : (s[k].toNat : Int) ≤ 126 := by omega
        clear hA h34 h92 hB
        go_wp2_with (at_builtin; refine wpList_append_own _ rfl _ _ 51 rfl (w.heap.size) 5 i0 (.int .u8 0) 1 1 Tryd.underlying51 hi hz0 hz1 hz2 rfl (by decide) _ _ _ rfl (World.ownsRow.alloc hown _) ⟨wr.heap.size, 0, none⟩ 1 1 (([(s[k].toNat : Int)] : List Int).map (Value.int .u8)) rfl rfl ?c1 ?c2 ?c3 ?c4 ?c5 ?_)
        case c1 => exact World.news_of_block (heap_alloc_new _ _)
        case c2 => intro u hu; simp at hu; rcases hu with rfl <;> rfl
        case c3 => unfold maxLen; omega
        case c4 => omega
        case c5 => simp; omega
        intro v' w3 hown' hgrow _
        obtain ⟨R1, R2⟩ := OB.pushL (ys := [(s[k].toNat : Int)]) hbl hsz hown hown' hgrow
        clear hown hown' hgrow
        go_wp2
        go_roundw
        case rel => exact ⟨k + 1, _, by omega, by go_num, R2, R1, by rw [HX.out, HT.out, ← List.cons_append, numsB_append, HQ.out]⟩
        case measure => simp [intOf]; omega
      have HQ := Lib.hid (quo_hex hA hB)
      have hB2 : s[k].toNat < 32 ∨ 126 < s[k].toNat := by omega
      have hn1 : (0 : Int) ≤ (s[k].toNat : Int) / 16 := by omega
      have hn2 : (s[k].toNat : Int) / 16 < 16 := by omega
      have hn3 : (0 : Int) ≤ (s[k].toNat : Int) % 16 := by omega
      have hn4 : (s[k].toNat : Int) % 16 < 16 := by omega
      have hna : IntKind.u8.wrap ((s[k].toNat : Int) / 16) = (s[k].toNat : Int) / 16 := by rw [IntKind.wrap_u8]; omega
      have hnb : (s[k].toNat : Int).tmod 16 = (s[k].toNat : Int) % 16 := Int.tmod_eq_emod_of_nonneg (by omega)
      obtain ⟨N1, hN1⟩ : ∃ N, (hexB (UInt8.ofNat (s[k].toNat / 16))).toNat = N := ⟨_, rfl⟩
      obtain ⟨N2, hN2⟩ : ∃ N, (hexB (UInt8.ofNat (s[k].toNat % 16))).toNat = N := ⟨_, rfl⟩
      rw [hN1, hN2] at HQ
      have hx1 := hex_hi s[k].toNat hc8 N1 hN1
      have hx2 := hex_lo s[k].toNat N2 hN2
      clear hA h34 h92 hB hN1 hN2 hc8
      rcases hB2 with hB2 | hB2
      all_goals
        go_wp2_with fail
        have hbd := hbl.drew
        replace hown := hown.keep ((Bl.refl wr).drew)
        refine wp_region_extC (Bl w) (fun _ _ h k => h.trans k) hbd 7 3 (by kernel_rfl) rfl (by kernel_rfl) (by kernel_rfl) ?_
        generalize wr.drew = wd at *
        simp only [List.take_succ_cons, List.take_zero]
        repeat (refine wpE_step (fun K hK => ?_); go_simp; refine hK _ ?_; clear hK K)
        refine wpE_nil ?_
        refine wpAnyE_one (i := 7) (by kernel_rfl) ?_
        intro W1 hb1
        go_simp
        have hb2 := hb1.alloc (.cells #[.int .u8 92, .int .u8 120, .int .u8 N1, .int .u8 N2] 5)
        have hnew := heap_alloc_new W1 (.cells #[.int .u8 92, .int .u8 120, .int .u8 N1, .int .u8 N2] 5)
        refine ⟨hbd.trans hb2, ?_⟩
        generalize W1.alloc (.cells #[.int .u8 92, .int .u8 120, .int .u8 N1, .int .u8 N2] 5) = W2 at *
        generalize W1.heap.size = g at *
        refine wpAnyE_one (i := 8) (by kernel_rfl) ?_
        intro W3 hb3
        have hown3 := hown.keep (hb2.trans hb3)
        have hb4 := hbd.trans (hb2.trans hb3)
        have hsz3 := hb4.size
        refine eOp_append rfl rfl _ _ 51 rfl (w.heap.size) 5 i0 (.int .u8 0) 1 1 Tryd.underlying51 hi hz0 hz1 hz2 rfl (by decide) _ _ _ rfl hown3 ⟨g, 0, none⟩ 4 4 (([92, 120, (N1 : Int), (N2 : Int)] : List Int).map (Value.int .u8)) rfl rfl ?c1 ?c2 ?c3 ?c4 ?c5 ?_
        case c1 => exact World.news_of_block (hb3.heap hnew)
        case c2 => intro u hu; simp at hu; rcases hu with rfl | rfl | rfl | rfl <;> rfl
        case c3 => unfold maxLen; omega
        case c4 => omega
        case c5 => exact hsz3
        intro v' w3 hown' hgrow _
        have hgrow : W3.grownBy w3 u3.ownBlock := hgrow
        obtain ⟨R1, R2⟩ := OB.pushL' (ys := [92, 120, (N1 : Int), (N2 : Int)]) hb4 hsz3 hown3 hown' hgrow
        clear hown hown' hgrow hown3 hb4 hsz3
        refine ⟨R2, ?_⟩
        simp only [Act.put, List.setIfInBounds_toArray]
        refine wpAnyE_one (i := 9) (by kernel_rfl) ?_
        intro W5 hb5
        go_simp
        have R3 := R2.trans (Below.mono hb5 R2.size)
        have R4 := R1.keep hb5
        refine ⟨R3, ?_⟩
        refine wpAnyE_done (by kernel_rfl) ?_
        intro W6 hb6
        replace R3 := R3.trans (Below.mono hb6 R3.size)
        replace R4 := R4.keep hb6
        clear hb6 hb5 R1 R2 hb2 hb3 hb1
        go_wp2
        go_roundw
        case rel => exact ⟨k + 1, _, by omega, by go_num, R3, R4, by rw [HX.out, HT.out, ← List.cons_append, numsB_append, HQ.out]⟩
        case measure => simp [intOf]; omega
    · have HE := Lib.hid (show s.data.toList.take k = s.data.toList from List.take_of_length_le (by simp; omega))
      go_wp2_with (at_builtin; refine wpList_append_own _ rfl _ _ 51 rfl (w.heap.size) 5 i0 (.int .u8 0) 1 1 Tryd.underlying51 hi hz0 hz1 hz2 rfl (by decide) _ _ _ rfl (World.ownsRow.alloc hown _) ⟨wr.heap.size, 0, none⟩ 1 1 (([34] : List Int).map (Value.int .u8)) rfl rfl ?c1 ?c2 ?c3 ?c4 ?c5 ?_)
      case c1 => exact World.news_of_block (heap_alloc_new _ _)
      case c2 => intro u hu; simp at hu; rcases hu with rfl <;> rfl
      case c3 => unfold maxLen; omega
      case c4 => omega
      case c5 => simp; omega
      intro v' w3 hown' hgrow _
      obtain ⟨R1, R2⟩ := OB.pushL (ys := [34]) hbl hsz hown hown' hgrow
      clear hown hown' hgrow
      have hne : ∃ g cap, v' = .slice (some ⟨g, 0, none⟩) (xs.length + 1) cap := by
        obtain ⟨h1, ⟨rfl, h2⟩ | ⟨g, cap, cur, rfl, _⟩⟩ := R1
        · simp at h2
        · exact ⟨g, cap, by simp⟩
      obtain ⟨g, cap, rfl⟩ := hne
      have hst := OB.string R1 (by simp)
      go_wp2
      go_ret
      refine ⟨?_, R2⟩
      rw [HX.out, HE.out]
      show Ending.returned (.string (strOfNums (numsB (34 :: s.data.toList.flatMap quoC) ++ [34]))) = _
      rw [show ([34] : List Int) = numsB [34] from rfl, ← numsB_append, str_numsB]
      rfl
set_option maxRecDepth 100000 in
theorem refOText_none (key : ByteArray) (v : ValL) (w : World) (hkey : key.size ≤ 140737488351232) (h : v.there = false ∨ isKeyB key = false) :
    Calls Tryd.prog 47 #[.string key, v.v] w fun e w' => e = .returned (.string ⟨#[110, 111, 110, 101]⟩) ∧ Bl w w' := by
  obtain ⟨b, x, n, s⟩ := v
  show Calls Tryd.prog 47 #[.string key, .agg #[.bool b, .float .f64 x, .int .i64 n, .string s]] w _
  cases b
  · go_enter Tryd.func47, Tryd.ntmps47
    go_wp2_with fail
    go_ret
    exact ⟨rfl, (Bl.refl w).alloc _⟩
  · have hk : isKeyB key = false := by
      rcases h with h | h
      · cases h
      · exact h
    go_enter Tryd.func47, Tryd.ntmps47
    go_wp2_with fail
    refine (refIsKey_any key _ hkey).mono ?_
    rintro e w1 ⟨rfl, rfl⟩
    rw [hk]
    go_wp2_with fail
    go_ret
    exact ⟨rfl, (Bl.refl w).alloc _⟩

set_option maxRecDepth 100000 in
theorem refOText_num (key : ByteArray) (v : ValL) (w : World) (hkey : key.size ≤ 140737488351232) (ov : v.Ok) (ht : v.there = true) (hi : isKeyB key = true) (h1 : hd key ≠ 99) (h2 : hd key ≠ 116) :
    Calls Tryd.prog 47 #[.string key, v.v] w fun e w' => ∃ s : ByteArray, e = .returned (.string s) ∧ SB s (textF v.x) ∧ Bl w w' := by
  obtain ⟨b, x, n, s⟩ := v
  obtain ⟨hx, _, _⟩ := ov
  simp only at hx ht
  subst ht
  show Calls Tryd.prog 47 #[.string key, .agg #[.bool true, .float .f64 x, .int .i64 n, .string s]] w _
  have hp := key_pos hi
  have HH := hd_get hp
  have q1 : (((key[0]'hp).toNat : Int) == 99) = false := by rw [HH]; simp; omega
  have q2 : (((key[0]'hp).toNat : Int) == 116) = false := by rw [HH]; simp; omega
  have HI := Lib.hid hi
  clear HH h1 h2 hi
  go_enter Tryd.func47, Tryd.ntmps47
  go_wp2_with fail
  refine (refIsKey_any key _ hkey).mono ?_
  rintro e w1 ⟨rfl, rfl⟩
  rw [HI.out]
  go_wp2_with fail
  refine (refText_any x _ hx).mono ?_
  rintro e w2 ⟨sx, rfl, hsx, hb2⟩
  have HSX := Lib.hid hsx
  clear hsx
  go_wp2_with fail
  go_ret
  exact ⟨_, rfl, HSX.out, ((Bl.refl w).alloc _).trans hb2⟩

set_option maxRecDepth 100000 in
theorem refOText_cnt (key : ByteArray) (v : ValL) (w : World) (hkey : key.size ≤ 140737488351232) (ov : v.Ok) (ht : v.there = true) (hi : isKeyB key = true) (h1 : hd key = 99) :
    Calls Tryd.prog 47 #[.string key, v.v] w fun e w' => e = .returned (.string (strOfNums (digL v.n))) ∧ Bl w w' := by
  obtain ⟨b, x, n, s⟩ := v
  obtain ⟨_, hn, _⟩ := ov
  simp only at hn ht
  subst ht
  show Calls Tryd.prog 47 #[.string key, .agg #[.bool true, .float .f64 x, .int .i64 n, .string s]] w _
  have hp := key_pos hi
  have HH := hd_get hp
  have q1 : (((key[0]'hp).toNat : Int) == 99) = true := by rw [HH]; simp; omega
  have HI := Lib.hid hi
  have HN := Lib.hid hn
  clear HH h1 hi hn
  go_enter Tryd.func47, Tryd.ntmps47
  go_wp2_with fail
  refine (refIsKey_any key _ hkey).mono ?_
  rintro e w1 ⟨rfl, rfl⟩
  rw [HI.out]
  go_wp2_with fail
  refine (refDigits_any n _ HN.out.1 HN.out.2).mono ?_
  rintro e w2 ⟨rfl, hb2⟩
  go_wp2_with fail
  go_ret
  exact ⟨rfl, ((Bl.refl w).alloc _).trans hb2⟩
set_option maxRecDepth 100000 in
theorem refOText_quo (key : ByteArray) (v : ValL) (w : World) (hkey : key.size ≤ 140737488351232) (hz : v.s.size ≤ 1000000) (ht : v.there = true) (hi : isKeyB key = true) (h1 : hd key = 116) :
    Calls Tryd.prog 47 #[.string key, v.v] w fun e w' => e = .returned (.string ⟨(quoL v.s.data.toList).toArray⟩) ∧ Bl w w' := by
  obtain ⟨b, x, n, s⟩ := v
  simp only at ht hz
  subst ht
  show Calls Tryd.prog 47 #[.string key, .agg #[.bool true, .float .f64 x, .int .i64 n, .string s]] w _
  have hp := key_pos hi
  have HH := hd_get hp
  have q1 : (((key[0]'hp).toNat : Int) == 99) = false := by rw [HH]; simp; omega
  have q2 : (((key[0]'hp).toNat : Int) == 116) = true := by rw [HH]; simp; omega
  have HI := Lib.hid hi
  clear HH h1 hi
  go_enter Tryd.func47, Tryd.ntmps47
  go_wp2_with fail
  refine (refIsKey_any key _ hkey).mono ?_
  rintro e w1 ⟨rfl, rfl⟩
  rw [HI.out]
  go_wp2_with fail
  refine (refQuote_any s _ hz).mono ?_
  rintro e w2 ⟨rfl, hb2⟩
  go_wp2_with fail
  go_ret
  exact ⟨rfl, ((Bl.refl w).alloc _).trans hb2⟩
/-- op.Text -/
theorem refOText_any (key : ByteArray) (v : ValL) (w : World) (hkey : key.size ≤ 140737488351232) (ov : v.Ok) (hz : v.s.size ≤ 1000000) :
    Calls Tryd.prog 47 #[.string key, v.v] w fun e w' => e = .returned (.string ⟨(textV key v).toArray⟩) ∧ Bl w w' := by
  cases ht : v.there
  · have e : textV key v = noneL := by unfold textV; rw [ht]; rfl
    rw [e]; exact refOText_none key v w hkey (.inl ht)
  · cases hi : isKeyB key
    · have e : textV key v = noneL := by unfold textV; rw [ht, hi]; rfl
      rw [e]; exact refOText_none key v w hkey (.inr hi)
    · rw [text_there v ht hi]
      by_cases h1 : hd key = 99
      · rw [if_pos h1]; exact refOText_cnt key v w hkey ov ht hi h1
      · rw [if_neg h1]
        by_cases h2 : hd key = 116
        · rw [if_pos h2]; exact refOText_quo key v w hkey hz ht hi h2
        · rw [if_neg h2]
          refine (refOText_num key v w hkey ov ht hi h1 h2).mono ?_
          rintro e w' ⟨s, rfl, hs, hb⟩
          obtain rfl := str_at hs rfl
          exact ⟨rfl, hb⟩
theorem refText_agg (key : ByteArray) (b : Bool) (x : Nat) (n : Int) (s t : ByteArray) (w : World) (hkey : key.size ≤ 140737488351232) (ov : Hid (ValL.Ok ⟨b, x, n, s⟩)) (hz : s.size ≤ 1000000)
    (h : Hid (SB t (textV key ⟨b, x, n, s⟩))) :
    Calls Tryd.prog 47 #[.string key, .agg #[.bool b, .float .f64 x, .int .i64 n, .string s]] w fun e w' => e = .returned (.string t) ∧ Bl w w' := by
  obtain rfl := str_at h.out rfl
  exact refOText_any key ⟨b, x, n, s⟩ w hkey ov.out hz
end Go.Proofs.YtgdlcoicejgdkaaDoor
