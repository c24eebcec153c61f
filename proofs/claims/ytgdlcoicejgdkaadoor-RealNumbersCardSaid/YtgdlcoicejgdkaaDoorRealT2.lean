/- real.Text. By an AI agent. -/
import Derived.Test.YtgdlcoicejgdkaaDoorRealT1
import Derived.Test.YtgdlcoicejgdkaaDoorRawD
namespace Go.Proofs.YtgdlcoicejgdkaaDoor
open Go.RowKit Ieee

def signL (x : Nat) : List UInt8 := if two63 ≤ x then [45] else []
/-- does it stand as a whole number? -/
def wholeB (M : Nat) (E : Int) : Bool := decide (0 ≤ E) && decide ((Lib.bitLen M : Int) + E ≤ 53)
def bytesD (v : Int) : List UInt8 := (strOfNums (digL v)).data.toList
/-- digits and a power of two -/
def numL (M : Nat) (E : Int) : List UInt8 := if wholeB M E then bytesD ((M * 2 ^ E.toNat : Nat) : Int) else bytesD M ++ ([112] ++ bytesD E)
def textF (x : Nat) : List UInt8 :=
  if nanB x then [110, 97, 110]
  else if x % two63 = 0 then signL x ++ [48]
  else if x % two63 = infR then signL x ++ [105, 110, 102]
  else signL x ++ numL (oddM (x % two63)) (oddE (x % two63))

theorem zero_order {x : Nat} (hx : x < two64) (hn : nanB x = false) : (FloatKind.f64.format.order x 0 == some .eq) = decide (x % two63 = 0) := by
  have e : FloatKind.f64.format.order x 0 = some (compare (sval x) (sval 0)) := order_eq hx (by decide) hn (by decide)
  rw [e, show sval 0 = 0 from by decide]
  by_cases h : x % two63 = 0
  · rw [decide_eq_true h]
    have : sval x = 0 := by
      unfold sval
      rw [h]
      split <;> rfl
    rw [this]; rfl
  · rw [decide_eq_false h]
    have hu : 0 < uval (x % two63) := by
      have := uval_lt (show 0 < x % two63 by omega)
      rwa [show uval 0 = 0 from by decide] at this
    unfold sval
    split
    · rw [Int.compare_eq_lt.2 (by omega)]; rfl
    · rw [Int.compare_eq_gt.2 (by omega)]; rfl
theorem oddE_bd {r : Nat} (h0 : r ≠ 0) (h : r < infR) : -1126 ≤ oddE r ∧ oddE r ≤ 1023 := by
  have h1 := normP_bd h0 h
  have h2 := (tz_bound h0).1
  unfold oddE
  omega
theorem bitLen_le {M L : Nat} (hM : M < 2 ^ L) : Lib.bitLen M ≤ L := Lib.bitLenAux_le _ M L hM
theorem lt_aux : ∀ (f x : Nat), x < 2 ^ f → x < 2 ^ Lib.bitLenAux f x
  | 0, x, h => by simpa [Lib.bitLenAux] using h
  | f + 1, x, h => by
    unfold Lib.bitLenAux
    split
    · subst_vars; decide
    · have h2 := lt_aux f (x / 2) (by rw [Nat.pow_succ] at h; omega)
      rw [Nat.add_comm, Nat.pow_succ]
      omega
theorem lt_bitLen {M : Nat} (h : M < 2 ^ 64) : M < 2 ^ Lib.bitLen M := lt_aux 64 M h
theorem whole_bound {M : Nat} {E : Int} (hM : M < 2 ^ 64) (h : wholeB M E = true) : M * 2 ^ E.toNat < 2 ^ 53 := by
  simp only [wholeB, Bool.and_eq_true, decide_eq_true_eq] at h
  calc M * 2 ^ E.toNat < 2 ^ Lib.bitLen M * 2 ^ E.toNat := Nat.mul_lt_mul_of_pos_right (lt_bitLen hM) (Nat.two_pow_pos _)
    _ = 2 ^ (Lib.bitLen M + E.toNat) := by rw [← Nat.pow_add]
    _ ≤ 2 ^ 53 := Nat.pow_le_pow_right (by decide) (by omega)

/-- the walk of a finite number that is not nought: what comes behind its parts -/
structure TextParts (x : Nat) (M : Nat) (E : Int) (L : Nat) : Prop where
  parts : ∀ w, Tab w → Calls Tryd.prog 107 #[.float .f64 x] w fun e w' => e = .returned (.tuple #[.int .i64 M, .int .i64 E]) ∧ w = w'
  len : ∀ w, Calls Tryd.prog 108 #[.int .u64 M] w fun e w' => e = .returned (.int .i64 L) ∧ w = w'
  m : (M : Int) < 9007199254740992
  e : -1126 ≤ E ∧ E ≤ 1023
  l : L ≤ 53
theorem dig_size (v : Int) (h0 : -9223372036854775808 ≤ v) (h1 : v ≤ 9223372036854775807) : (strOfNums (digL v)).size ≤ 20 := by
  have h := (digL_len v h0 h1).2
  have e : (strOfNums (digL v)).size = (digL v).length := by simp [strOfNums, ByteArray.size]
  omega
theorem SB.dig (v : Int) : SB (strOfNums (digL v)) (bytesD v) := rfl

set_option maxHeartbeats 1600000 in
set_option maxRecDepth 100000 in
theorem rtext_fin (x : Nat) (w : World) (hx : x < two64) (hT : Tab w) (hnx : nanB x = false) (hz0 : x % two63 ≠ 0) (hib : infB x = false) (M : Nat) (E : Int) (L : Nat) (hp : TextParts x M E L) (hL : Lib.bitLen M = L) :
    Calls Tryd.prog 53 #[.float .f64 x] w fun e w' => ∃ s : ByteArray, e = .returned (.string s) ∧ SB s (signL x ++ numL M E) ∧ Bl w w' := by
  have hn : (FloatKind.f64.format.order x x != some .eq) = false := (self_nan hx).trans hnx
  have hz := zero_order hx hnx
  rw [decide_eq_false hz0] at hz
  obtain ⟨HP, HL, hM, hE, hl⟩ := hp
  have HP := Lib.hid HP
  have HL := Lib.hid HL
  clear hnx hz0
  by_cases hw : 0 ≤ E ∧ (L : Int) + E ≤ 53
  · obtain ⟨k, rfl⟩ : ∃ k : Nat, E = k := ⟨E.toNat, by omega⟩
    have hwb : wholeB M (k : Int) = true := by simp [wholeB, hL]; omega
    have hb := whole_bound (by omega) hwb
    have hN := Lib.hid (show numL M (k : Int) = bytesD ((M * 2 ^ k : Nat) : Int) by rw [numL, if_pos hwb]; rfl)
    rw [Int.toNat_natCast] at hb
    have hk53 : k ≤ 53 := by omega
    have e1 : wrap64 ((M : Int) * 2 ^ k) = ((M * 2 ^ k : Nat) : Int) := by
      have : ((M : Int) * 2 ^ k) = ((M * 2 ^ k : Nat) : Int) := by simp
      rw [this]
      unfold wrap64
      omega
    have hV : ((M * 2 ^ k : Nat) : Int) < 9007199254740992 := by omega
    clear hwb hb hL
    generalize M * 2 ^ k = V at *
    obtain ⟨h0k, h53⟩ := hw
    by_cases hs : two63 ≤ x
    · have HS := Lib.hid (show signL x = ([45] : List UInt8) from if_pos hs)
      go_enter Tryd.func53, Tryd.ntmps53
      go_wp2_with fail
      refine (signbit_any x _ hx).mono ?_
      rintro e w' ⟨rfl, rfl⟩
      rw [decide_eq_true hs]
      go_wp2_with fail
      refine (isInf_any x _ hx).mono ?_
      rintro e w' ⟨rfl, rfl⟩
      rw [hib]
      go_wp2_with fail
      refine (HP.out _ hT).mono ?_
      rintro e w' ⟨rfl, rfl⟩
      go_wp2_with fail
      refine (HL.out _).mono ?_
      rintro e w' ⟨rfl, rfl⟩
      go_wp2_with fail
      refine (digits_any (V : Int) _ (by omega) (by omega)).mono ?_
      rintro e w1 ⟨rfl, hb1⟩
      have hb1d := SB.dig (V : Int)
      have hb1z := dig_size (V : Int) (by omega) (by omega)
      generalize strOfNums (digL (V : Int)) = hb1s at hb1d hb1z ⊢
      have hb1d := Lib.hid hb1d
      go_wp2_with fail
      go_ret
      refine ⟨_, rfl, ?_, hb1⟩
      rw [HS.out, hN.out]
      exact SB.append (SB.mk [45]) hb1d.out
    · have HS := Lib.hid (show signL x = ([] : List UInt8) from if_neg hs)
      go_enter Tryd.func53, Tryd.ntmps53
      go_wp2_with fail
      refine (signbit_any x _ hx).mono ?_
      rintro e w' ⟨rfl, rfl⟩
      rw [decide_eq_false hs]
      go_wp2_with fail
      refine (isInf_any x _ hx).mono ?_
      rintro e w' ⟨rfl, rfl⟩
      rw [hib]
      go_wp2_with fail
      refine (HP.out _ hT).mono ?_
      rintro e w' ⟨rfl, rfl⟩
      go_wp2_with fail
      refine (HL.out _).mono ?_
      rintro e w' ⟨rfl, rfl⟩
      go_wp2_with fail
      refine (digits_any (V : Int) _ (by omega) (by omega)).mono ?_
      rintro e w1 ⟨rfl, hb1⟩
      have hb1d := SB.dig (V : Int)
      have hb1z := dig_size (V : Int) (by omega) (by omega)
      generalize strOfNums (digL (V : Int)) = hb1s at hb1d hb1z ⊢
      have hb1d := Lib.hid hb1d
      go_wp2_with fail
      go_ret
      refine ⟨_, rfl, ?_, hb1⟩
      rw [HS.out, hN.out]
      exact SB.append (SB.mk []) hb1d.out
  · have hwb : wholeB M E = false := by
      cases h : wholeB M E
      · rfl
      · simp only [wholeB, hL, Bool.and_eq_true, decide_eq_true_eq] at h
        exact absurd h hw
    have hN := Lib.hid (show numL M E = bytesD M ++ ([112] ++ bytesD E) by rw [numL, hwb]; rfl)
    clear hwb hL
    by_cases h0E : 0 ≤ E
    · have h53 : 53 < (L : Int) + E := by omega
      have hd : decide ((0 : Int) ≤ E) = true := by simp; omega
      have hd2 : decide ((L : Int) + E ≤ 53) = false := by simp; omega
      clear hw
      by_cases hs : two63 ≤ x
      · have HS := Lib.hid (show signL x = ([45] : List UInt8) from if_pos hs)
        go_enter Tryd.func53, Tryd.ntmps53
        go_wp2_with fail
        refine (signbit_any x _ hx).mono ?_
        rintro e w' ⟨rfl, rfl⟩
        rw [decide_eq_true hs]
        go_wp2_with fail
        refine (isInf_any x _ hx).mono ?_
        rintro e w' ⟨rfl, rfl⟩
        rw [hib]
        go_wp2_with fail
        refine (HP.out _ hT).mono ?_
        rintro e w' ⟨rfl, rfl⟩
        go_wp2_with fail
        refine (HL.out _).mono ?_
        rintro e w' ⟨rfl, rfl⟩
        go_wp2_with fail
        refine (digits_any (M : Int) _ (by omega) (by omega)).mono ?_
        rintro e w1 ⟨rfl, hb1⟩
        have hb1d := SB.dig (M : Int)
        have hb1z := dig_size (M : Int) (by omega) (by omega)
        generalize strOfNums (digL (M : Int)) = hb1s at hb1d hb1z ⊢
        have hb1d := Lib.hid hb1d
        have z1 : 1 + hb1s.size ≤ 9223372036854775806 := by omega
        go_wp2_with fail
        refine (digits_any E _ (by omega) (by omega)).mono ?_
        rintro e w2 ⟨rfl, hb2⟩
        have hb2d := SB.dig E
        have hb2z := dig_size E (by omega) (by omega)
        generalize strOfNums (digL E) = hb2s at hb2d hb2z ⊢
        have hb2d := Lib.hid hb2d
        have z2 : 1 + hb1s.size + 1 + hb2s.size ≤ 9223372036854775807 := by omega
        go_wp2_with fail
        go_ret
        refine ⟨_, rfl, ?_, hb1.trans hb2⟩
        rw [HS.out, hN.out]
        have h1 := SB.append (SB.append (SB.append (SB.mk [45]) hb1d.out) (SB.mk [112])) hb2d.out
        simpa using h1
      · have HS := Lib.hid (show signL x = ([] : List UInt8) from if_neg hs)
        go_enter Tryd.func53, Tryd.ntmps53
        go_wp2_with fail
        refine (signbit_any x _ hx).mono ?_
        rintro e w' ⟨rfl, rfl⟩
        rw [decide_eq_false hs]
        go_wp2_with fail
        refine (isInf_any x _ hx).mono ?_
        rintro e w' ⟨rfl, rfl⟩
        rw [hib]
        go_wp2_with fail
        refine (HP.out _ hT).mono ?_
        rintro e w' ⟨rfl, rfl⟩
        go_wp2_with fail
        refine (HL.out _).mono ?_
        rintro e w' ⟨rfl, rfl⟩
        go_wp2_with fail
        refine (digits_any (M : Int) _ (by omega) (by omega)).mono ?_
        rintro e w1 ⟨rfl, hb1⟩
        have hb1d := SB.dig (M : Int)
        have hb1z := dig_size (M : Int) (by omega) (by omega)
        generalize strOfNums (digL (M : Int)) = hb1s at hb1d hb1z ⊢
        have hb1d := Lib.hid hb1d
        have z1 : hb1s.size ≤ 9223372036854775806 := by omega
        go_wp2_with fail
        refine (digits_any E _ (by omega) (by omega)).mono ?_
        rintro e w2 ⟨rfl, hb2⟩
        have hb2d := SB.dig E
        have hb2z := dig_size E (by omega) (by omega)
        generalize strOfNums (digL E) = hb2s at hb2d hb2z ⊢
        have hb2d := Lib.hid hb2d
        have z2 : hb1s.size + 1 + hb2s.size ≤ 9223372036854775807 := by omega
        go_wp2_with fail
        go_ret
        refine ⟨_, rfl, ?_, hb1.trans hb2⟩
        rw [HS.out, hN.out]
        have h1 := SB.append (SB.append (SB.append (SB.mk []) hb1d.out) (SB.mk [112])) hb2d.out
        simpa using h1
    · have hd : decide ((0 : Int) ≤ E) = false := by simp; omega
      clear hw
      by_cases hs : two63 ≤ x
      · have HS := Lib.hid (show signL x = ([45] : List UInt8) from if_pos hs)
        go_enter Tryd.func53, Tryd.ntmps53
        go_wp2_with fail
        refine (signbit_any x _ hx).mono ?_
        rintro e w' ⟨rfl, rfl⟩
        rw [decide_eq_true hs]
        go_wp2_with fail
        refine (isInf_any x _ hx).mono ?_
        rintro e w' ⟨rfl, rfl⟩
        rw [hib]
        go_wp2_with fail
        refine (HP.out _ hT).mono ?_
        rintro e w' ⟨rfl, rfl⟩
        go_wp2_with fail
        refine (digits_any (M : Int) _ (by omega) (by omega)).mono ?_
        rintro e w1 ⟨rfl, hb1⟩
        have hb1d := SB.dig (M : Int)
        have hb1z := dig_size (M : Int) (by omega) (by omega)
        generalize strOfNums (digL (M : Int)) = hb1s at hb1d hb1z ⊢
        have hb1d := Lib.hid hb1d
        have z1 : 1 + hb1s.size ≤ 9223372036854775806 := by omega
        go_wp2_with fail
        refine (digits_any E _ (by omega) (by omega)).mono ?_
        rintro e w2 ⟨rfl, hb2⟩
        have hb2d := SB.dig E
        have hb2z := dig_size E (by omega) (by omega)
        generalize strOfNums (digL E) = hb2s at hb2d hb2z ⊢
        have hb2d := Lib.hid hb2d
        have z2 : 1 + hb1s.size + 1 + hb2s.size ≤ 9223372036854775807 := by omega
        go_wp2_with fail
        go_ret
        refine ⟨_, rfl, ?_, hb1.trans hb2⟩
        rw [HS.out, hN.out]
        have h1 := SB.append (SB.append (SB.append (SB.mk [45]) hb1d.out) (SB.mk [112])) hb2d.out
        simpa using h1
      · have HS := Lib.hid (show signL x = ([] : List UInt8) from if_neg hs)
        go_enter Tryd.func53, Tryd.ntmps53
        go_wp2_with fail
        refine (signbit_any x _ hx).mono ?_
        rintro e w' ⟨rfl, rfl⟩
        rw [decide_eq_false hs]
        go_wp2_with fail
        refine (isInf_any x _ hx).mono ?_
        rintro e w' ⟨rfl, rfl⟩
        rw [hib]
        go_wp2_with fail
        refine (HP.out _ hT).mono ?_
        rintro e w' ⟨rfl, rfl⟩
        go_wp2_with fail
        refine (digits_any (M : Int) _ (by omega) (by omega)).mono ?_
        rintro e w1 ⟨rfl, hb1⟩
        have hb1d := SB.dig (M : Int)
        have hb1z := dig_size (M : Int) (by omega) (by omega)
        generalize strOfNums (digL (M : Int)) = hb1s at hb1d hb1z ⊢
        have hb1d := Lib.hid hb1d
        have z1 : hb1s.size ≤ 9223372036854775806 := by omega
        go_wp2_with fail
        refine (digits_any E _ (by omega) (by omega)).mono ?_
        rintro e w2 ⟨rfl, hb2⟩
        have hb2d := SB.dig E
        have hb2z := dig_size E (by omega) (by omega)
        generalize strOfNums (digL E) = hb2s at hb2d hb2z ⊢
        have hb2d := Lib.hid hb2d
        have z2 : hb1s.size + 1 + hb2s.size ≤ 9223372036854775807 := by omega
        go_wp2_with fail
        go_ret
        refine ⟨_, rfl, ?_, hb1.trans hb2⟩
        rw [HS.out, hN.out]
        have h1 := SB.append (SB.append (SB.append (SB.mk []) hb1d.out) (SB.mk [112])) hb2d.out
        simpa using h1

set_option maxHeartbeats 1600000 in
set_option maxRecDepth 100000 in
theorem rtext_edge (x : Nat) (w : World) (hx : x < two64) (h : nanB x = true ∨ x % two63 = 0 ∨ x % two63 = infR) :
    Calls Tryd.prog 53 #[.float .f64 x] w fun e w' => ∃ s : ByteArray, e = .returned (.string s) ∧ SB s (textF x) ∧ Bl w w' := by
  have hn : (FloatKind.f64.format.order x x != some .eq) = nanB x := self_nan hx
  cases hnx : nanB x
  · rw [hnx] at hn
    have hz := zero_order hx hnx
    by_cases hz0 : x % two63 = 0
    · rw [decide_eq_true hz0] at hz
      have HT := Lib.hid (show textF x = signL x ++ [48] by unfold textF; rw [hnx, if_pos hz0]; rfl)
      clear hnx hz0 h
      by_cases hs : two63 ≤ x
      · have HS := Lib.hid (show signL x = ([45] : List UInt8) from if_pos hs)
        go_enter Tryd.func53, Tryd.ntmps53
        go_wp2_with fail
        refine (signbit_any x _ hx).mono ?_
        rintro e w' ⟨rfl, rfl⟩
        rw [decide_eq_true hs]
        go_wp2_with fail
        go_ret
        refine ⟨_, rfl, ?_, Bl.refl _⟩
        rw [HT.out, HS.out]
        exact SB.append (SB.mk [45]) (SB.mk [48])
      · have HS := Lib.hid (show signL x = ([] : List UInt8) from if_neg hs)
        go_enter Tryd.func53, Tryd.ntmps53
        go_wp2_with fail
        refine (signbit_any x _ hx).mono ?_
        rintro e w' ⟨rfl, rfl⟩
        rw [decide_eq_false hs]
        go_wp2_with fail
        go_ret
        refine ⟨_, rfl, ?_, Bl.refl _⟩
        rw [HT.out, HS.out]
        exact SB.append (SB.mk []) (SB.mk [48])
    · have hi : x % two63 = infR := by
        rcases h with h | h | h
        · rw [hnx] at h; cases h
        · exact absurd h hz0
        · exact h
      have hib : infB x = true := decide_eq_true hi
      rw [decide_eq_false hz0] at hz
      have HT := Lib.hid (show textF x = signL x ++ [105, 110, 102] by unfold textF; rw [hnx, if_neg hz0, if_pos hi]; rfl)
      clear hnx hz0 h hi
      by_cases hs : two63 ≤ x
      · have HS := Lib.hid (show signL x = ([45] : List UInt8) from if_pos hs)
        go_enter Tryd.func53, Tryd.ntmps53
        go_wp2_with fail
        refine (signbit_any x _ hx).mono ?_
        rintro e w' ⟨rfl, rfl⟩
        rw [decide_eq_true hs]
        go_wp2_with fail
        refine (isInf_any x _ hx).mono ?_
        rintro e w' ⟨rfl, rfl⟩
        rw [hib]
        go_wp2_with fail
        go_ret
        refine ⟨_, rfl, ?_, Bl.refl _⟩
        rw [HT.out, HS.out]
        exact SB.append (SB.mk [45]) (SB.mk [105, 110, 102])
      · have HS := Lib.hid (show signL x = ([] : List UInt8) from if_neg hs)
        go_enter Tryd.func53, Tryd.ntmps53
        go_wp2_with fail
        refine (signbit_any x _ hx).mono ?_
        rintro e w' ⟨rfl, rfl⟩
        rw [decide_eq_false hs]
        go_wp2_with fail
        refine (isInf_any x _ hx).mono ?_
        rintro e w' ⟨rfl, rfl⟩
        rw [hib]
        go_wp2_with fail
        go_ret
        refine ⟨_, rfl, ?_, Bl.refl _⟩
        rw [HT.out, HS.out]
        exact SB.append (SB.mk []) (SB.mk [105, 110, 102])
  · rw [hnx] at hn
    have HT := Lib.hid (show textF x = [110, 97, 110] by unfold textF; rw [hnx]; rfl)
    clear hnx h
    by_cases hs : two63 ≤ x
    · have HS := Lib.hid (show signL x = ([45] : List UInt8) from if_pos hs)
      go_enter Tryd.func53, Tryd.ntmps53
      go_wp2_with fail
      refine (signbit_any x _ hx).mono ?_
      rintro e w' ⟨rfl, rfl⟩
      rw [decide_eq_true hs]
      go_wp2_with fail
      go_ret
      exact ⟨_, rfl, by rw [HT.out]; exact SB.mk _, Bl.refl _⟩
    · have HS := Lib.hid (show signL x = ([] : List UInt8) from if_neg hs)
      go_enter Tryd.func53, Tryd.ntmps53
      go_wp2_with fail
      refine (signbit_any x _ hx).mono ?_
      rintro e w' ⟨rfl, rfl⟩
      rw [decide_eq_false hs]
      go_wp2_with fail
      go_ret
      exact ⟨_, rfl, by rw [HT.out]; exact SB.mk _, Bl.refl _⟩

theorem rtext_any (x : Nat) (w : World) (hx : x < two64) (hT : Tab w) : Calls Tryd.prog 53 #[.float .f64 x] w fun e w' => ∃ s : ByteArray, e = .returned (.string s) ∧ SB s (textF x) ∧ Bl w w' := by
  by_cases h : nanB x = true ∨ x % two63 = 0 ∨ x % two63 = infR
  · exact rtext_edge x w hx h
  · have hnx : nanB x = false := by
      cases hn : nanB x
      · rfl
      · exact absurd (.inl hn) h
    have hz0 : x % two63 ≠ 0 := fun e => h (.inr (.inl e))
    have hi : x % two63 ≠ infR := fun e => h (.inr (.inr e))
    have hlt : x % two63 < infR := by
      rcases fin_or_inf hnx with h | h
      · exact h
      · exact absurd h hi
    have hM := (oddM_odd hz0).2.2
    have hM64 : oddM (x % two63) < two64 := by unfold two52 at hM; unfold two64; omega
    have hM53 : oddM (x % two63) < 2 ^ 53 := by
      have : 2 * two52 = 2 ^ 53 := by decide
      omega
    have e : textF x = signL x ++ numL (oddM (x % two63)) (oddE (x % two63)) := by unfold textF; rw [hnx, if_neg hz0, if_neg hi]; rfl
    rw [e]
    exact rtext_fin x w hx hT hnx hz0 (decide_eq_false hi) _ _ _ ⟨fun w hT => parts_any x w hx hz0 hlt hT, fun w => len64_any _ w hM64, by omega, oddE_bd hz0 hlt, bitLen_le hM53⟩ rfl
end Go.Proofs.YtgdlcoicejgdkaaDoor
