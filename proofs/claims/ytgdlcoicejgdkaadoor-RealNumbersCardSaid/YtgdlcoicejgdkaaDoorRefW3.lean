/- bedrockref1.Number. By an AI agent. -/
import Derived.Test.YtgdlcoicejgdkaaDoorRefN1
import Derived.Test.YtgdlcoicejgdkaaDoorNum1
import Derived.BigQuiet
namespace Go.Proofs.YtgdlcoicejgdkaaDoor
open Go.RowKit

/-- what stands behind the sign -/
inductive SignOf (s r : ByteArray) : Bool → Prop where
  | below (hp : 0 < s.size) (q : ((s[0].toNat : Int) == 45) = true) (e : s.extract 1 s.size = r) : SignOf s r true
  | none (e : r = s) (h : s.size = 0) : SignOf s r false
  | plain (e : r = s) (hp : 0 < s.size) (q : ((s[0].toNat : Int) == 45) = false) : SignOf s r false

set_option maxHeartbeats 1600000 in
set_option maxRecDepth 100000 in
theorem refNumber_bad (s r : ByteArray) (b : Bool) (w : World) (h48 : (s.toList == [48]) = false) (hsg : SignOf s r b) (hsz : s.size ≤ 140737488351232)
    (hb : r.size = 0 ∨ (1 ≤ r.size ∧ 16 < r.size) ∨ ∃ hp : 0 < r.size, r.size ≤ 16 ∧ ((r[0].toNat : Int) == 48) = true) :
    Calls Tryd.prog 87 #[.string s] w fun e w' => e = .returned (.tuple #[.int .i64 0, .int .i64 4]) ∧ Bl w w' := by
  cases hsg with
  | below hp q e =>
    rcases hb with h | ⟨h, h2⟩ | ⟨h, h2, h3⟩
    all_goals
      go_enter Tryd.func87, Tryd.ntmps87
      go_wp2_with fail
      go_quiet (fail)
      go_wp2_with fail
      go_ret2
      exact ⟨rfl, by first | exact Bl.refl _ | exact (Bl.refl _).drewN _⟩
  | none e h0 =>
    subst e
    rcases hb with h | ⟨h, h2⟩ | ⟨h, h2, h3⟩
    · go_enter Tryd.func87, Tryd.ntmps87
      go_wp2_with fail
      go_ret2
      exact ⟨rfl, by first | exact Bl.refl _ | exact (Bl.refl _).drewN _⟩
    · omega
    · omega
  | plain e hp q =>
    subst e
    rcases hb with h | ⟨h, h2⟩ | ⟨h, h2, h3⟩
    · omega
    · go_enter Tryd.func87, Tryd.ntmps87
      go_wp2_with fail
      go_ret2
      exact ⟨rfl, by first | exact Bl.refl _ | exact (Bl.refl _).drewN _⟩
    · go_enter Tryd.func87, Tryd.ntmps87
      go_wp2_with fail
      go_ret2
      exact ⟨rfl, by first | exact Bl.refl _ | exact (Bl.refl _).drewN _⟩

set_option maxHeartbeats 1600000 in
set_option maxRecDepth 100000 in
theorem refNumber_digits (s r : ByteArray) (m : List UInt8) (b : Bool) (v c : Int) (w : World) (h48 : (s.toList == [48]) = false) (hsg : SignOf s r b) (hsz : s.size ≤ 140737488351232)
    (hr : Hid (SB r m)) (h16 : r.size ≤ 16) (hpos : 0 < r.size) (q0 : ((r[0].toNat : Int) == 48) = false) (HL : Hid (r.size = m.length)) (HN : Hid (NumOf m b v c)) (HD2 : Hid (m.all isDig = true → digOk m b = true)) :
    Calls Tryd.prog 87 #[.string s] w fun e w' => e = .returned (.tuple #[.int .i64 v, .int .i64 c]) ∧ Bl w w' := by
  cases hsg with
  | below hp q e =>
    go_enter Tryd.func87, Tryd.ntmps87
    go_wp2_with fail
    go_quiet (fail)
    go_wp2_with fail
    go_loop [5, 6] (fun t i => ∃ (k : Nat) (a : Int), k ≤ r.size ∧ i = .int .i64 k ∧ t = .int .i64 a ∧ a = valD (m.take k) ∧ (m.take k).all isDig = true) (fun _ i => r.size - (intOf i).toNat)
    case atStart => exact ⟨0, 0, Nat.zero_le _, rfl, rfl, rfl, rfl⟩
    case round =>
      obtain ⟨k, a, hk, rfl, rfl, ha, hall⟩ := hrel
      have HA := Lib.hid ha
      have HALL := Lib.hid hall
      by_cases hlt : k < r.size
      · have hb := valD_small' hall (by rw [List.length_take]; omega)
        rw [← ha] at hb
        obtain ⟨hb0, hb1⟩ := hb
        clear ha hall
        have HT := Lib.hid (valD_take hlt)
        have HS := Lib.hid (all_take hlt)
        rw [hr.out] at HT HS
        by_cases hd : 48 ≤ r[k].toNat ∧ r[k].toNat ≤ 57
        · have HDG := Lib.hid ((isDig_iff r[k]).2 hd)
          obtain ⟨hd1, hd2⟩ := hd
          have q1 : decide ((r[k].toNat : Int) < 48) = false := decide_eq_false (by omega)
          have q2 : decide ((57 : Int) < (r[k].toNat : Int)) = false := decide_eq_false (by omega)
          go_wp2_with fail
          go_round
          case rel => exact ⟨k + 1, _, by omega, by go_num, rfl, by rw [HT.out, HA.out]; first | rfl | omega, by rw [HS.out, HALL.out, HDG.out]; rfl⟩
          case measure => simp [intOf]; omega
        · have HDG := Lib.hid (HN.out.no (digOk_char (all_of_not hr.out hlt (by
            rw [Bool.eq_false_iff]; intro e; exact hd ((isDig_iff r[k]).1 e)))))
          have q1 : decide ((r[k].toNat : Int) < 48) = true ∨ (decide ((r[k].toNat : Int) < 48) = false ∧ decide ((57 : Int) < (r[k].toNat : Int)) = true) := by
            by_cases h : r[k].toNat < 48
            · exact .inl (decide_eq_true (by omega))
            · exact .inr ⟨decide_eq_false (by omega), decide_eq_true (by omega)⟩
          clear hd HT HS
          rcases q1 with q1 | ⟨q1, q2⟩
          all_goals
            go_wp2_with fail
            go_ret2
            exact ⟨ret_two HDG.out.1.symm HDG.out.2.symm, by first | exact Bl.refl _ | exact (Bl.refl _).drewN _⟩
      · have hkk : k = r.size := by omega
        have hbb := valD_small hall (by rw [List.length_take]; omega)
        rw [← ha] at hbb
        have hft : m.take k = m := List.take_of_length_le (by rw [hkk, HL.out]; exact Nat.le_refl _)
        rw [hft] at HA HALL
        have HY := Lib.hid (HN.out.yes (HD2.out HALL.out))
        clear ha hall hft hkk
        obtain ⟨hb0, hb1⟩ := hbb
        go_wp2_with fail
        go_ret2
        exact ⟨ret_two (by rw [HY.out.1, ← HA.out]; first | rfl | (unfold wrap64; simp <;> omega)) HY.out.2.symm, by first | exact Bl.refl _ | exact (Bl.refl _).drewN _⟩
  | none e h0 => subst e; omega
  | plain e hp q =>
    subst e
    go_enter Tryd.func87, Tryd.ntmps87
    go_wp2_with fail
    go_loop [5, 6] (fun t i => ∃ (k : Nat) (a : Int), k ≤ r.size ∧ i = .int .i64 k ∧ t = .int .i64 a ∧ a = valD (m.take k) ∧ (m.take k).all isDig = true) (fun _ i => r.size - (intOf i).toNat)
    case atStart => exact ⟨0, 0, Nat.zero_le _, rfl, rfl, rfl, rfl⟩
    case round =>
      obtain ⟨k, a, hk, rfl, rfl, ha, hall⟩ := hrel
      have HA := Lib.hid ha
      have HALL := Lib.hid hall
      by_cases hlt : k < r.size
      · have hb := valD_small' hall (by rw [List.length_take]; omega)
        rw [← ha] at hb
        obtain ⟨hb0, hb1⟩ := hb
        clear ha hall
        have HT := Lib.hid (valD_take hlt)
        have HS := Lib.hid (all_take hlt)
        rw [hr.out] at HT HS
        by_cases hd : 48 ≤ r[k].toNat ∧ r[k].toNat ≤ 57
        · have HDG := Lib.hid ((isDig_iff r[k]).2 hd)
          obtain ⟨hd1, hd2⟩ := hd
          have q1 : decide ((r[k].toNat : Int) < 48) = false := decide_eq_false (by omega)
          have q2 : decide ((57 : Int) < (r[k].toNat : Int)) = false := decide_eq_false (by omega)
          go_wp2_with fail
          go_round
          case rel => exact ⟨k + 1, _, by omega, by go_num, rfl, by rw [HT.out, HA.out]; first | rfl | omega, by rw [HS.out, HALL.out, HDG.out]; rfl⟩
          case measure => simp [intOf]; omega
        · have HDG := Lib.hid (HN.out.no (digOk_char (all_of_not hr.out hlt (by
            rw [Bool.eq_false_iff]; intro e; exact hd ((isDig_iff r[k]).1 e)))))
          have q1 : decide ((r[k].toNat : Int) < 48) = true ∨ (decide ((r[k].toNat : Int) < 48) = false ∧ decide ((57 : Int) < (r[k].toNat : Int)) = true) := by
            by_cases h : r[k].toNat < 48
            · exact .inl (decide_eq_true (by omega))
            · exact .inr ⟨decide_eq_false (by omega), decide_eq_true (by omega)⟩
          clear hd HT HS
          rcases q1 with q1 | ⟨q1, q2⟩
          all_goals
            go_wp2_with fail
            go_ret2
            exact ⟨ret_two HDG.out.1.symm HDG.out.2.symm, by first | exact Bl.refl _ | exact (Bl.refl _).drewN _⟩
      · have hkk : k = r.size := by omega
        have hbb := valD_small hall (by rw [List.length_take]; omega)
        rw [← ha] at hbb
        have hft : m.take k = m := List.take_of_length_le (by rw [hkk, HL.out]; exact Nat.le_refl _)
        rw [hft] at HA HALL
        have HY := Lib.hid (HN.out.yes (HD2.out HALL.out))
        clear ha hall hft hkk
        obtain ⟨hb0, hb1⟩ := hbb
        go_wp2_with fail
        go_ret2
        exact ⟨ret_two (by rw [HY.out.1, ← HA.out]; first | rfl | (unfold wrap64; simp <;> omega)) HY.out.2.symm, by first | exact Bl.refl _ | exact (Bl.refl _).drewN _⟩

set_option maxRecDepth 100000 in
theorem refNumber_one (s : ByteArray) (w : World) (h48 : (s.toList == [48]) = true) :
    Calls Tryd.prog 87 #[.string s] w fun e w' => e = .returned (.tuple #[.int .i64 0, .int .i64 0]) ∧ Bl w w' := by
  go_enter Tryd.func87, Tryd.ntmps87
  go_wp2_with fail
  go_ret2
  exact ⟨rfl, Bl.refl _⟩
theorem refNumber_core (s r : ByteArray) (m : List UInt8) (b : Bool) (v c : Int) (w : World) (h48 : (s.toList == [48]) = false) (hsg : SignOf s r b) (hsz : s.size ≤ 140737488351232)
    (hr : SB r m) (HN : NumOf m b v c) (hz : m = [48] → b = true) :
    Calls Tryd.prog 87 #[.string s] w fun e w' => e = .returned (.tuple #[.int .i64 v, .int .i64 c]) ∧ Bl w w' := by
  have HL := hr.size
  have bad : digOk m b = false → (r.size = 0 ∨ (1 ≤ r.size ∧ 16 < r.size) ∨ ∃ hp : 0 < r.size, r.size ≤ 16 ∧ ((r[0].toNat : Int) == 48) = true) → Calls Tryd.prog 87 #[.string s] w fun e w' => e = .returned (.tuple #[.int .i64 v, .int .i64 c]) ∧ Bl w w' := by
    intro hd hb
    obtain ⟨rfl, rfl⟩ := HN.no hd
    exact refNumber_bad s r b w h48 hsg hsz hb
  by_cases h0 : r.size = 0
  · refine bad ?_ (.inl h0)
    have : m = [] := List.eq_nil_of_length_eq_zero (by omega)
    rw [this]; rfl
  · by_cases h1 : 16 < r.size
    · exact bad (digOk_len (by omega)) (.inr (.inl ⟨by omega, h1⟩))
    · have hpos : 0 < r.size := by omega
      have HH := headD_get hr hpos
      by_cases h2 : r[0] = 48
      · refine bad (digOk_zero (HH.trans h2) ?_) (.inr (.inr ⟨hpos, by omega, by rw [h2]; rfl⟩))
        by_cases h3 : 1 < m.length
        · exact .inl h3
        · right
          apply hz
          have hl : m.length = 1 := by omega
          match m, hl, HH with
          | [x], _, HH => 
            have : x = 48 := HH.trans h2
            rw [this]
      · have q0 : ((r[0].toNat : Int) == 48) = false := by
          rw [beq_eq_false_iff_ne]
          intro e
          apply h2
          apply UInt8.toNat_inj.1
          have h48 : (48 : UInt8).toNat = 48 := rfl
          omega
        refine refNumber_digits s r m b v c w h48 hsg hsz (Lib.hid hr) (by omega) hpos q0 (Lib.hid HL) (Lib.hid HN) (Lib.hid fun ha => digOk_true ?_ (by omega) ?_ ha)
        · rintro rfl; rw [List.length_nil] at HL; omega
        · rintro ⟨e1, _⟩
          exact h2 (HH.symm.trans e1)
/-- bedrockref1.Number is raw.Number -/
theorem refNumber_any (s : ByteArray) (l : List UInt8) (w : World) (hs : SB s l) (hsz : s.size ≤ 140737488351232) :
    Calls Tryd.prog 87 #[.string s] w fun e w' => e = .returned (.tuple #[.int .i64 (numV l), .int .i64 (numC l)]) ∧ Bl w w' := by
  have hsl : s.toList = l := by rw [ByteArray.toList_eq]; exact hs
  by_cases h : l = [48]
  · subst h
    exact refNumber_one s w (by rw [hsl]; rfl)
  · have h48 : (s.toList == [48]) = false := by rw [beq_eq_false_iff_ne, hsl]; exact h
    cases l with
    | nil =>
      exact refNumber_core s s [] false _ _ w h48 (.none rfl hs.size) hsz hs ⟨rfl, rfl⟩ (fun e => by cases e)
    | cons a t =>
      have hp : 0 < s.size := by rw [hs.size]; simp
      have e0 : s[0] = a := by rw [hs.get 0 hp (by simp)]; rfl
      by_cases ha : a = 45
      · subst ha
        obtain ⟨s1, s2⟩ := sign_cons t
        have ht : SB (s.extract 1 s.size) t := by
          rw [SB, Lib.extract_data, hs, hs.size]; simp
        have hv : numV (45 :: t) = if digOk t true then (if true then -valD t else valD t) else 0 := by unfold numV; rw [s1, s2]
        have hc : numC (45 :: t) = if digOk t true then 0 else 4 := by unfold numC; rw [s1, s2]
        exact refNumber_core s (s.extract 1 s.size) t true _ _ w h48 (.below hp (by rw [e0]; rfl) rfl) hsz ht ⟨hv, hc⟩ (fun _ => rfl)
      · have hn : a.toNat ≠ 45 := fun e => ha (UInt8.toNat_inj.1 (by rw [e]; rfl))
        obtain ⟨s1, s2⟩ := no_sign (l := a :: t) hn (by simp)
        have hv : numV (a :: t) = if digOk (a :: t) false then (if false then -valD (a :: t) else valD (a :: t)) else 0 := by unfold numV; rw [s1, s2]
        have hc : numC (a :: t) = if digOk (a :: t) false then 0 else 4 := by unfold numC; rw [s1, s2]
        refine refNumber_core s s (a :: t) false _ _ w h48 (.plain rfl hp ?_) hsz hs ⟨hv, hc⟩ (fun e => absurd e h)
        rw [e0, beq_eq_false_iff_ne]; omega
end Go.Proofs.YtgdlcoicejgdkaaDoor
