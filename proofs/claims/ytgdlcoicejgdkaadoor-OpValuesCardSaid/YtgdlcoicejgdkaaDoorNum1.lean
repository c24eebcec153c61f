/- raw.Number. By an AI agent. -/
import Derived.Test.YtgdlcoicejgdkaaDoorNum0
import Derived.Test.YtgdlcoicejgdkaaDoorShelf
import Derived.Outline
namespace Go.Proofs.YtgdlcoicejgdkaaDoor
open Go.RowKit

theorem ret_two {a b c d : Int} (h : a = b) (k : c = d) : Ending.returned (.tuple #[.int .i64 a, .int .i64 c]) = Ending.returned (.tuple #[.int .i64 b, .int .i64 d]) := by rw [h, k]
theorem SB.trim {s : ByteArray} {l : List UInt8} (hs : SB s l) : SB ⟨(Lib.trimPrefix s.data.toList [45]).toArray⟩ (restL l) := by
  rw [hs]; exact SB.mk _
/-- what raw.Number makes of the rest -/
structure NumOf (m : List UInt8) (b : Bool) (v c : Int) : Prop where
  v : v = if digOk m b then (if b then -valD m else valD m) else 0
  c : c = if digOk m b then 0 else 4
theorem NumOf.no {m : List UInt8} {b : Bool} {v c : Int} (h : NumOf m b v c) (k : digOk m b = false) : v = 0 ∧ c = 4 := by
  refine ⟨h.v.trans ?_, h.c.trans ?_⟩ <;> rw [k] <;> rfl
theorem NumOf.yes {m : List UInt8} {b : Bool} {v c : Int} (h : NumOf m b v c) (k : digOk m b = true) : v = (if b then -valD m else valD m) ∧ c = 0 := by
  refine ⟨h.v.trans ?_, h.c.trans ?_⟩ <;> rw [k] <;> rfl
theorem digOk_len {m : List UInt8} {b : Bool} (h : 16 < m.length) : digOk m b = false := by
  unfold digOk; rw [decide_eq_false (by omega)]; simp
theorem digOk_zero {m : List UInt8} {b : Bool} (h : m.headD 0 = 48) (k : 1 < m.length ∨ b = true) : digOk m b = false := by
  unfold digOk; rw [decide_eq_true h]
  rcases k with k | k
  · rw [decide_eq_true k]; simp
  · subst k; simp
theorem digOk_char {m : List UInt8} {b : Bool} (h : m.all isDig = false) : digOk m b = false := by
  unfold digOk; rw [h]; simp
theorem digOk_true {m : List UInt8} {b : Bool} (h0 : m ≠ []) (h1 : m.length ≤ 16) (h2 : ¬ (m.headD 0 = 48 ∧ (1 < m.length ∨ b = true))) (h3 : m.all isDig = true) : digOk m b = true := by
  unfold digOk
  rw [h3, decide_eq_true h1]
  have : (decide (m.headD 0 = 48) && (decide (1 < m.length) || b)) = false := by
    rw [Bool.eq_false_iff]
    simp only [ne_eq, Bool.and_eq_true, Bool.or_eq_true, decide_eq_true_eq]
    exact h2
  rw [this]
  cases m with
  | nil => exact absurd rfl h0
  | cons a m => rfl
theorem all_of_not {r : ByteArray} {m : List UInt8} (hr : SB r m) {k : Nat} (hk : k < r.size) (h : isDig r[k] = false) : m.all isDig = false := by
  rw [List.all_eq_false]
  refine ⟨r[k], ?_, by simp [h]⟩
  have hk' : k < m.length := by rw [← hr.size]; exact hk
  rw [hr.get k hk hk']
  exact List.getElem_mem hk'
theorem headD_get {r : ByteArray} {m : List UInt8} (hr : SB r m) (hk : 0 < r.size) : m.headD 0 = r[0] := by
  have hk' : 0 < m.length := by rw [← hr.size]; exact hk
  rw [hr.get 0 hk hk']
  cases m with
  | nil => simp at hk'
  | cons a m => rfl
theorem wrap_neg {a : Int} (h : -10000000000000000 < a ∧ a < 10000000000000000) : wrap64 (-a) = -a := by unfold wrap64; omega
theorem valD_small {m : List UInt8} (h : m.all isDig = true) (hl : m.length ≤ 16) : 0 ≤ valD m ∧ valD m < 10000000000000000 := by
  have hb := valD_bd _ h
  have h3 : (10 : Int) ^ m.length ≤ 10 ^ 16 := by
    have := Nat.pow_le_pow_right (show 0 < 10 by decide) hl
    exact_mod_cast this
  omega
theorem valD_small' {m : List UInt8} (h : m.all isDig = true) (hl : m.length ≤ 15) : 0 ≤ valD m ∧ valD m < 1000000000000000 := by
  have hb := valD_bd _ h
  have h3 : (10 : Int) ^ m.length ≤ 10 ^ 15 := by
    have := Nat.pow_le_pow_right (show 0 < 10 by decide) hl
    exact_mod_cast this
  omega

set_option maxHeartbeats 1600000 in
set_option maxRecDepth 100000 in
theorem number_digits (s r : ByteArray) (m : List UInt8) (b : Bool) (v c : Int) (w : World)
    (hcut : Hid (∀ w, Calls Tryd.prog 84 #[.string s, .string ⟨#[45]⟩] w fun e w' => e = .returned (.tuple #[.string r, .bool b]) ∧ w = w'))
    (hr : Hid (SB r m)) (h16 : r.size ≤ 16) (hpos : 0 < r.size) (HL : Hid (r.size = m.length)) (HN : Hid (NumOf m b v c)) (HD2 : Hid (m.all isDig = true → digOk m b = true)) (h0 : ¬ r.toList = [])
    (hq : (((r[0].toNat : Int) == 48) = true ∧ b = false ∧ decide ((1 : Int) < (r.size : Int)) = false) ∨ ((r[0].toNat : Int) == 48) = false) :
    Calls Tryd.prog 130 #[.string s] w fun e w' => e = .returned (.tuple #[.int .i64 v, .int .i64 c]) ∧ w = w' := by
  have h0' : r.toList.isEmpty = false := by
    cases e : r.toList with
    | nil => exact absurd e h0
    | cons a l => rfl
  have hz16 : decide ((16 : Int) < (r.size : Int)) = false := decide_eq_false (by omega)
  rcases hq with ⟨q0, rfl, hz1⟩ | q0
  all_goals
    go_enter Tryd.func130, Tryd.ntmps130
    go_wp2_with fail
    refine (hcut.out _).mono ?_
    rintro e w' ⟨rfl, rfl⟩
    go_wp2_with fail
    go_loop [6, 35] (fun t i => ∃ (k : Nat) (a : Int), k ≤ r.size ∧ i = .int .i64 k ∧ t = .int .i64 a ∧ a = valD (m.take k) ∧ (m.take k).all isDig = true) (fun _ i => r.size - (intOf i).toNat)
    case atStart => exact ⟨0, 0, Nat.zero_le _, rfl, rfl, rfl, rfl⟩
    case round =>
      obtain ⟨k, a, hk, rfl, rfl, ha, hall⟩ := hrel
      have HA := Lib.hid ha
      have HALL := Lib.hid hall
      by_cases hlt : k < r.size
      · have hb := valD_small' hall (by rw [List.length_take]; omega)
        rw [← ha] at hb
        obtain ⟨hb0, hb1⟩ := hb
        clear ha hall
        have HT := Lib.hid (valD_take hlt)
        have HS := Lib.hid (all_take hlt)
        rw [hr.out] at HT HS
        by_cases hd : 48 ≤ r[k].toNat ∧ r[k].toNat ≤ 57
        · have HDG := Lib.hid ((isDig_iff r[k]).2 hd)
          obtain ⟨hd1, hd2⟩ := hd
          have q1 : decide ((r[k].toNat : Int) < 48) = false := decide_eq_false (by omega)
          have q2 : decide ((57 : Int) < (r[k].toNat : Int)) = false := decide_eq_false (by omega)
          go_wp2_with fail
          go_round
          case rel => exact ⟨k + 1, _, by omega, by go_num, rfl, by rw [HT.out, HA.out], by rw [HS.out, HALL.out, HDG.out]; rfl⟩
          case measure => simp [intOf]; omega
        · have HDG := Lib.hid (HN.out.no (digOk_char (all_of_not hr.out hlt (by
            rw [Bool.eq_false_iff]; intro e; exact hd ((isDig_iff r[k]).1 e)))))
          have q1 : decide ((r[k].toNat : Int) < 48) = true ∨ (decide ((r[k].toNat : Int) < 48) = false ∧ decide ((57 : Int) < (r[k].toNat : Int)) = true) := by
            by_cases h : r[k].toNat < 48
            · exact .inl (decide_eq_true (by omega))
            · exact .inr ⟨decide_eq_false (by omega), decide_eq_true (by omega)⟩
          clear hd HT HS
          rcases q1 with q1 | ⟨q1, q2⟩
          all_goals
            go_wp2_with fail
            go_ret2
            exact ⟨ret_two HDG.out.1.symm HDG.out.2.symm, rfl⟩
      · have hkk : k = r.size := by omega
        have hbb := valD_small hall (by rw [List.length_take]; omega)
        rw [← ha] at hbb
        have hft : m.take k = m := List.take_of_length_le (by rw [hkk, HL.out]; exact Nat.le_refl _)
        rw [hft] at HA HALL
        have HY := Lib.hid (HN.out.yes (HD2.out HALL.out))
        clear ha hall hft hkk
        obtain ⟨hb0, hb1⟩ := hbb
        first
        | cases b
          · go_wp2_with fail
            go_ret2
            exact ⟨ret_two (HA.out.trans HY.out.1.symm) HY.out.2.symm, rfl⟩
          · go_wp2_with fail
            go_ret2
            exact ⟨ret_two ((congrArg (fun x => -x) HA.out).trans HY.out.1.symm) HY.out.2.symm, rfl⟩
        | (go_wp2_with fail
           go_ret2
           exact ⟨ret_two (HA.out.trans HY.out.1.symm) HY.out.2.symm, rfl⟩)
set_option maxHeartbeats 1600000 in
set_option maxRecDepth 100000 in
theorem number_core (s r : ByteArray) (m : List UInt8) (b : Bool) (v c : Int) (w : World)
    (hcut : Hid (∀ w, Calls Tryd.prog 84 #[.string s, .string ⟨#[45]⟩] w fun e w' => e = .returned (.tuple #[.string r, .bool b]) ∧ w = w'))
    (hr : Hid (SB r m)) (hsz : r.size ≤ 140737488351232) (HN : Hid (NumOf m b v c)) :
    Calls Tryd.prog 130 #[.string s] w fun e w' => e = .returned (.tuple #[.int .i64 v, .int .i64 c]) ∧ w = w' := by
  by_cases h0 : r.toList = []
  · have HD := Lib.hid (HN.out.no (by
      have : m = [] := by rw [← hr.out, ← ByteArray.toList_eq]; exact h0
      rw [this]; rfl))
    have h0' : r.toList.isEmpty = true := by rw [h0]; rfl
    go_enter Tryd.func130, Tryd.ntmps130
    go_wp2_with fail
    refine (hcut.out _).mono ?_
    rintro e w' ⟨rfl, rfl⟩
    go_wp2_with fail
    go_ret2
    exact ⟨ret_two HD.out.1.symm HD.out.2.symm, rfl⟩
  · have h0' : r.toList.isEmpty = false := by
      cases e : r.toList with
      | nil => exact absurd e h0
      | cons a l => rfl
    have hpos : 0 < r.size := by
      rw [ByteArray.toList_eq] at h0
      obtain ⟨⟨l⟩⟩ := r
      cases l with
      | nil => exact absurd rfl h0
      | cons a l => simp [ByteArray.size]
    have HL := Lib.hid hr.out.size
    by_cases h1 : 16 < r.size
    · have HD := Lib.hid (HN.out.no (digOk_len (by rw [← HL.out]; exact h1)))
      go_enter Tryd.func130, Tryd.ntmps130
      go_wp2_with fail
      refine (hcut.out _).mono ?_
      rintro e w' ⟨rfl, rfl⟩
      go_wp2_with fail
      go_ret2
      exact ⟨ret_two HD.out.1.symm HD.out.2.symm, rfl⟩
    · have HH := Lib.hid (headD_get hr.out hpos)
      by_cases h2 : r[0] = 48 ∧ (1 < r.size ∨ b = true)
      · have HD := Lib.hid (HN.out.no (digOk_zero (HH.out.trans h2.1) (by rw [← HL.out]; exact h2.2)))
        have q0 : ((r[0].toNat : Int) == 48) = true := by rw [h2.1]; rfl
        have h3 := h2.2
        clear h2
        by_cases h4 : 1 < r.size
        · clear h3
          go_enter Tryd.func130, Tryd.ntmps130
          go_wp2_with fail
          refine (hcut.out _).mono ?_
          rintro e w' ⟨rfl, rfl⟩
          go_wp2_with fail
          go_ret2
          exact ⟨ret_two HD.out.1.symm HD.out.2.symm, rfl⟩
        · obtain rfl : b = true := by
            rcases h3 with h | h
            · exact absurd h h4
            · exact h
          clear h3
          go_enter Tryd.func130, Tryd.ntmps130
          go_wp2_with fail
          refine (hcut.out _).mono ?_
          rintro e w' ⟨rfl, rfl⟩
          go_wp2_with fail
          go_ret2
          exact ⟨ret_two HD.out.1.symm HD.out.2.symm, rfl⟩
      · have q0 : (((r[0].toNat : Int) == 48) = true ∧ b = false ∧ ¬ 1 < r.size) ∨ ((r[0].toNat : Int) == 48) = false := by
          by_cases k : r[0] = 48
          · left
            have k2 : ¬ (1 < r.size ∨ b = true) := fun k2 => h2 ⟨k, k2⟩
            refine ⟨by rw [k]; rfl, ?_, fun k4 => k2 (.inl k4)⟩
            cases b
            · rfl
            · exact absurd (.inr rfl) k2
          · right
            rw [beq_eq_false_iff_ne]
            intro e
            apply k
            apply UInt8.toNat_inj.1
            have h48 : (48 : UInt8).toNat = 48 := rfl
            omega
        have HD2 := Lib.hid (show m.all isDig = true → digOk m b = true from fun ha => digOk_true (by
          intro e
          have := HL.out
          rw [e, List.length_nil] at this
          omega) (by rw [← HL.out]; omega) (by
          rintro ⟨e1, e2⟩
          exact h2 ⟨by rw [← HH.out]; exact e1, by rw [HL.out]; exact e2⟩) ha)
        exact number_digits s r m b v c w hcut hr (by omega) hpos HL HN HD2 h0 (by
          rcases q0 with ⟨q0, q1, q2⟩ | q0
          · exact .inl ⟨q0, q1, decide_eq_false (by omega)⟩
          · exact .inr q0)
/-- raw.Number -/
theorem number_any (s : ByteArray) (l : List UInt8) (w : World) (hs : SB s l) (hsz : s.size ≤ 140737488351232) :
    Calls Tryd.prog 130 #[.string s] w fun e w' => e = .returned (.tuple #[.int .i64 (numV l), .int .i64 (numC l)]) ∧ w = w' := by
  have hr := hs.trim
  refine number_core s ⟨(Lib.trimPrefix s.data.toList [45]).toArray⟩ (restL l) (signB l) _ _ w (Lib.hid fun w => ?_) (Lib.hid hr) ?_ (Lib.hid ⟨rfl, rfl⟩)
  · refine (Tryd.strings_CutPrefix s ⟨#[45]⟩ w).mono ?_
    rintro e w' ⟨rfl, rfl⟩
    have e1 : (ByteArray.mk #[45]).data.toList = [45] := rfl
    rw [e1, show Lib.hasPrefix s.data.toList [45] = signB l from by rw [signB, ← hs]]
    exact ⟨rfl, rfl⟩
  · rw [hr.size]
    have : (restL l).length ≤ l.length := by
      unfold restL Lib.trimPrefix
      split
      · simp
      · exact Nat.le_refl _
    have := hs.size
    omega
end Go.Proofs.YtgdlcoicejgdkaaDoor
