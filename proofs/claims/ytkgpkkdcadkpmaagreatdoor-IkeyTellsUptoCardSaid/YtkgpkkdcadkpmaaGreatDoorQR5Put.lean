import Derived.Test.YtkgpkkdcadkpmaaGreatDoorQIkeyTellsUptoP5
import Derived.Test.YtkgpkkdcadkpmaaGreatDoorQIkeyTellsUptoP11
import Derived.Test.YtkgpkkdcadkpmaaGreatDoorQIkeyTellsUptoP12
import Derived.Test.YtkgpkkdcadkpmaaGreatDoorQIkeyTellsUptoP13
import Derived.Test.YtkgpkkdcadkpmaaGreatDoorQIkeyTellsUptoP14
import Derived.Test.YtkgpkkdcadkpmaaGreatDoorQIkeyTellsUptoP2
import Derived.Test.YtkgpkkdcadkpmaaGreatDoorQIkeyTellsUptoP1
import Derived.Test.YtkgpkkdcadkpmaaGreatDoorShelf
import Derived.Test.YtkgpkkdcadkpmaaGreatDoorQIkeyTellsUptoP9

/- bedrockref5.Valid, bedrockref5.Put. By an AI agent. -/
section
set_option linter.unusedVariables false
set_option linter.unusedSimpArgs false
namespace Go.Proofs.YtkgpkkdcadkpmaaGreatDoor
open Go.RowKit

set_option maxHeartbeats 1600000 in
set_option maxRecDepth 100000 in
theorem r5valid_any (key : ByteArray) (a : Option Addr) (n ca : Nat) (xs : List Int) (o t k : Int) (x : Nat) (m : Int) (s : ByteArray) (r : Bool) (w : World) (hkey : key.size ≤ 140737488351232) (hx : IA w a n xs) (HR : Hid (validK ⟨key, xs, o, t, ⟨k, x, m, s⟩⟩ = r)) :
    Calls Tryz.prog 13 #[.agg #[.string key, .slice a n ca, .int .i64 o, .int .i64 t, .int .i64 k, .float .f64 x, .int .i64 m, .string s]] w fun e w' => e = .returned (.bool r) ∧ Bl w w' := by
  have HL := Lib.hid hx.len
  have hI := hx.keep ((Bl.refl w).alloc (.cells #[.string key, .slice a n ca, .int .i64 o, .int .i64 t, .int .i64 k, .float .f64 x, .int .i64 m, .string s] 28))
  have H1 := Lib.hid (fun w hx => rvalid_any a n ca xs w hx)
  cases hk : isKeyB key
  · have HK := Lib.hid hk
    clear hk
    go_enter Tryz.func13, Tryz.ntmps13
    go_wp2_with fail
    refine (refIsKey_any key _ hkey).mono ?_
    rintro e w1 ⟨rfl, rfl⟩
    rw [HK.out]
    go_wp2_with fail
    go_ret
    exact ⟨ret_bool (by rw [← HR.out]; simp [validK, HK.out]), (Bl.refl w).alloc _⟩
  · have HK := Lib.hid hk
    clear hk
    cases hv : validL xs
    · have HV := Lib.hid hv
      clear hv
      go_enter Tryz.func13, Tryz.ntmps13
      go_wp2_with fail
      refine (refIsKey_any key _ hkey).mono ?_
      rintro e w1 ⟨rfl, rfl⟩
      rw [HK.out]
      go_wp2_with fail
      refine (H1.out _ hI).mono ?_
      rintro e w1 ⟨rfl, rfl⟩
      rw [HV.out]
      go_wp2_with fail
      go_ret
      exact ⟨ret_bool (by rw [← HR.out]; simp [validK, HV.out]), (Bl.refl w).alloc _⟩
    · have HV := Lib.hid hv
      clear hv
      go_enter Tryz.func13, Tryz.ntmps13
      go_wp2_with fail
      refine (refIsKey_any key _ hkey).mono ?_
      rintro e w1 ⟨rfl, rfl⟩
      rw [HK.out]
      go_wp2_with fail
      refine (H1.out _ hI).mono ?_
      rintro e w1 ⟨rfl, rfl⟩
      rw [HV.out]
      clear hI
      go_wp2_with fail
      all_goals (go_ret; refine ⟨ret_bool ?_, (Bl.refl w).alloc _⟩)
      all_goals (
        have h1 := HK.out
        have h2 := HV.out
        have h3 := HL.out
        rw [← HR.out]
        clear HK HV HL HR H1
        unfold validK
        rw [Bool.eq_iff_iff]
        simp_all
        try omega)

set_option maxRecDepth 100000 in
theorem r5put_no (key : ByteArray) (a : Option Addr) (n ca : Nat) (xs : List Int) (o t k : Int) (x : Nat) (m : Int) (s : ByteArray) (w : World) (hkey : key.size ≤ 140737488351232) (hx : IA w a n xs) (HR : Hid (validK ⟨key, xs, o, t, ⟨k, x, m, s⟩⟩ = false)) :
    Calls Tryz.prog 7 #[.agg #[.string key, .slice a n ca, .int .i64 o, .int .i64 t, .int .i64 k, .float .f64 x, .int .i64 m, .string s]] w fun e w' => e = .returned (.tuple #[.string ⟨#[]⟩, .int .i64 1]) ∧ Bl w w' := by
  have hI := hx.keep ((Bl.refl w).alloc (.cells #[.string key, .slice a n ca, .int .i64 o, .int .i64 t, .int .i64 k, .float .f64 x, .int .i64 m, .string s] 28))
  have cb := ver_box w key a n ca o t k x m s
  have hbl := (Bl.refl w).alloc (.cells #[.string key, .slice a n ca, .int .i64 o, .int .i64 t, .int .i64 k, .float .f64 x, .int .i64 m, .string s] 28)
  go_enter Tryz.func7, Tryz.ntmps7
  go_wp2_with fail
  refine (r5valid_any key a n ca xs o t k x m s false _ hkey hI HR).mono ?_
  rintro e w1 ⟨rfl, hb⟩
  go_wp2_with fail
  go_ret2
  exact ⟨rfl, hbl.trans hb⟩
theorem refPutI (x : Int) (n : Nat) (w : World) (h0 : 0 ≤ x) (hn : 1 ≤ n) (hn7 : n ≤ 7) (hx : x < 9223372036854775808) (h : x / 2 ^ (8 * n) = 0) :
    Calls Tryz.prog 24 #[.int .i64 x, .int .i64 n] w fun e w' => e = .returned (.tuple #[.string (strOfNums (putN x n n)), .int .i64 0]) ∧ Bl w w' := by
  obtain ⟨v, rfl⟩ := Int.eq_ofNat_of_zero_le h0
  exact refPut_any v n w hn hn7 (by omega) (by exact_mod_cast h)
set_option maxHeartbeats 1600000 in
set_option maxRecDepth 100000 in
theorem r5put_yes (key : ByteArray) (a : Option Addr) (n ca : Nat) (xs : List Int) (o t k : Int) (x : Nat) (m : Int) (s : ByteArray) (T : Int) (r : ByteArray) (w : World) (hx : IA w a n xs) (HV : Hid (ValidK ⟨key, xs, o, t, ⟨k, x, m, s⟩⟩))
    (HT : Hid (timeL ⟨key, xs, o, t, ⟨k, x, m, s⟩⟩ = T)) (HR : Hid (SB r (putK ⟨key, xs, o, t, ⟨k, x, m, s⟩⟩))) :
    Calls Tryz.prog 7 #[.agg #[.string key, .slice a n ca, .int .i64 o, .int .i64 t, .int .i64 k, .float .f64 x, .int .i64 m, .string s]] w fun e w' => e = .returned (.tuple #[.string r, .int .i64 0]) ∧ Bl w w' := by
  have hk64 : key.size ≤ 64 := by
    have := HV.out.key
    simp only [isKeyB, Bool.and_eq_true, decide_eq_true_eq] at this
    exact this.2.1
  have HR2 := Lib.hid ((validK_iff _).2 HV.out)
  obtain ⟨ht0, ht1⟩ := HV.out.time
  rw [HT.out] at ht0 ht1
  have ho0 : 0 ≤ o := HV.out.o0
  have ho1 : o ≤ 254 := HV.out.o255
  have hx0 : 0 ≤ t := HV.out.t0
  have hx1 : t ≤ 281474976710655 := HV.out.t1
  have hn8 : xs.length ≤ 8 := HV.out.len.2
  have P1 := Lib.hid (fun w => refPutI (281474976710655 - T) 6 w (by omega) (by decide) (by decide) (by omega) (put6_zero (by omega) (by omega)))
  have P2 := Lib.hid (fun w => refPutI (255 - o) 1 w (by omega) (by decide) (by decide) (by omega) (by rw [show (2 : Int) ^ (8 * 1) = 256 from rfl]; omega))
  have P3 := Lib.hid (fun w => refPutI (281474976710655 - t) 6 w (by omega) (by decide) (by decide) (by omega) (put6_zero (by omega) (by omega)))
  have P4 := Lib.hid (fun w hx => rput3_yes a n ca xs w hx HV.out.at_)
  have P5 := Lib.hid (fun w => rhead_any key w (by omega))
  have P6 := Lib.hid (fun w hx => rtime_any ⟨key, xs, o, t, ⟨k, x, m, s⟩⟩ a n ca T w hx HT)
  have z1 := putB_size (281474976710655 - T) 6
  have z2 := putB_size (255 - o) 1
  have z3 := putB_size (281474976710655 - t) 6
  have z4 : (strL (putL xs)).size ≤ 49 := by rw [strL_size, putL_len]; omega
  have z5 : (⟨(headL key.data.toList).toArray⟩ : ByteArray).size ≤ 130 := by
    rw [(SB.mk _).size]
    have := (headL_len key.data.toList).2
    have h : key.data.toList.length = key.size := by simp
    omega
  have HF : Hid ((⟨(headL key.data.toList).toArray⟩ : ByteArray) ++ strOfNums (putN (281474976710655 - T) 6 6) ++ strOfNums (putN (255 - o) 1 1) ++ strOfNums (putN (281474976710655 - t) 6 6) ++ strL (putL xs) = r) := Lib.hid (by
    refine SB.eq (l := putK ⟨key, xs, o, t, ⟨k, x, m, s⟩⟩) ?_ HR.out
    have h := SB.append (SB.append (SB.append (SB.append (SB.mk (headL key.data.toList)) (putB_SB (281474976710655 - T) 6)) (putB_SB (255 - o) 1)) (putB_SB (281474976710655 - t) 6)) (strL_SB (putL xs))
    unfold putK tailK
    rw [HT.out]
    simpa using h)
  generalize strOfNums (putN (281474976710655 - T) 6 6) = s1 at *
  generalize strOfNums (putN (255 - o) 1 1) = s2 at *
  generalize strOfNums (putN (281474976710655 - t) 6 6) = s3 at *
  generalize strL (putL xs) = s4 at *
  generalize (⟨(headL key.data.toList).toArray⟩ : ByteArray) = s5 at *
  have cb := ver_box w key a n ca o t k x m s
  have hbl := (Bl.refl w).alloc (.cells #[.string key, .slice a n ca, .int .i64 o, .int .i64 t, .int .i64 k, .float .f64 x, .int .i64 m, .string s] 28)
  have hI := hx.keep hbl
  clear hn8 hx
  go_enter Tryz.func7, Tryz.ntmps7
  go_wp2_with fail
  refine (r5valid_any key a n ca xs o t k x m s true _ (by omega) hI HR2).mono ?_
  rintro e w1 ⟨rfl, hb⟩
  replace cb := cb.keep hb
  replace hI := hI.keep hb
  replace hbl := hbl.trans hb
  clear hb
  obtain ⟨c0, c1, c2, c3, c4, c5, c6, c7⟩ := cb.ver
  go_wp2_with fail
  refine (P6.out _ hI).mono ?_
  rintro e w2 ⟨rfl, hb⟩
  replace cb := cb.keep hb
  replace hI := hI.keep hb
  replace hbl := hbl.trans hb
  clear hb c0 c1 c2 c3 c4 c5 c6 c7
  go_wp2_with fail
  refine (P1.out _).mono ?_
  rintro e w3 ⟨rfl, hb⟩
  replace cb := cb.keep hb
  replace hI := hI.keep hb
  replace hbl := hbl.trans hb
  clear hb
  obtain ⟨_, _, c2, _, _, _, _, _⟩ := cb.ver
  go_wp2_with fail
  refine (P2.out _).mono ?_
  rintro e w4 ⟨rfl, hb⟩
  replace cb := cb.keep hb
  replace hI := hI.keep hb
  replace hbl := hbl.trans hb
  clear hb c2
  obtain ⟨_, _, _, c3, _, _, _, _⟩ := cb.ver
  go_wp2_with fail
  refine (P3.out _).mono ?_
  rintro e w5 ⟨rfl, hb⟩
  replace cb := cb.keep hb
  replace hI := hI.keep hb
  replace hbl := hbl.trans hb
  clear hb c3
  obtain ⟨_, c1, _, _, _, _, _, _⟩ := cb.ver
  go_wp2_with fail
  refine (P4.out _ hI).mono ?_
  rintro e w6 ⟨rfl, hb⟩
  replace cb := cb.keep hb
  replace hbl := hbl.trans hb
  clear hb c1 hI
  obtain ⟨c0, _, _, _, _, _, _, _⟩ := cb.ver
  go_wp2_with fail
  refine (P5.out _).mono ?_
  rintro e w7 ⟨rfl, hb⟩
  replace hbl := hbl.trans hb
  clear hb c0 cb
  go_wp2_with fail
  go_ret2
  exact ⟨by rw [HF.out]; rfl, hbl⟩
theorem r5put_any (key : ByteArray) (a : Option Addr) (n ca : Nat) (xs : List Int) (o t k : Int) (x : Nat) (m : Int) (s : ByteArray) (r : ByteArray) (c : Int) (w : World) (hkey : key.size ≤ 140737488351232) (hx : IA w a n xs) (HR : Hid (SB r (kputS ⟨key, xs, o, t, ⟨k, x, m, s⟩⟩) ∧ kputC ⟨key, xs, o, t, ⟨k, x, m, s⟩⟩ = c)) :
    Calls Tryz.prog 7 #[.agg #[.string key, .slice a n ca, .int .i64 o, .int .i64 t, .int .i64 k, .float .f64 x, .int .i64 m, .string s]] w fun e w' => e = .returned (.tuple #[.string r, .int .i64 c]) ∧ Bl w w' := by
  obtain ⟨h1, h2⟩ := HR.out
  unfold kputS at h1
  unfold kputC at h2
  cases hv : validK ⟨key, xs, o, t, ⟨k, x, m, s⟩⟩
  · rw [hv] at h1 h2
    have e1 : r = ⟨#[]⟩ := SB.eq h1 rfl
    have e2 : c = 1 := h2.symm
    subst e1; subst e2
    exact r5put_no key a n ca xs o t k x m s w hkey hx (Lib.hid hv)
  · rw [hv] at h1 h2
    have e2 : c = 0 := h2.symm
    subst e2
    exact r5put_yes key a n ca xs o t k x m s _ r w hx (Lib.hid ((validK_iff _).1 hv)) (Lib.hid rfl) (Lib.hid h1)
end Go.Proofs.YtkgpkkdcadkpmaaGreatDoor
end
