/- the walk of OpTexts, every way. By an AI agent. -/
import Derived.Test.YtafoagllbajfnaaDoorTextsW
import Derived.Test.YtafoagllbajfnaaDoorOpenA
namespace Go.Proofs.YtafoagllbajfnaaDoor
open Go.RowKit

set_option maxHeartbeats 1600000 in
set_option maxRecDepth 100000 in
theorem texts_no1 (key : ByteArray) (ak : Int) (ax : Nat) (an : Int) (az : ByteArray) (bk : Int) (bx : Nat) (bn : Int) (bz : ByteArray) (w : World)
    (hkey : key.size ≤ 140737488351232) (hT : Tab w)
    (Oa : Hid (ActL.Ok ⟨ak, ax, an, az⟩)) (On : Hid (ValL.Ok ⟨false, 0, 0, nilS⟩))
    (Fa : Hid (fitsB key ⟨ak, ax, an, az⟩ = false))
    (E1 : Hid (afterL key ⟨false, 0, 0, nilS⟩ ⟨ak, ax, an, az⟩ = ⟨false, 0, 0, nilS⟩)) (S1 : Hid (sameV ⟨false, 0, 0, nilS⟩ ⟨false, 0, 0, nilS⟩ = true)) :
    Calls Tryd.prog 3 #[.string key, .agg #[.int .i64 ak, .float .f64 ax, .int .i64 an, .string az], .agg #[.int .i64 bk, .float .f64 bx, .int .i64 bn, .string bz]] w fun e w' => e = .returned (.bool true) ∧ Bl w w' := by
  go_enter Tryd.func3, Tryd.ntmps3
  go_wp2_with fail
  refine (fits_agg key ak ax an az false _ Fa hkey Oa).mono ?_
  rintro e w1 ⟨rfl, hb1⟩
  have G := (Two.new w ⟨ak, ax, an, az⟩ ⟨bk, bx, bn, bz⟩ _ _).keep hb1
  clear hb1
  go_wp2_with fail
  refine (alive6_any _ (hT.keep G.bl)).mono ?_
  rintro e w2 ⟨rfl, hb2⟩
  have G := G.keep hb2
  clear hb2
  obtain ⟨a0, a1, a2, a3⟩ := G.a.act
  go_wp2_with fail
  refine (fits_agg key ak ax an az false _ Fa hkey Oa).mono ?_
  rintro e w3 ⟨rfl, hb3⟩
  have G := G.keep hb3
  clear hb3 a0 a1 a2 a3
  obtain ⟨a0, a1, a2, a3⟩ := G.a.act
  go_wp2_with fail
  refine (after_agg key false 0 0 nilS ak ax an az _ _ _ _ _ E1 hkey On Oa).mono ?_
  rintro e w4 ⟨rfl, hb4⟩
  have G := G.keep hb4
  clear hb4 a0 a1 a2 a3
  go_wp2_with fail
  refine (same_agg _ _ _ _ _ _ _ _ _ _ S1 On On).mono ?_
  rintro e w5 ⟨rfl, hb5⟩
  have G := G.keep hb5
  go_wp2_with fail
  go_ret
  exact ⟨rfl, G.bl⟩
set_option maxHeartbeats 1600000 in
set_option maxRecDepth 100000 in
theorem texts_no2 (key : ByteArray) (ak : Int) (ax : Nat) (an : Int) (az : ByteArray) (bk : Int) (bx : Nat) (bn : Int) (bz : ByteArray) (w : World)
    (hkey : key.size ≤ 140737488351232) (hT : Tab w)
    (Oa : Hid (ActL.Ok ⟨ak, ax, an, az⟩)) (Ob : Hid (ActL.Ok ⟨bk, bx, bn, bz⟩))
    (Fa : Hid (fitsB key ⟨ak, ax, an, az⟩ = true)) (Fb : Hid (fitsB key ⟨bk, bx, bn, bz⟩ = false)) :
    Calls Tryd.prog 3 #[.string key, .agg #[.int .i64 ak, .float .f64 ax, .int .i64 an, .string az], .agg #[.int .i64 bk, .float .f64 bx, .int .i64 bn, .string bz]] w fun e w' => e = .returned (.bool true) ∧ Bl w w' := by
  go_enter Tryd.func3, Tryd.ntmps3
  go_wp2_with fail
  refine (fits_agg key ak ax an az true _ Fa hkey Oa).mono ?_
  rintro e w1 ⟨rfl, hb1⟩
  have G := (Two.new w ⟨ak, ax, an, az⟩ ⟨bk, bx, bn, bz⟩ _ _).keep hb1
  clear hb1
  obtain ⟨b0, b1, b2, b3⟩ := G.b.act
  go_wp2_with fail
  refine (fits_agg key bk bx bn bz false _ Fb hkey Ob).mono ?_
  rintro e w2 ⟨rfl, hb2⟩
  have G := G.keep hb2
  clear hb2 b0 b1 b2 b3
  go_wp2_with fail
  refine (alive6_any _ (hT.keep G.bl)).mono ?_
  rintro e w2 ⟨rfl, hb2⟩
  have G := G.keep hb2
  clear hb2
  obtain ⟨a0, a1, a2, a3⟩ := G.a.act
  go_wp2_with fail
  refine (fits_agg key ak ax an az true _ Fa hkey Oa).mono ?_
  rintro e w3 ⟨rfl, hb3⟩
  have G := G.keep hb3
  go_wp2_with fail
  go_ret
  exact ⟨rfl, G.bl⟩
theorem opTexts_walk (key : ByteArray) (a b : ActL) (w : World) (hkey : key.size ≤ 140737488351232) (oa : a.Ok) (ob : b.Ok) (hT : Tab w) :
    Calls Tryd.prog 3 #[.string key, .agg #[.int .i64 a.k, .float .f64 a.x, .int .i64 a.n, .string a.s], .agg #[.int .i64 b.k, .float .f64 b.x, .int .i64 b.n, .string b.s]] w fun e w' => e = .returned (.bool true) ∧ Bl w w' := by
  obtain ⟨ak, ax, an, az⟩ := a
  obtain ⟨bk, bx, bn, bz⟩ := b
  have On : ValL.Ok ⟨false, 0, 0, nilS⟩ := noVal_ok
  cases fa : fitsB key ⟨ak, ax, an, az⟩
  · exact texts_no1 key ak ax an az bk bx bn bz w hkey hT (Lib.hid oa) (Lib.hid On) (Lib.hid fa) (Lib.hid (after_not _ fa)) (Lib.hid (sameV_refl _))
  · cases fb : fitsB key ⟨bk, bx, bn, bz⟩
    · exact texts_no2 key ak ax an az bk bx bn bz w hkey hT (Lib.hid oa) (Lib.hid ob) (Lib.hid fa) (Lib.hid fb)
    · have hv : afterL key noVal ⟨ak, ax, an, az⟩ = valOf ⟨ak, ax, an, az⟩ := after_none fa
      have hu : afterL key noVal ⟨bk, bx, bn, bz⟩ = valOf ⟨bk, bx, bn, bz⟩ := after_none fb
      have hl := texts_law oa ob fa fb
      have ht := valOf_there ⟨ak, ax, an, az⟩
      have ov : (valOf ⟨ak, ax, an, az⟩).Ok := valOf_ok oa
      have ou : (valOf ⟨bk, bx, bn, bz⟩).Ok := valOf_ok ob
      have hz : ∀ c : ActL, fitsB key c = true → (valOf c).s.size ≤ 1000000 := fun c hc => by
        have h1 : c.s.size ≤ 1024 := by
          have hr := (fits_key hc).2
          simp only [rightB, Bool.and_eq_true, decide_eq_true_eq] at hr
          exact hr.1
        unfold valOf
        split
        · decide
        · show c.s.size ≤ _; omega
      have z1 := hz _ fa
      have z2 := hz _ fb
      rw [hv, hu] at hl
      generalize hV : valOf ⟨ak, ax, an, az⟩ = v at *
      generalize hU : valOf ⟨bk, bx, bn, bz⟩ = u at *
      obtain ⟨vb, vx, vn, vz⟩ := v
      obtain ⟨ub, ux, un, uz⟩ := u
      refine texts_yes key ak ax an az bk bx bn bz vb vx vn vz ub ux un uz w hkey hT (Lib.hid oa) (Lib.hid ob) (Lib.hid On) (Lib.hid fa) (Lib.hid fb) (Lib.hid hv) (Lib.hid hu)
        ⟨(textV key ⟨vb, vx, vn, vz⟩).toArray⟩ ⟨(textV key ⟨ub, ux, un, uz⟩).toArray⟩ _ (Lib.hid ov) (Lib.hid ou) z1 z2 (Lib.hid (SB.mk _)) (Lib.hid (SB.mk _)) (Lib.hid rfl) ?_ ?_
      · rw [SB.beq (SB.mk _) (SB.mk _)]; exact hl
      · have ht2 : vb = decide (ak ≠ 4) := ht
        rw [ht2]
        by_cases h4 : ak = 4
        · subst h4; rfl
        · rw [decide_eq_true h4]; simp [h4]
end Go.Proofs.YtafoagllbajfnaaDoor
