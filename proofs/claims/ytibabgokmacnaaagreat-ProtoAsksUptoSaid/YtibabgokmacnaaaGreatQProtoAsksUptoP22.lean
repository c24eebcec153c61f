import Derived.Test.YtibabgokmacnaaaGreatQProtoAsksUptoP10
import Derived.Test.YtibabgokmacnaaaGreatQProtoAsksUptoP11
import Derived.Test.YtibabgokmacnaaaGreatQProtoAsksUptoP21
import Derived.Deep.DeepCutAuto
import Derived.Test.YtibabgokmacnaaaGreatQProtoAsksUptoP1
import Derived.Deep.QuietTactic
import Derived.BigQuiet

/- bedrockref26.Valid = validA. By an AI agent. -/
section
set_option linter.unusedVariables false
set_option linter.unusedSimpArgs false
namespace Go.Proofs.YtibabgokmacnaaaGreat
open Go.RowKit

theorem rhasU (u : ByteArray) (c : Nat) (b : Bool) (w : World) (hc : c < 256) (hs : u.size ≤ 10) (h : hasL u c = b) :
    Calls Tryz.prog 159 #[.string u, .int .u8 c] w fun e w' => e = .returned (.bool b) ∧ Bl w w' := by
  refine (rhas_any u c w hc (Nat.le_trans hs (by decide))).mono ?_
  rintro e w' ⟨rfl, rfl⟩
  exact ⟨by rw [h], Bl.refl _⟩
theorem rnumU (n : Int) (u b : Bool) (w : World) (h : -9223372036854775808 ≤ n ∧ n ≤ 9223372036854775807) (hb : rangeB n u = b) :
    Calls Tryz.prog 158 #[.int .i64 n, .bool u] w fun e w' => e = .returned (.bool b) ∧ Bl w w' := by
  refine (rnumber_any n u w h.1 h.2).mono ?_
  rintro e w' ⟨rfl, rfl⟩
  exact ⟨by rw [hb], Bl.refl _⟩
theorem validA_sum {a : AskL} {n : Nat} (hk : 0 ≤ a.kind ∧ a.kind ≤ 15) (hl : a.at_.length = n) (h4 : askNumsB a = true) (h6 : (decide (n = 0) || (uAt a.kind && validL a.at_)) = true)
    (h8 : (decide (a.key.size = 0) || (uKey a.kind && decide (a.key.size ≤ 64))) = true) (h10 : (decide (a.text.size = 0) || (uText a.kind && decide (a.text.size ≤ 32768))) = true) : validA a = askActB a := by
  subst hl
  have k1 : decide (a.key.size ≤ 64) = true := by
    simp only [Bool.or_eq_true, Bool.and_eq_true, decide_eq_true_eq] at h8 ⊢
    omega
  have t1 : decide (a.text.size ≤ 32768) = true := by
    simp only [Bool.or_eq_true, Bool.and_eq_true, decide_eq_true_eq] at h10 ⊢
    omega
  have e1 : askFrontB a = true := by
    unfold askFrontB
    rw [decide_eq_true hk, k1, t1, h6]; rfl
  have e2 : askTextsB a = true := by
    unfold askTextsB
    rw [k1, Bool.and_true] at h8
    rw [t1, Bool.and_true] at h10
    rw [Bool.or_comm, h8, Bool.or_comm, h10]; rfl
  unfold validA
  rw [e1, e2, h4]; simp
set_option maxHeartbeats 3200000 in
set_option maxRecDepth 100000 in
theorem rvalidA_in (k s t i m : Int) (ad : Option Addr) (n ca : Nat) (xs : List Int) (key text : ByteArray) (ak : Int) (ax : Nat) (an : Int) (az : ByteArray) (w : World) (hk : 0 ≤ k ∧ k ≤ 15)
    (hs : -9223372036854775808 ≤ s ∧ s ≤ 9223372036854775807) (ht : -9223372036854775808 ≤ t ∧ t ≤ 9223372036854775807) (hi : -9223372036854775808 ≤ i ∧ i ≤ 9223372036854775807) (hm : -9223372036854775808 ≤ m ∧ m ≤ 9223372036854775807)
    (ok : AskOk w ⟨k, s, t, i, m, xs, key, text, ⟨ak, ax, an, az⟩⟩ ad n) (r1 r2 r3 r4 : Bool) (R1 : Hid (rangeB s (uSes k) = r1)) (R2 : Hid (rangeB t (uTx k) = r2)) (R3 : Hid (rangeB i (uId k) = r3)) (R4 : Hid (rangeB m (uNum k) = r4)) :
    Calls Tryz.prog 52 #[.agg #[.int .i64 k, .int .i64 s, .int .i64 t, .int .i64 i, .int .i64 m, .slice ad n ca, .string key, .string text, .int .i64 ak, .float .f64 ax, .int .i64 an, .string az]] w fun e w' => e = .returned (.bool (validA ⟨k, s, t, i, m, xs, key, text, ⟨ak, ax, an, az⟩⟩)) ∧ Bl w w' := by
  have hsf := store_float
  have G := AC.new w _ rfl (askCs k s t i m ad n ca key text ak ax an az) 78
  have hb := (Bl.refl w).alloc (.cells (askCs k s t i m ad n ca key text ak ax an az).toArray 78)
  have HOK := Lib.hid (ok.keep hb)
  clear ok
  obtain ⟨c0, c1, c2, c3, c4, c5, c6, c7, c8, c9, c10, c11⟩ := AC.ask G
  have q0 : decide (k < 0) = false := decide_eq_false (by omega)
  have q1 : decide (15 < k) = false := decide_eq_false (by omega)
  have GH := Lib.hid G
  have HB := Lib.hid hb
  clear G hb
  unfold askCs at *
  go_enter Tryz.func52, Tryz.ntmps52
  go_wp2_with fail
  refine (ruses_any k _ hk.1 hk.2).mono ?_
  rintro e w1 ⟨u, rfl, hu, rfl⟩
  have U := Lib.hid hu
  have H1 : Hid (∀ w, Calls Tryz.prog 159 #[.string u, .int .u8 83] w fun e w' => e = .returned (.bool (uSes k)) ∧ Bl w w') := Lib.hid (fun w => rhasU u 83 (uSes k) w (by decide) U.out.small U.out.ses)
  have H2 : Hid (∀ w, Calls Tryz.prog 159 #[.string u, .int .u8 84] w fun e w' => e = .returned (.bool (uTx k)) ∧ Bl w w') := Lib.hid (fun w => rhasU u 84 (uTx k) w (by decide) U.out.small U.out.tx)
  have H3 : Hid (∀ w, Calls Tryz.prog 159 #[.string u, .int .u8 73] w fun e w' => e = .returned (.bool (uId k)) ∧ Bl w w') := Lib.hid (fun w => rhasU u 73 (uId k) w (by decide) U.out.small U.out.id)
  have H4 : Hid (∀ w, Calls Tryz.prog 159 #[.string u, .int .u8 78] w fun e w' => e = .returned (.bool (uNum k)) ∧ Bl w w') := Lib.hid (fun w => rhasU u 78 (uNum k) w (by decide) U.out.small U.out.num)
  have N1 := Lib.hid (fun w => rnumU s (uSes k) r1 w hs R1.out)
  have N2 := Lib.hid (fun w => rnumU t (uTx k) r2 w ht R2.out)
  have N3 := Lib.hid (fun w => rnumU i (uId k) r3 w hi R3.out)
  have N4 := Lib.hid (fun w => rnumU m (uNum k) r4 w hm R4.out)
  clear hu
  generalize w.alloc _ = W at *
  go_upto_region 4 with fail
  go_cut [15] (fun t W' => t = .bool (!(r1 && r2 && r3 && r4)) ∧ Bl W W')
  case first =>
    cases r1
    · refine wp_region_allS (by kernel_rfl) (by kernel_rfl) ?_
      have HGZ := Lib.hid (GH.out.keep ((Bl.refl W).drew))
      have HBZ := Lib.hid ((Bl.refl W).drew)
      have d1 : ∀ q : Ext W.drew, _ := fun q => (HGZ.out.keep q.bl).cell 1 _ rfl
      repeat (refine wpS_step (fun K hK => ?_); go_simp; first | (refine hK _ ?_; clear hK K) | (apply Exists.intro; refine ⟨fun q => ?_, hK _ ?_⟩; (first | with_reducible exact H1.out _ | with_reducible exact N1.out _); clear hK K))
      refine wpS_nil ?_
      intro q1
      go_step
      go_step
      go_meet
      case rel => exact ⟨rfl, HBZ.out.trans q1.bl⟩
    cases r2
    · refine wp_region_allS (by kernel_rfl) (by kernel_rfl) ?_
      have HGZ := Lib.hid (GH.out.keep ((Bl.refl W).drew))
      have HBZ := Lib.hid ((Bl.refl W).drew)
      have d1 : ∀ q : Ext W.drew, _ := fun q => (HGZ.out.keep q.bl).cell 1 _ rfl
      have d2 : ∀ q : Ext W.drew, _ := fun q => (HGZ.out.keep q.bl).cell 2 _ rfl
      repeat (refine wpS_step (fun K hK => ?_); go_simp; first | (refine hK _ ?_; clear hK K) | (apply Exists.intro; refine ⟨fun q => ?_, hK _ ?_⟩; (first | with_reducible exact H1.out _ | with_reducible exact N1.out _ | with_reducible exact H2.out _ | with_reducible exact N2.out _); clear hK K))
      refine wpS_nil ?_
      intro q1
      go_step
      go_step
      go_meet
      case rel => exact ⟨rfl, HBZ.out.trans q1.bl⟩
    cases r3
    · refine wp_region_allS (by kernel_rfl) (by kernel_rfl) ?_
      have HGZ := Lib.hid (GH.out.keep ((Bl.refl W).drew))
      have HBZ := Lib.hid ((Bl.refl W).drew)
      have d1 : ∀ q : Ext W.drew, _ := fun q => (HGZ.out.keep q.bl).cell 1 _ rfl
      have d2 : ∀ q : Ext W.drew, _ := fun q => (HGZ.out.keep q.bl).cell 2 _ rfl
      have d3 : ∀ q : Ext W.drew, _ := fun q => (HGZ.out.keep q.bl).cell 3 _ rfl
      repeat (refine wpS_step (fun K hK => ?_); go_simp; first | (refine hK _ ?_; clear hK K) | (apply Exists.intro; refine ⟨fun q => ?_, hK _ ?_⟩; (first | with_reducible exact H1.out _ | with_reducible exact N1.out _ | with_reducible exact H2.out _ | with_reducible exact N2.out _ | with_reducible exact H3.out _ | with_reducible exact N3.out _); clear hK K))
      refine wpS_nil ?_
      intro q1
      go_step
      go_step
      go_meet
      case rel => exact ⟨rfl, HBZ.out.trans q1.bl⟩
    cases r4
    · refine wp_region_allS (by kernel_rfl) (by kernel_rfl) ?_
      have HGZ := Lib.hid (GH.out.keep ((Bl.refl W).drew))
      have HBZ := Lib.hid ((Bl.refl W).drew)
      have d1 : ∀ q : Ext W.drew, _ := fun q => (HGZ.out.keep q.bl).cell 1 _ rfl
      have d2 : ∀ q : Ext W.drew, _ := fun q => (HGZ.out.keep q.bl).cell 2 _ rfl
      have d3 : ∀ q : Ext W.drew, _ := fun q => (HGZ.out.keep q.bl).cell 3 _ rfl
      have d4 : ∀ q : Ext W.drew, _ := fun q => (HGZ.out.keep q.bl).cell 4 _ rfl
      repeat (refine wpS_step (fun K hK => ?_); go_simp; first | (refine hK _ ?_; clear hK K) | (apply Exists.intro; refine ⟨fun q => ?_, hK _ ?_⟩; (first | with_reducible exact H1.out _ | with_reducible exact N1.out _ | with_reducible exact H2.out _ | with_reducible exact N2.out _ | with_reducible exact H3.out _ | with_reducible exact N3.out _ | with_reducible exact H4.out _ | with_reducible exact N4.out _); clear hK K))
      refine wpS_nil ?_
      intro q1
      go_step
      go_step
      go_meet
      case rel => exact ⟨rfl, HBZ.out.trans q1.bl⟩
    · refine wp_region_allS (by kernel_rfl) (by kernel_rfl) ?_
      have HGZ := Lib.hid (GH.out.keep ((Bl.refl W).drew))
      have HBZ := Lib.hid ((Bl.refl W).drew)
      have d1 : ∀ q : Ext W.drew, _ := fun q => (HGZ.out.keep q.bl).cell 1 _ rfl
      have d2 : ∀ q : Ext W.drew, _ := fun q => (HGZ.out.keep q.bl).cell 2 _ rfl
      have d3 : ∀ q : Ext W.drew, _ := fun q => (HGZ.out.keep q.bl).cell 3 _ rfl
      have d4 : ∀ q : Ext W.drew, _ := fun q => (HGZ.out.keep q.bl).cell 4 _ rfl
      repeat (refine wpS_step (fun K hK => ?_); go_simp; first | (refine hK _ ?_; clear hK K) | (apply Exists.intro; refine ⟨fun q => ?_, hK _ ?_⟩; (first | with_reducible exact H1.out _ | with_reducible exact N1.out _ | with_reducible exact H2.out _ | with_reducible exact N2.out _ | with_reducible exact H3.out _ | with_reducible exact N3.out _ | with_reducible exact H4.out _ | with_reducible exact N4.out _); clear hK K))
      refine wpS_nil ?_
      intro q1
      go_step
      go_step
      go_meet
      case rel => exact ⟨rfl, HBZ.out.trans q1.bl⟩
  case rest =>
    obtain ⟨rfl, hb4⟩ := hcut
    have HG2 := Lib.hid (GH.out.keep hb4)
    have HB2 := Lib.hid (HB.out.trans hb4)
    have HOK2 := Lib.hid (HOK.out.keep hb4)
    clear hb4 c0 c1 c2 c3 c4 c5 c6 c7 c8 c9 c10 c11 H1 H2 H3 H4 N1 N2 N3 N4
    have H5 : Hid (∀ w, Calls Tryz.prog 159 #[.string u, .int .u8 65] w fun e w' => e = .returned (.bool (uAt k)) ∧ Bl w w') := Lib.hid (fun w => rhasU u 65 (uAt k) w (by decide) U.out.small U.out.at_)
    have H6 : Hid (∀ w, Calls Tryz.prog 159 #[.string u, .int .u8 75] w fun e w' => e = .returned (.bool (uKey k)) ∧ Bl w w') := Lib.hid (fun w => rhasU u 75 (uKey k) w (by decide) U.out.small U.out.key)
    have H7 : Hid (∀ w, Calls Tryz.prog 159 #[.string u, .int .u8 88] w fun e w' => e = .returned (.bool (uText k)) ∧ Bl w w') := Lib.hid (fun w => rhasU u 88 (uText k) w (by decide) U.out.small U.out.text)
    have H8 : Hid (∀ w, Calls Tryz.prog 159 #[.string u, .int .u8 67] w fun e w' => e = .returned (.bool (uAct k)) ∧ Bl w w') := Lib.hid (fun w => rhasU u 67 (uAct k) w (by decide) U.out.small U.out.act)
    obtain ⟨d0, d1, d2, d3, d4, d5, d6, d7, d8, d9, d10, d11⟩ := AC.ask HG2.out
    cases hr : (r1 && r2 && r3 && r4)
    · have HF := Lib.hid (show validA ⟨k, s, t, i, m, xs, key, text, ⟨ak, ax, an, az⟩⟩ = false by
        have : askNumsB ⟨k, s, t, i, m, xs, key, text, ⟨ak, ax, an, az⟩⟩ = false := by
          unfold askNumsB
          dsimp only
          rw [R1.out, R2.out, R3.out, R4.out, ← hr]
          cases r1 <;> cases r2 <;> cases r3 <;> rfl
        unfold validA
        rw [this]
        simp)
      clear hr
      go_wp2_with fail
      go_ret
      exact ⟨ret_bool HF.out.symm, HB2.out⟩
    · have HN := Lib.hid (show askNumsB ⟨k, s, t, i, m, xs, key, text, ⟨ak, ax, an, az⟩⟩ = true by
        unfold askNumsB
        dsimp only
        rw [R1.out, R2.out, R3.out, R4.out, ← hr]
        cases r1 <;> cases r2 <;> cases r3 <;> rfl)
      clear hr
      go_upto_region 6 with fail
      go_cut [46] (fun t W' => t = .bool (!(decide (n = 0) || (uAt k && validL xs))) ∧ Bl wc W')
      case first =>
        by_cases hn : n = 0
        · subst hn
          go_wp2_with fail
          go_meet
          case rel => exact ⟨rfl, Bl.refl _⟩
        · have hn0 : 0 < n := Nat.pos_of_ne_zero hn
          have g1 : decide ((0 : Int) < (n : Int)) = true := decide_eq_true (by omega)
          have g2 : decide (0 < n) = true := decide_eq_true hn0
          have g3 : decide (n = 0) = false := decide_eq_false hn
          go_wp2_with fail
          refine (H5.out _).mono ?_
          rintro e w3 ⟨rfl, hb3⟩
          have e5 := hb3.cell d5
          cases hu : uAt k
          · go_wp2_with fail
            go_meet
            case rel => exact ⟨by rw [g3, hu]; rfl, hb3⟩
          · go_wp2_with fail
            refine (rvalid_any _ _ _ xs _ (HOK2.out.x.keep hb3)).mono ?_
            rintro e w4 ⟨rfl, rfl⟩
            cases hv : validL xs
            · go_wp2_with fail
              go_meet
              case rel => exact ⟨by rw [g3, hu, hv]; rfl, hb3⟩
            · go_wp2_with fail
              go_meet
              case rel => exact ⟨by rw [g3, hu, hv]; rfl, hb3⟩
      case rest =>
        obtain ⟨rfl, hb6⟩ := hcut
        have HG6 := Lib.hid (HG2.out.keep hb6)
        have HB6 := Lib.hid (HB2.out.trans hb6)
        clear hb6 d0 d1 d2 d3 d4 d5 d6 d7 d8 d9 d10 d11
        obtain ⟨d0, d1, d2, d3, d4, d5, d6, d7, d8, d9, d10, d11⟩ := AC.ask HG6.out
        cases hf : (decide (n = 0) || (uAt k && validL xs))
        · have HF := Lib.hid (show validA ⟨k, s, t, i, m, xs, key, text, ⟨ak, ax, an, az⟩⟩ = false by
            have hl := HOK2.out.x.len
            unfold validA askFrontB
            dsimp only at hl ⊢
            rw [hl, hf]
            simp)
          clear hf
          go_wp2_with fail
          go_ret
          exact ⟨ret_bool HF.out.symm, HB6.out⟩
        have HA6 := Lib.hid hf
        clear hf
        go_upto_region 8 with fail
        go_cut [62] (fun t W' => t = .bool (!(decide (key.size = 0) || (uKey k && decide (key.size ≤ 64)))) ∧ Bl wc W')
        case first =>
          by_cases hz : key.size = 0
          · have g1 : key.toList.isEmpty = true := empty_of hz
            have g3 : decide (key.size = 0) = true := decide_eq_true hz
            go_wp2_with fail
            go_meet
            case rel => exact ⟨by rw [g3]; rfl, Bl.refl _⟩
          · have g1 : key.toList.isEmpty = false := filled_of (Nat.pos_of_ne_zero hz)
            have g3 : decide (key.size = 0) = false := decide_eq_false hz
            go_wp2_with fail
            refine (H6.out _).mono ?_
            rintro e w3 ⟨rfl, hb3⟩
            have e6 := hb3.cell d6
            cases hu : uKey k
            · go_wp2_with fail
              go_meet
              case rel => exact ⟨by rw [g3, hu]; rfl, hb3⟩
            · go_wp2_with fail
              go_meet
              case rel => exact ⟨by rw [g3, hu]; refine congrArg Value.bool ?_; rw [Bool.eq_iff_iff]; simp; try omega, hb3⟩
        case rest =>
          obtain ⟨rfl, hb8⟩ := hcut
          have HG8 := Lib.hid (HG6.out.keep hb8)
          have HB8 := Lib.hid (HB6.out.trans hb8)
          clear hb8 d0 d1 d2 d3 d4 d5 d6 d7 d8 d9 d10 d11
          obtain ⟨d0, d1, d2, d3, d4, d5, d6, d7, d8, d9, d10, d11⟩ := AC.ask HG8.out
          cases hf : (decide (key.size = 0) || (uKey k && decide (key.size ≤ 64)))
          · have HF := Lib.hid (show validA ⟨k, s, t, i, m, xs, key, text, ⟨ak, ax, an, az⟩⟩ = false by
              obtain ⟨h1, h2⟩ := Bool.or_eq_false_iff.1 hf
              cases hu : uKey k
              · have h3 : askTextsB ⟨k, s, t, i, m, xs, key, text, ⟨ak, ax, an, az⟩⟩ = false := by
                  unfold askTextsB
                  dsimp only
                  rw [hu, h1]; rfl
                unfold validA
                rw [h3]; simp
              · rw [hu, Bool.true_and] at h2
                have h3 : askFrontB ⟨k, s, t, i, m, xs, key, text, ⟨ak, ax, an, az⟩⟩ = false := by
                  unfold askFrontB
                  dsimp only
                  rw [h2]; simp
                unfold validA
                rw [h3]; simp)
            clear hf
            go_wp2_with fail
            go_ret
            exact ⟨ret_bool HF.out.symm, HB8.out⟩
          have HA8 := Lib.hid hf
          clear hf
          go_upto_region 10 with fail
          go_cut [77] (fun t W' => t = .bool (!(decide (text.size = 0) || (uText k && decide (text.size ≤ 32768)))) ∧ Bl wc W')
          case first =>
            by_cases hz : text.size = 0
            · have g1 : text.toList.isEmpty = true := empty_of hz
              have g3 : decide (text.size = 0) = true := decide_eq_true hz
              go_wp2_with fail
              go_meet
              case rel => exact ⟨by rw [g3]; rfl, Bl.refl _⟩
            · have g1 : text.toList.isEmpty = false := filled_of (Nat.pos_of_ne_zero hz)
              have g3 : decide (text.size = 0) = false := decide_eq_false hz
              go_wp2_with fail
              refine (H7.out _).mono ?_
              rintro e w3 ⟨rfl, hb3⟩
              have e7 := hb3.cell d7
              cases hu : uText k
              · go_wp2_with fail
                go_meet
                case rel => exact ⟨by rw [g3, hu]; rfl, hb3⟩
              · go_wp2_with fail
                go_meet
                case rel => exact ⟨by rw [g3, hu]; refine congrArg Value.bool ?_; rw [Bool.eq_iff_iff]; simp; try omega, hb3⟩
          case rest =>
            obtain ⟨rfl, hb10⟩ := hcut
            have HG10 := Lib.hid (HG8.out.keep hb10)
            have HB10 := Lib.hid (HB8.out.trans hb10)
            clear hb10 d0 d1 d2 d3 d4 d5 d6 d7 d8 d9 d10 d11
            obtain ⟨d0, d1, d2, d3, d4, d5, d6, d7, d8, d9, d10, d11⟩ := AC.ask HG10.out
            cases hf : (decide (text.size = 0) || (uText k && decide (text.size ≤ 32768)))
            · have HF := Lib.hid (show validA ⟨k, s, t, i, m, xs, key, text, ⟨ak, ax, an, az⟩⟩ = false by
                obtain ⟨h1, h2⟩ := Bool.or_eq_false_iff.1 hf
                cases hu : uText k
                · have h3 : askTextsB ⟨k, s, t, i, m, xs, key, text, ⟨ak, ax, an, az⟩⟩ = false := by
                    unfold askTextsB
                    dsimp only
                    rw [hu, h1]; simp
                  unfold validA
                  rw [h3]; simp
                · rw [hu, Bool.true_and] at h2
                  have h3 : askFrontB ⟨k, s, t, i, m, xs, key, text, ⟨ak, ax, an, az⟩⟩ = false := by
                    unfold askFrontB
                    dsimp only
                    rw [h2]; simp
                  unfold validA
                  rw [h3]; simp)
              clear hf
              go_wp2_with fail
              go_ret
              exact ⟨ret_bool HF.out.symm, HB10.out⟩
            have HS := Lib.hid (validA_sum (a := ⟨k, s, t, i, m, xs, key, text, ⟨ak, ax, an, az⟩⟩) hk HOK2.out.x.len HN.out HA6.out HA8.out hf)
            have HQ := Lib.hid HOK2.out.act
            clear hf HA6 HA8 HN HOK HOK2 H5 H6 H7
            go_wp2_with fail
            refine (H8.out _).mono ?_
            rintro e w5 ⟨rfl, hb⟩
            have e8 := hb.cell d8
            have e9 := hb.cell d9
            have e10 := hb.cell d10
            have e11 := hb.cell d11
            have HB11 := Lib.hid (HB10.out.trans hb)
            clear hb d0 d1 d2 d3 d4 d5 d6 d7 d8 d9 d10 d11 HB10
            cases hu : uAct k
            · have HU := Lib.hid hu
              clear hu
              go_wp2_with fail
              refine (refSameA_any ⟨ak, ax, an, az⟩ zeroAct _ HQ.out ⟨by decide, by decide, by decide, by decide⟩).mono ?_
              rintro e w6 ⟨rfl, hb6⟩
              go_wp2_with fail
              go_ret
              exact ⟨ret_bool (by rw [HS.out]; unfold askActB; dsimp only; rw [HU.out]; rfl), HB11.out.trans hb6⟩
            · have HU := Lib.hid hu
              clear hu
              go_wp2_with fail
              refine (refRight_any ⟨ak, ax, an, az⟩ _ HQ.out).mono ?_
              rintro e w6 ⟨rfl, hb6⟩
              go_wp2_with fail
              go_ret
              exact ⟨ret_bool (by rw [HS.out]; unfold askActB; dsimp only; rw [HU.out]; rfl), HB11.out.trans hb6⟩
/-- a kind that is none -/
theorem rvalidA_out (k s t i m : Int) (ad : Option Addr) (n ca : Nat) (xs : List Int) (key text : ByteArray) (ak : Int) (ax : Nat) (an : Int) (az : ByteArray) (w : World) (hk : ¬ (0 ≤ k ∧ k ≤ 15)) :
    Calls Tryz.prog 52 #[.agg #[.int .i64 k, .int .i64 s, .int .i64 t, .int .i64 i, .int .i64 m, .slice ad n ca, .string key, .string text, .int .i64 ak, .float .f64 ax, .int .i64 an, .string az]] w fun e w' => e = .returned (.bool (validA ⟨k, s, t, i, m, xs, key, text, ⟨ak, ax, an, az⟩⟩)) ∧ Bl w w' := by
  have hsf := store_float
  have hb := (Bl.refl w).alloc (.cells (askCs k s t i m ad n ca key text ak ax an az).toArray 78)
  have HF := Lib.hid (show validA ⟨k, s, t, i, m, xs, key, text, ⟨ak, ax, an, az⟩⟩ = false by
    have : askFrontB ⟨k, s, t, i, m, xs, key, text, ⟨ak, ax, an, az⟩⟩ = false := by
      unfold askFrontB
      dsimp only
      rw [decide_eq_false hk]; rfl
    unfold validA
    rw [this]; rfl)
  by_cases h0 : k < 0
  · have q0 : decide (k < 0) = true := decide_eq_true h0
    go_enter Tryz.func52, Tryz.ntmps52
    go_wp2_with fail
    go_ret
    exact ⟨ret_bool HF.out.symm, hb⟩
  · have q0 : decide (k < 0) = false := decide_eq_false h0
    have q1 : decide (15 < k) = true := decide_eq_true (by omega)
    go_enter Tryz.func52, Tryz.ntmps52
    go_wp2_with fail
    go_ret
    exact ⟨ret_bool HF.out.symm, hb⟩
theorem rvalidA_any (k s t i m : Int) (ad : Option Addr) (n ca : Nat) (xs : List Int) (key text : ByteArray) (ak : Int) (ax : Nat) (an : Int) (az : ByteArray) (w : World)
    (hs : -9223372036854775808 ≤ s ∧ s ≤ 9223372036854775807) (ht : -9223372036854775808 ≤ t ∧ t ≤ 9223372036854775807) (hi : -9223372036854775808 ≤ i ∧ i ≤ 9223372036854775807) (hm : -9223372036854775808 ≤ m ∧ m ≤ 9223372036854775807)
    (ok : AskOk w ⟨k, s, t, i, m, xs, key, text, ⟨ak, ax, an, az⟩⟩ ad n) :
    Calls Tryz.prog 52 #[.agg #[.int .i64 k, .int .i64 s, .int .i64 t, .int .i64 i, .int .i64 m, .slice ad n ca, .string key, .string text, .int .i64 ak, .float .f64 ax, .int .i64 an, .string az]] w fun e w' => e = .returned (.bool (validA ⟨k, s, t, i, m, xs, key, text, ⟨ak, ax, an, az⟩⟩)) ∧ Bl w w' := by
  by_cases hk : 0 ≤ k ∧ k ≤ 15
  · exact rvalidA_in k s t i m ad n ca xs key text ak ax an az w hk hs ht hi hm ok _ _ _ _ (Lib.hid rfl) (Lib.hid rfl) (Lib.hid rfl) (Lib.hid rfl)
  · exact rvalidA_out k s t i m ad n ca xs key text ak ax an az w hk
end Go.Proofs.YtibabgokmacnaaaGreat
end

/- bedrockref3: Leq, Same, Valid. By an AI agent. -/
section
namespace Go.Proofs.YtibabgokmacnaaaGreat
open Go.RowKit

set_option maxHeartbeats 400000 in
theorem rleq_any (a b : Option Addr) (n m ca cb : Nat) (xs ys : List Int) (w : World) (hx : IA w a n xs) (hy : IA w b m ys) :
    Calls Tryz.prog 25 #[.slice a n ca, .slice b m cb] w fun e w' => e = .returned (.bool (leqL xs ys)) ∧ Bl w w' := by
  have hx1 := hx.cap
  have hy1 := hy.cap
  by_cases hl : n = m
  · subst hl
    have HLL := Lib.hid (hx.len.trans hy.len.symm)
    have HX := Lib.hid hx.len
    have h2 : ((n : Int) != (n : Int)) = false := by simp
    go_enter Tryz.func25, Tryz.ntmps25
    go_wp2
    go_loopw [5] (fun i wr => ∃ k : Nat, k ≤ n ∧ i = .int .i64 k ∧ Bl w wr ∧ ∀ j, j < k → nth xs j ≤ nth ys j) (fun i _ => n - (intOf i).toNat)
    case atStart => exact ⟨0, Nat.zero_le _, rfl, Bl.refl _, fun j h => by omega⟩
    case round =>
      obtain ⟨k, hk, rfl, hbl, hle⟩ := hrel
      have HLE := Lib.hid hle; clear hle
      by_cases hlt : k < n
      · obtain ⟨ba, oa, rfl, hca⟩ := hx.cells k hlt
        obtain ⟨bb, ob, rfl, hcb⟩ := hy.cells k hlt
        have ha := hbl.cell (hca k hlt)
        have hb := hbl.cell (hcb k hlt)
        clear hca hcb
        by_cases hgt : nth ys k < nth xs k
        · have HR := Lib.hid (leqL_false HLL.out (by rw [HX.out]; exact hlt) hgt)
          go_wp2
          go_quiet (fail)
          go_wp2
          go_ret
          exact ⟨ret_bool HR.out.symm, hbl.drewN _⟩
        · go_wp2
          go_quiet (fail)
          go_wp2
          go_roundw
          case rel => exact ⟨k + 1, by omega, by go_num, hbl.drewN _, fun j hj => by
            by_cases e : j = k
            · subst e; omega
            · exact HLE.out j (by omega)⟩
          case measure => simp [intOf]; omega
      · have HR := Lib.hid ((leqL_iff HLL.out).2 (fun j hj => HLE.out j (by rw [HX.out] at hj; omega)))
        go_wp2
        go_ret
        exact ⟨ret_bool HR.out.symm, hbl⟩
  · have h2 : ((n : Int) != (m : Int)) = true := by simp; omega
    have HR := Lib.hid (leqL_len (xs := xs) (ys := ys) (by rw [hx.len, hy.len]; exact hl))
    go_enter Tryz.func25, Tryz.ntmps25
    go_wp2
    go_ret
    exact ⟨ret_bool HR.out.symm, Bl.refl _⟩

theorem leq_both (xs ys : List Int) : (leqL xs ys && leqL ys xs) = decide (xs = ys) := by
  by_cases hl : xs.length = ys.length
  · rw [Bool.eq_iff_iff, Bool.and_eq_true, decide_eq_true_eq, leqL_iff hl, leqL_iff hl.symm]
    constructor
    · rintro ⟨h1, h2⟩
      exact getD_ext hl fun j hj => Int.le_antisymm (h1 j hj) (h2 j (by omega))
    · rintro rfl
      exact ⟨fun _ _ => Int.le_refl _, fun _ _ => Int.le_refl _⟩
  · rw [leqL_len hl, decide_eq_false (fun e => hl (by rw [e]))]; rfl

theorem rsame_any (a b : Option Addr) (n m ca cb : Nat) (xs ys : List Int) (w : World) (hx : IA w a n xs) (hy : IA w b m ys) :
    Calls Tryz.prog 17 #[.slice a n ca, .slice b m cb] w fun e w' => e = .returned (.bool (decide (xs = ys))) ∧ Bl w w' := by
  have HB := Lib.hid (leq_both xs ys)
  cases h1 : leqL xs ys
  · have HQ := Lib.hid h1
    go_enter Tryz.func17, Tryz.ntmps17
    go_wp2_with fail
    refine (rleq_any a b n m ca cb xs ys _ hx hy).mono ?_
    rintro e w1 ⟨rfl, hb1⟩
    rw [h1]
    clear h1
    go_wp2_with fail
    go_ret
    exact ⟨ret_bool (by rw [← HB.out, HQ.out]; rfl), hb1⟩
  · have HQ := Lib.hid h1
    go_enter Tryz.func17, Tryz.ntmps17
    go_wp2_with fail
    refine (rleq_any a b n m ca cb xs ys _ hx hy).mono ?_
    rintro e w1 ⟨rfl, hb1⟩
    rw [h1]
    clear h1
    go_wp2_with fail
    refine (rleq_any b a m n cb ca ys xs _ (hy.keep hb1) (hx.keep hb1)).mono ?_
    rintro e w2 ⟨rfl, hb2⟩
    go_wp2_with fail
    go_ret
    exact ⟨ret_bool (by rw [← HB.out, HQ.out]; rfl), hb1.trans hb2⟩
end Go.Proofs.YtibabgokmacnaaaGreat
end
