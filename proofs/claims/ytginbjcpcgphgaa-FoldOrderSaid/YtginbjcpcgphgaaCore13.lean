import Derived.Test.YtginbjcpcgphgaaCore12
import Derived.Deep.DeepCutAuto

/- slices.symMergeCmpFunc over versions. By an AI agent. -/
section
set_option linter.unusedVariables false
set_option linter.unusedSimpArgs false
namespace Go.Proofs.Ytginbjcpcgphgaa
open Go.RowKit
attribute [local go_sem] eOp eOper eUpon

def SymM (w : World) (g n ca : Nat) (k : Nat) : Prop :=
  ∀ (W : World) (P L R Q : List VC) (a m b : Nat), P.length = a → a + L.length = m → m + R.length = b → b + Q.length = n → 0 < L.length → 0 < R.length → L.length + R.length ≤ k → Srt leC L → Srt leC R → RW w W g (P ++ (L ++ (R ++ Q))) →
    Calls Try.prog 66 #[.slice (some ⟨g, 0, none⟩) n ca, .int .i64 a, .int .i64 m, .int .i64 b, .func (.func 33) #[] #[]] W fun e W' => e = .returned (.tuple #[]) ∧ RW w W' g (P ++ (mrg leC L R ++ Q))
/-- the halves of two sorted parts -/
structure CUT (L R L1 L2 R1 R2 : List VC) (a s m e b : Nat) : Prop where
  hl : L = L1 ++ L2
  hr : R = R1 ++ R2
  l1 : a + L1.length = s
  l2 : s + L2.length = m
  r1 : m + R1.length = e
  r2 : e + R2.length = b
  sl1 : Srt leC L1
  sl2 : Srt leC L2
  sr1 : Srt leC R1
  sr2 : Srt leC R2
  mg : mrg leC L R = mrg leC L1 R1 ++ mrg leC L2 R2
theorem cut_of {L R : List VC} {a s m e b : Nat} (hL : Srt leC L) (hR : Srt leC R) (ha : a + L.length = m) (hb : m + R.length = b) (h1 : a ≤ s) (h2 : s ≤ m) (h3 : m ≤ e) (h4 : e ≤ b)
    (c1 : a < s → e < b → leC (el L (s - 1 - a)) (el R (e - m)) = true) (c2 : m < e → s < m → leC (el L (s - a)) (el R (e - 1 - m)) = false) :
    CUT L R (L.take (s - a)) (L.drop (s - a)) (R.take (e - m)) (R.drop (e - m)) a s m e b := by
  refine ⟨(List.take_append_drop _ _).symm, (List.take_append_drop _ _).symm, by rw [List.length_take]; omega, by rw [List.length_drop]; omega, by rw [List.length_take]; omega, by rw [List.length_drop]; omega, hL.sublist (List.take_sublist _ _), hL.sublist (List.drop_sublist _ _), hR.sublist (List.take_sublist _ _), hR.sublist (List.drop_sublist _ _), ?_⟩
  refine sym_split leC_pre hL hR (by omega) (by omega) (fun p q => ?_) (fun p q => ?_)
  · have := c1 (by omega) (by omega)
    rwa [show s - 1 - a = s - a - 1 by omega] at this
  · have := c2 (by omega) (by omega)
    rwa [show e - 1 - m = e - m - 1 by omega] at this
set_option maxHeartbeats 6400000 in
set_option maxRecDepth 100000 in
theorem symM_big (w : World) (g n ca k : Nat) (hn1 : n ≤ 1000000) (ih : SymM w g n ca k) (W : World) (P L R Q : List VC) (a m b : Nat) (hp : P.length = a) (ha : a + L.length = m) (hb : m + R.length = b) (hn : b + Q.length = n) (hL1 : 1 < L.length) (hR1 : 1 < R.length) (hk : L.length + R.length ≤ k + 1) (hL : Srt leC L) (hR : Srt leC R) (hr : RW w W g (P ++ (L ++ (R ++ Q)))) :
    Calls Try.prog 66 #[.slice (some ⟨g, 0, none⟩) n ca, .int .i64 a, .int .i64 m, .int .i64 b, .func (.func 33) #[] #[]] W fun e W' => e = .returned (.tuple #[]) ∧ RW w W' g (P ++ (mrg leC L R ++ Q)) := by
  have HR := Lib.hid hr
  have HSL := Lib.hid hL
  have HSR := Lib.hid hR
  have HP := Lib.hid hp
  have HA := Lib.hid ha
  have HB := Lib.hid hb
  have HN := Lib.hid hn
  have HK := Lib.hid hk
  have HL1 := Lib.hid hL1
  have HR1 := Lib.hid hR1
  have s1 : (m : Int) - (a : Int) = (L.length : Int) := by omega
  have s2 : (b : Int) - (m : Int) = (R.length : Int) := by omega
  have s3 : ((L.length : Int) == 1) = false := by rw [beq_eq_false_iff_ne]; omega
  have s4 : ((R.length : Int) == 1) = false := by rw [beq_eq_false_iff_ne]; omega
  have b0 : L.length ≤ 1000000 := by omega
  have b00 : R.length ≤ 1000000 := by omega
  have b1 : a ≤ 1000000 := by omega
  have b2 : m ≤ 1000000 := by omega
  have b3 : b ≤ 1000000 := by omega
  clear hr hL hR hp ha hb hn hk hL1 hR1
  generalize hll : L.length = ll at *
  generalize hrl : R.length = rl at *
  have HLL := Lib.hid hll
  have HRL := Lib.hid hrl
  clear hll hrl
  obtain ⟨s, hs⟩ : ∃ s, a + b = s := ⟨_, rfl⟩
  obtain ⟨mid, hm⟩ : ∃ mid, s / 2 = mid := ⟨_, rfl⟩
  obtain ⟨nn, hnn⟩ : ∃ nn, mid + m = nn := ⟨_, rfl⟩
  have s5 : (a : Int) + (b : Int) = (s : Int) := by omega
  have s6 : (s : Int) / 2 = (mid : Int) := by omega
  have s7 : (mid : Int) + (m : Int) = (nn : Int) := by omega
  have b4 : s ≤ 2000000 := by omega
  have b5 : mid ≤ 1000000 := by omega
  have b6 : nn ≤ 2000000 := by omega
  have HM := Lib.hid (show 2 * mid ≤ a + b ∧ a + b ≤ 2 * mid + 1 ∧ mid + m = nn ∧ a + 2 ≤ m ∧ m + 2 ≤ b by have := HA.out; have := HB.out; have := HL1.out; have := HR1.out; omega)
  clear hs hm hnn
  go_enter Try.func66, Try.ntmps66
  go_upto_if 140 with fail
  go_cut [20, 21] (fun t20 t21 W' => ∃ s0 r0 : Nat, t20 = .int .i64 (s0 : Int) ∧ t21 = .int .i64 (r0 : Int) ∧ (a ≤ s0 ∧ s0 ≤ r0 ∧ r0 ≤ m ∧ r0 ≤ mid ∧ nn ≤ s0 + b) ∧ (s0 = a ∨ s0 + b = nn) ∧ (r0 = m ∨ r0 = mid) ∧ W = W')
  case first => as_aux_lemma =>
    have h := HM.out
    by_cases hmm : mid < m
    · have q0 : decide ((mid : Int) < (m : Int)) = true := decide_eq_true (by omega)
      have q0n : decide (mid < m) = true := decide_eq_true hmm
      obtain ⟨s0, hs0⟩ : ∃ s0, s0 + b = nn := ⟨nn - b, by omega⟩
      have s8 : (nn : Int) - (b : Int) = (s0 : Int) := by omega
      have b7 : s0 ≤ 1000000 := by omega
      have HF := Lib.hid (show (a ≤ s0 ∧ s0 ≤ mid ∧ mid ≤ m ∧ mid ≤ mid ∧ nn ≤ s0 + b) ∧ (s0 = a ∨ s0 + b = nn) from ⟨by omega, .inr hs0⟩)
      clear hs0 h
      go_wp2_with fail
      go_meet
      case rel => exact ⟨s0, mid, rfl, rfl, HF.out.1, HF.out.2, .inr rfl, rfl⟩
    · have q0 : decide ((mid : Int) < (m : Int)) = false := decide_eq_false (by omega)
      have q0n : decide (mid < m) = false := decide_eq_false hmm
      have HF := Lib.hid (show (a ≤ a ∧ a ≤ m ∧ m ≤ m ∧ m ≤ mid ∧ nn ≤ a + b) by omega)
      clear h
      go_wp2_with fail
      go_meet
      case rel => exact ⟨a, m, rfl, rfl, HF.out, .inl rfl, .inl rfl, rfl⟩
  case rest => as_aux_lemma =>
    obtain ⟨s0, r0, rfl, rfl, hb1, hb2, hb3, rfl⟩ := hcut
    have HB1 := Lib.hid hb1
    have HB2 := Lib.hid hb2
    have HB3 := Lib.hid hb3
    obtain ⟨pp, hpp⟩ : ∃ pp, pp + 1 = nn := ⟨nn - 1, by have := HM.out; omega⟩
    have s8 : (nn : Int) - 1 = (pp : Int) := by omega
    have HPP := Lib.hid hpp
    have b8 : pp ≤ 2000000 := by omega
    clear hb1 hb2 hb3 hpp
    go_wp2_with fail
    go_loopw [20, 21] (fun tv uv wr => ∃ s r : Nat, s0 ≤ s ∧ s ≤ r ∧ r ≤ r0 ∧ tv = .int .i64 (s : Int) ∧ uv = .int .i64 (r : Int) ∧ RW w wr g (P ++ (L ++ (R ++ Q))) ∧ (s0 < s → leC (el L (s - 1 - a)) (el R (nn - s - m)) = true) ∧ (r < r0 → leC (el L (r - a)) (el R (nn - r - 1 - m)) = false)) (fun tv uv _ => (intOf uv).toNat - (intOf tv).toNat)
    case atStart => exact ⟨s0, r0, Nat.le_refl _, HB1.out.2.1, Nat.le_refl _, rfl, rfl, HR.out, fun h => absurd h (Nat.lt_irrefl _), fun h => absurd h (Nat.lt_irrefl _)⟩
    case round => as_aux_lemma =>
      clear HR s1 s2 s3 s4 s5 s6 s7 s8
      obtain ⟨s', r, hs, hsr, hr, rfl, rfl, hrow, c1, c2⟩ := hrel
      have HC1 := Lib.hid c1
      have HC2 := Lib.hid c2
      have HROW := Lib.hid hrow
      have HSR0 := Lib.hid (And.intro hs hr)
      clear c1 c2 hrow
      have b9 : s' ≤ 1000000 := by have := HB1.out; omega
      have b10 : r ≤ 1000000 := by have := HB1.out; omega
      clear hs hr
      by_cases hlt : s' < r
      · have q0 : decide ((s' : Int) < (r : Int)) = true := decide_eq_true (by omega)
        have q0n : decide (s' < r) = true := decide_eq_true hlt
        obtain ⟨x, hx⟩ : ∃ x, s' + r = x := ⟨_, rfl⟩
        obtain ⟨c, hc⟩ : ∃ c, x / 2 = c := ⟨_, rfl⟩
        have s9 : (s' : Int) + (r : Int) = (x : Int) := by omega
        have hf : (x : Int) / 2 = (c : Int) := by omega
        have b11 : x ≤ 2000000 := by omega
        have b12 : c ≤ 1000000 := by omega
        have hcr : s' ≤ c ∧ c < r := by omega
        clear hx hc
        obtain ⟨pc, hpc⟩ : ∃ pc, pc + c = pp := ⟨pp - c, by have := HPP.out; have := HM.out; have := HB1.out; have := HSR0.out; omega⟩
        have hw : IntKind.i64.wrap ((pp : Int) - (c : Int)) = (pc : Int) := by rw [IntKind.wrap_i64]; omega
        have hrange : m ≤ pc ∧ pc < b ∧ a ≤ c ∧ c < m := by have := HPP.out; have := HM.out; have := HB1.out; have := HB2.out; have := HB3.out; have := HSR0.out; omega
        have HPC := Lib.hid hpc
        have HRG := Lib.hid hrange
        have HL := Lib.hid (show (P ++ (L ++ (R ++ Q))).length = n by simp only [List.length_append]; have := HP.out; have := HA.out; have := HB.out; have := HN.out; have := HLL.out; have := HRL.out; omega)
        have hnc : c < n := by have := HN.out; have := HB.out; omega
        have hnp : pc < n := by have := HN.out; omega
        have ec := Lib.hid (show el (P ++ (L ++ (R ++ Q))) c = el L (c - a) by
          have := el_right P (L ++ (R ++ Q)) (c - a)
          rw [show P.length + (c - a) = c by have := HP.out; omega] at this
          rw [this, el_left _ (by have := HA.out; have := HLL.out; omega)])
        have ep := Lib.hid (show el (P ++ (L ++ (R ++ Q))) pc = el R (pc - m) by
          have := el_right (P ++ L) (R ++ Q) (pc - m)
          rw [show (P ++ L).length + (pc - m) = pc by rw [List.length_append]; have := HP.out; have := HA.out; have := HLL.out; omega, List.append_assoc] at this
          rw [this, el_left _ (by have := HB.out; have := HRL.out; omega)])
        obtain ⟨L0, hL0⟩ : ∃ L0, P ++ (L ++ (R ++ Q)) = L0 := ⟨_, rfl⟩
        have HL0 := Lib.hid hL0
        rw [hL0] at HL ec ep HROW
        clear hL0 hpc hrange
        obtain ⟨xx, hxx⟩ : ∃ xx, el L (c - a) = xx := ⟨_, rfl⟩
        obtain ⟨yy, hyy⟩ : ∃ yy, el R (pc - m) = yy := ⟨_, rfl⟩
        have HXX := Lib.hid hxx
        have HYY := Lib.hid hyy
        rw [hxx] at ec
        rw [hyy] at ep
        clear hxx hyy
        obtain ⟨R0, hR⟩ : ∃ R0, orderL yy.ver xx.ver = R0 := ⟨_, rfl⟩
        have HRR := Lib.hid hR
        clear hR
        obtain ⟨qb, hqb⟩ : ∃ qb, decide (R0 < 0) = qb := ⟨_, rfl⟩
        go_upto_region 35 with fail
        refine wp_region_allS (by kernel_rfl) (by kernel_rfl) ?_
        have HZ := Lib.hid (HROW.out.keep ((Bl.refl _).drew))
        clear HROW
        generalize World.drew _ = Z at *
        obtain ⟨x0, x1, x2, x3, x4, x5, x6, x7⟩ := HZ.out.all8 (by rw [HL.out]; exact hnp) ep.out
        obtain ⟨y0, y1, y2, y3, y4, y5, y6, y7⟩ := HZ.out.all8 (by rw [HL.out]; exact hnc) ec.out
        have V := Lib.hid (fun q : Ext Z => forder_w _ _ R0 q.at (ep.out ▸ (HZ.out.keep q.bl).at_ (by rw [HL.out]; exact hnp)) (ec.out ▸ (HZ.out.keep q.bl).at_ (by rw [HL.out]; exact hnc)) HRR)
        repeat (refine wpS_step (fun K hK => ?_); go_simp; first | (refine hK _ ?_; clear hK K) | (apply Exists.intro; refine ⟨fun q => ?_, hK _ ?_⟩; (with_reducible exact V.out q); clear hK K))
        refine wpS_nil ?_
        intro q1
        have HROW := Lib.hid (HZ.out.keep q1.bl)
        clear x0 x1 x2 x3 x4 x5 x6 x7 y0 y1 y2 y3 y4 y5 y6 y7 V HZ
        generalize q1.at = Y at *
        clear q1
        cases qb
        · have HF := Lib.hid (show leC (el L (c - a)) (el R (pc - m)) = true by rw [HXX.out, HYY.out]; exact leC_yes.2 (by rw [HRR.out]; exact of_decide_eq_false hqb))
          clear hw
          go_wp2_with fail
          go_roundw
          case rel => exact ⟨c + 1, r, by have := HSR0.out; omega, by omega, HSR0.out.2, by go_num, rfl, by rw [HL0.out]; exact HROW.out, fun _ => by rw [Nat.add_sub_cancel, show nn - (c + 1) - m = pc - m by have := HPC.out; have := HPP.out; omega]; exact HF.out, HC2.out⟩
          case measure => simp [intOf]; omega
        · have HF := Lib.hid (show leC (el L (c - a)) (el R (pc - m)) = false by rw [HXX.out, HYY.out]; exact leC_not.2 (by rw [HRR.out]; exact of_decide_eq_true hqb))
          clear hw
          go_wp2_with fail
          go_roundw
          case rel => exact ⟨s', c, HSR0.out.1, by omega, by have := HSR0.out; omega, rfl, rfl, by rw [HL0.out]; exact HROW.out, HC1.out, fun _ => by rw [show nn - c - 1 - m = pc - m by have := HPC.out; have := HPP.out; omega]; exact HF.out⟩
          case measure => simp [intOf]; omega
      · have q0 : decide ((s' : Int) < (r : Int)) = false := decide_eq_false (by omega)
        have q0n : decide (s' < r) = false := decide_eq_false hlt
        obtain rfl : s' = r := by omega
        obtain ⟨e, he⟩ : ∃ e, e + s' = nn := ⟨nn - s', by have := HM.out; have := HB1.out; have := HSR0.out; omega⟩
        have s9 : (nn : Int) - (s' : Int) = (e : Int) := by omega
        have HE := Lib.hid (show m ≤ e ∧ e ≤ b ∧ a ≤ s' ∧ s' ≤ m ∧ s' ≤ mid ∧ mid ≤ e ∧ s' + (e - m) = mid ∧ mid + (m - s') = e by have := HM.out; have := HB1.out; have := HSR0.out; omega)
        have b11 : e ≤ 1000000 := by have := HE.out; omega
        have HCU := Lib.hid (cut_of (s := s') (e := e) HSL.out HSR.out (by rw [HLL.out]; exact HA.out) (by rw [HRL.out]; exact HB.out) HE.out.2.2.1 HE.out.2.2.2.1 HE.out.1 HE.out.2.1
          (fun h1 h2 => by
            have h3 := HC1.out (by have := HB2.out; omega)
            rwa [show nn - s' - m = e - m by omega] at h3)
          (fun h1 h2 => by
            have h3 := HC2.out (by have := HB3.out; have := HM.out; have := HB1.out; have := HSR0.out; omega)
            rwa [show nn - s' - 1 - m = e - 1 - m by omega] at h3))
        clear he HC1 HC2 HSR0 HB1 HB2 HB3 hlt hsr
        generalize L.take (s' - a) = L1 at *
        generalize L.drop (s' - a) = L2 at *
        generalize R.take (e - m) = R1 at *
        generalize R.drop (e - m) = R2 at *
        have HMG := Lib.hid HCU.out.mg
        have HR0 := Lib.hid (show RW w _ g (P ++ (L1 ++ (L2 ++ (R1 ++ (R2 ++ Q))))) by
          have := HROW.out
          rw [HCU.out.hl, HCU.out.hr] at this
          simpa using this)
        clear HROW
        go_upto_region 39 with fail
        go_cut [185] (fun t W' => t = .bool (decide (s' < m) && decide (m < e)) ∧ wr = W')
        case first => as_aux_lemma =>
          by_cases h1 : s' < m
          · have q1 : decide ((s' : Int) < (m : Int)) = true := decide_eq_true (by omega)
            have q1n : decide (s' < m) = true := decide_eq_true h1
            by_cases h2 : m < e
            · have q2 : decide ((m : Int) < (e : Int)) = true := decide_eq_true (by omega)
              have q2n : decide (m < e) = true := decide_eq_true h2
              go_wp2_with fail
              go_meet
              case rel => exact ⟨by rw [q1n, q2n]; rfl, rfl⟩
            · have q2 : decide ((m : Int) < (e : Int)) = false := decide_eq_false (by omega)
              have q2n : decide (m < e) = false := decide_eq_false h2
              go_wp2_with fail
              go_meet
              case rel => exact ⟨by rw [q1n, q2n]; rfl, rfl⟩
          · have q1 : decide ((s' : Int) < (m : Int)) = false := decide_eq_false (by omega)
            have q1n : decide (s' < m) = false := decide_eq_false h1
            go_wp2_with fail
            go_meet
            case rel => exact ⟨by rw [q1n]; rfl, rfl⟩
        case rest => as_aux_lemma =>
          obtain ⟨rfl, rfl⟩ := hcut
          go_upto_if 185 with fail
          go_cut [191] (fun _ W' => RW w W' g (P ++ (L1 ++ (R1 ++ (L2 ++ (R2 ++ Q))))))
          case first => as_aux_lemma =>
            by_cases h1 : s' < m ∧ m < e
            · have HRO := Lib.hid (rotate_any w wr g n ca (P ++ L1) L2 R1 (R2 ++ Q) s' m e (by rw [List.length_append, HP.out]; exact HCU.out.l1) HCU.out.l2 HCU.out.r1 (by rw [List.length_append]; have := HCU.out.r2; have := HN.out; omega) hn1 (by have := HCU.out.l2; omega) (by have := HCU.out.r1; omega) (.func (.func 33) #[] #[]) (by rw [List.append_assoc]; exact HR0.out))
              rw [List.append_assoc] at HRO
              rw [decide_eq_true h1.1, decide_eq_true h1.2]
              clear h1
              go_wp2_with fail
              refine HRO.out.mono ?_
              rintro _ W2 ⟨rfl, h2⟩
              have H2 := Lib.hid h2
              clear h2
              go_wp2_with fail
              go_meet
              case rel => exact H2.out
            · have hb : (decide (s' < m) && decide (m < e)) = false := by
                rw [Bool.and_eq_false_iff, decide_eq_false_iff_not, decide_eq_false_iff_not]
                omega
              have HE2 := Lib.hid (show L2 ++ (R1 ++ (R2 ++ Q)) = R1 ++ (L2 ++ (R2 ++ Q)) by
                have g1 := HCU.out.l2
                have g2 := HCU.out.r1
                have g3 := HE.out
                by_cases h3 : s' < m
                · have : R1 = [] := List.eq_nil_of_length_eq_zero (by omega)
                  rw [this]; rfl
                · have : L2 = [] := List.eq_nil_of_length_eq_zero (by omega)
                  rw [this]; rfl)
              rw [hb]
              rw [HE2.out] at HR0
              clear h1 hb
              go_wp2_with fail
              go_meet
              case rel => exact HR0.out
          case rest => as_aux_lemma =>
            have HR1 := Lib.hid hcut
            clear HR0 hcut
            go_upto_region 41 with fail
            go_cut [199] (fun t W' => t = .bool (decide (a < s') && decide (s' < mid)) ∧ wc = W')
            case first => as_aux_lemma =>
              by_cases h1 : a < s'
              · have q1 : decide ((a : Int) < (s' : Int)) = true := decide_eq_true (by omega)
                have q1n : decide (a < s') = true := decide_eq_true h1
                by_cases h2 : s' < mid
                · have q2 : decide ((s' : Int) < (mid : Int)) = true := decide_eq_true (by omega)
                  have q2n : decide (s' < mid) = true := decide_eq_true h2
                  go_wp2_with fail
                  go_meet
                  case rel => exact ⟨by rw [q1n, q2n]; rfl, rfl⟩
                · have q2 : decide ((s' : Int) < (mid : Int)) = false := decide_eq_false (by omega)
                  have q2n : decide (s' < mid) = false := decide_eq_false h2
                  go_wp2_with fail
                  go_meet
                  case rel => exact ⟨by rw [q1n, q2n]; rfl, rfl⟩
              · have q1 : decide ((a : Int) < (s' : Int)) = false := decide_eq_false (by omega)
                have q1n : decide (a < s') = false := decide_eq_false h1
                go_wp2_with fail
                go_meet
                case rel => exact ⟨by rw [q1n]; rfl, rfl⟩
            case rest => as_aux_lemma =>
              obtain ⟨rfl, rfl⟩ := hcut
              go_upto_if 199 with fail
              go_cut [205] (fun _ W' => RW w W' g (P ++ (mrg leC L1 R1 ++ (L2 ++ (R2 ++ Q)))))
              case first => as_aux_lemma =>
                by_cases h1 : a < s' ∧ s' < mid
                · have HRO := Lib.hid (ih wc P L1 R1 (L2 ++ (R2 ++ Q)) a s' mid HP.out HCU.out.l1 (by have := HCU.out.r1; have := HE.out; omega) (by rw [List.length_append, List.length_append]; have := HCU.out.l2; have := HCU.out.r2; have := HN.out; have := HE.out; omega) (by have := HCU.out.l1; omega) (by have := HCU.out.r1; have := HE.out; omega) (by have := HCU.out.l1; have := HCU.out.r1; have := HE.out; have := HK.out; have := HA.out; have := HB.out; have := HM.out; omega) HCU.out.sl1 HCU.out.sr1 HR1.out)
                  rw [decide_eq_true h1.1, decide_eq_true h1.2]
                  clear h1
                  go_wp2_with fail
                  refine HRO.out.mono ?_
                  rintro _ W2 ⟨rfl, h2⟩
                  have H2 := Lib.hid h2
                  clear h2
                  go_wp2_with fail
                  go_meet
                  case rel => exact H2.out
                · have hb : (decide (a < s') && decide (s' < mid)) = false := by
                    rw [Bool.and_eq_false_iff, decide_eq_false_iff_not, decide_eq_false_iff_not]
                    omega
                  have HE2 := Lib.hid (show L1 ++ (R1 ++ (L2 ++ (R2 ++ Q))) = mrg leC L1 R1 ++ (L2 ++ (R2 ++ Q)) by
                    have g1 := HCU.out.l1
                    have g2 := HCU.out.r1
                    have g3 := HE.out
                    by_cases h3 : a < s'
                    · have : R1 = [] := List.eq_nil_of_length_eq_zero (by omega)
                      rw [this, mrg_right]; rfl
                    · have : L1 = [] := List.eq_nil_of_length_eq_zero (by omega)
                      rw [this, mrg_nil]; rfl)
                  rw [hb]
                  rw [HE2.out] at HR1
                  clear h1 hb
                  go_wp2_with fail
                  go_meet
                  case rel => exact HR1.out
              case rest => as_aux_lemma =>
                have HR2 := Lib.hid hcut
                clear HR1 hcut
                go_upto_region 43 with fail
                go_cut [213] (fun t W' => t = .bool (decide (mid < e) && decide (e < b)) ∧ wc = W')
                case first => as_aux_lemma =>
                  by_cases h1 : mid < e
                  · have q1 : decide ((mid : Int) < (e : Int)) = true := decide_eq_true (by omega)
                    have q1n : decide (mid < e) = true := decide_eq_true h1
                    by_cases h2 : e < b
                    · have q2 : decide ((e : Int) < (b : Int)) = true := decide_eq_true (by omega)
                      have q2n : decide (e < b) = true := decide_eq_true h2
                      go_wp2_with fail
                      go_meet
                      case rel => exact ⟨by rw [q1n, q2n]; rfl, rfl⟩
                    · have q2 : decide ((e : Int) < (b : Int)) = false := decide_eq_false (by omega)
                      have q2n : decide (e < b) = false := decide_eq_false h2
                      go_wp2_with fail
                      go_meet
                      case rel => exact ⟨by rw [q1n, q2n]; rfl, rfl⟩
                  · have q1 : decide ((mid : Int) < (e : Int)) = false := decide_eq_false (by omega)
                    have q1n : decide (mid < e) = false := decide_eq_false h1
                    go_wp2_with fail
                    go_meet
                    case rel => exact ⟨by rw [q1n]; rfl, rfl⟩
                case rest => as_aux_lemma =>
                  obtain ⟨rfl, rfl⟩ := hcut
                  by_cases h1 : mid < e ∧ e < b
                  · have HRO := Lib.hid (ih wc (P ++ mrg leC L1 R1) L2 R2 Q mid e b (by rw [List.length_append, List.length_merge, HP.out]; have := HCU.out.l1; have := HCU.out.r1; have := HE.out; omega) (by have := HCU.out.l2; have := HE.out; omega) HCU.out.r2 HN.out (by have := HCU.out.l2; have := HE.out; omega) (by have := HCU.out.r2; omega) (by have := HCU.out.l2; have := HCU.out.r2; have := HE.out; have := HK.out; have := HA.out; have := HB.out; have := HM.out; omega) HCU.out.sl2 HCU.out.sr2 (by rw [List.append_assoc]; exact HR2.out))
                    rw [decide_eq_true h1.1, decide_eq_true h1.2]
                    clear h1
                    go_wp2_with fail
                    refine HRO.out.mono ?_
                    rintro _ W2 ⟨rfl, h2⟩
                    have H2 := Lib.hid (show RW w W2 g (P ++ (mrg leC L R ++ Q)) by rw [HMG.out]; simpa using h2)
                    clear h2
                    go_wp2_with fail
                    go_end0
                    exact ⟨rfl, H2.out⟩
                  · have hb : (decide (mid < e) && decide (e < b)) = false := by
                      rw [Bool.and_eq_false_iff, decide_eq_false_iff_not, decide_eq_false_iff_not]
                      omega
                    have HE2 := Lib.hid (show L2 ++ (R2 ++ Q) = mrg leC L2 R2 ++ Q by
                      have g1 := HCU.out.l2
                      have g2 := HCU.out.r2
                      have g3 := HE.out
                      by_cases h3 : mid < e
                      · have : R2 = [] := List.eq_nil_of_length_eq_zero (by omega)
                        rw [this, mrg_right]; rfl
                      · have : L2 = [] := List.eq_nil_of_length_eq_zero (by omega)
                        rw [this, mrg_nil]; rfl)
                    have H2 := Lib.hid (show RW w wc g (P ++ (mrg leC L R ++ Q)) by rw [HMG.out, List.append_assoc, ← HE2.out]; exact HR2.out)
                    rw [hb]
                    clear h1 hb
                    go_wp2_with fail
                    go_end0
                    exact ⟨rfl, H2.out⟩
theorem symM_all (w : World) (g n ca : Nat) (hn1 : n ≤ 1000000) : ∀ k, SymM w g n ca k
  | 0 => fun W P L R Q a m b hp ha hb hn h1 h2 hk => by omega
  | k + 1 => fun W P L R Q a m b hp ha hb hn h1 h2 hk hL hR hr => by
    by_cases e1 : L.length = 1
    · obtain ⟨x, rfl⟩ := List.length_eq_one_iff.1 e1
      exact symM_left w W g n ca P R x Q a m b hp ha hb hn hn1 h2 hR hr
    · by_cases e2 : R.length = 1
      · obtain ⟨x, rfl⟩ := List.length_eq_one_iff.1 e2
        exact symM_right w W g n ca P L x Q a m b hp ha hb hn hn1 (by omega) hL hr
      · exact symM_big w g n ca k hn1 (symM_all w g n ca hn1 k) W P L R Q a m b hp ha hb hn (by omega) (by omega) hk hL hR hr
end Go.Proofs.Ytginbjcpcgphgaa
end

/- slices.stableCmpFunc, SortStableFunc over versions. By an AI agent. -/
section
set_option linter.unusedVariables false
set_option linter.unusedSimpArgs false
namespace Go.Proofs.Ytginbjcpcgphgaa
open Go.RowKit

theorem bk_nil (s : Nat) : bk leC s [] = [] := by rw [bk_small (Nat.zero_le _)]; rfl
theorem bk_append {s : Nat} (hs : 0 < s) : ∀ (q : Nat) (A B : List VC), A.length = q * s → bk leC s (A ++ B) = bk leC s A ++ bk leC s B
  | 0, A, B, h => by
    obtain rfl : A = [] := List.eq_nil_of_length_eq_zero (by omega)
    rw [bk_nil]; rfl
  | q + 1, A, B, h => by
    have hl : A.length = q * s + s := by rw [h, Nat.succ_mul]
    rw [bk_step hs (l := A ++ B) (by rw [List.length_append]; omega), bk_step hs (l := A) (by omega), List.take_append_of_le_length (by omega), List.drop_append_of_le_length (by omega), bk_append hs q (A.drop s) B (by rw [List.length_drop]; omega), List.append_assoc]
theorem bk_lenC {s : Nat} (hs : 0 < s) (l : List VC) : (bk leC s l).length = l.length := bk_len hs _ l (Nat.le_refl _)
/-- one block more is sorted -/
theorem bk_take {s q a : Nat} (hs : 0 < s) {X : List VC} (ha : a = q * s) (h : a + s ≤ X.length) : bk leC s (X.take (a + s)) = bk leC s (X.take a) ++ srt leC ((X.drop a).take s) := by
  rw [List.take_add, bk_append hs q (X.take a) _ (by rw [List.length_take, ← ha]; omega), bk_small (l := (X.drop a).take s) (by rw [List.length_take]; omega)]
theorem bk_split {s q a : Nat} (hs : 0 < s) {X : List VC} (ha : a = q * s) (h : a ≤ X.length) : bk leC s X = bk leC s (X.take a) ++ bk leC s (X.drop a) := by
  have := bk_append hs q (X.take a) (X.drop a) (by rw [List.length_take, ← ha]; omega)
  rwa [List.take_append_drop] at this
set_option maxHeartbeats 3200000 in
set_option maxRecDepth 100000 in
theorem stable_any (w W : World) (g n ca : Nat) (X : List VC) (hX : X.length = n) (hn1 : n ≤ 100000) (hr : RW w W g X) :
    Calls Try.prog 52 #[.slice (some ⟨g, 0, none⟩) n ca, .int .i64 n, .func (.func 33) #[] #[]] W fun e W' => e = .returned (.tuple #[]) ∧ RW w W' g (srt leC X) := by
  have HR := Lib.hid hr
  have HX := Lib.hid hX
  clear hr hX
  go_enter Try.func52, Try.ntmps52
  go_wp2_with fail
  go_loopw [7, 8] (fun av bv wr => ∃ q a b : Nat, a = q * 20 ∧ b = a + 20 ∧ a ≤ n ∧ av = .int .i64 (a : Int) ∧ bv = .int .i64 (b : Int) ∧ RW w wr g (bk leC 20 (X.take a) ++ X.drop a)) (fun _ bv _ => n + 20 - (intOf bv).toNat)
  case atStart => exact ⟨0, 0, 20, rfl, rfl, Nat.zero_le _, rfl, rfl, by rw [List.take_zero, bk_nil]; exact HR.out⟩
  case round =>
    clear HR
    obtain ⟨q, a, b, hq, hb, han, rfl, rfl, hrow⟩ := hrel
    have HROW := Lib.hid hrow
    have HQ := Lib.hid hq
    have HB := Lib.hid hb
    have b1 : a ≤ 1000000 := by omega
    have b2 : b ≤ 1000000 := by omega
    clear hrow hq hb
    have lP : (bk leC 20 (X.take a)).length = a := by rw [bk_lenC (by decide), List.length_take, HX.out]; omega
    have HLP := Lib.hid lP
    clear lP
    by_cases hle : b ≤ n
    · have q0 : decide ((b : Int) ≤ (n : Int)) = true := decide_eq_true (by omega)
      have q0n : decide (b ≤ n) = true := decide_eq_true hle
      have H := Lib.hid (isort_any w wr g n ca (bk leC 20 (X.take a)) ((X.drop a).take 20) (X.drop b) a b HLP.out (by rw [List.length_take, List.length_drop, HX.out]; have := HB.out; omega) (by rw [HLP.out, List.length_take, List.length_drop, List.length_drop, HX.out]; have := HB.out; omega) (by omega) (by rw [HB.out, ← List.drop_drop, List.take_append_drop]; exact HROW.out))
      have HE := Lib.hid (show bk leC 20 (X.take a) ++ (srt leC ((X.drop a).take 20) ++ X.drop b) = bk leC 20 (X.take b) ++ X.drop b by rw [HB.out, bk_take (q := q) (by decide) HQ.out (by rw [HX.out]; have := HB.out; omega), List.append_assoc])
      rw [HE.out] at H
      obtain ⟨c, hc⟩ : ∃ c, b + 20 = c := ⟨_, rfl⟩
      have s1 : (b : Int) + 20 = (c : Int) := by omega
      have HC := Lib.hid hc
      have b3 : c ≤ 1000000 := by omega
      clear hc
      go_wp2_with fail
      refine H.out.mono ?_
      rintro e W2 ⟨rfl, h2⟩
      have H2 := Lib.hid h2
      clear h2
      go_wp2_with fail
      go_roundw
      case rel => exact ⟨q + 1, b, c, by have := HQ.out; have := HB.out; omega, HC.out.symm, hle, rfl, rfl, H2.out⟩
      case measure => have := HC.out; simp [intOf]; omega
    · have q0 : decide ((b : Int) ≤ (n : Int)) = false := decide_eq_false (by omega)
      have q0n : decide (b ≤ n) = false := decide_eq_false hle
      have H := Lib.hid (isort_any w wr g n ca (bk leC 20 (X.take a)) (X.drop a) [] a n HLP.out (by rw [List.length_drop, HX.out]; omega) (by rw [HLP.out, List.length_drop, HX.out]; simp; omega) (by omega) (by rw [List.append_nil]; exact HROW.out))
      have HE := Lib.hid (show bk leC 20 (X.take a) ++ (srt leC (X.drop a) ++ []) = bk leC 20 X by rw [List.append_nil, bk_split (X := X) (q := q) (by decide) HQ.out (by rw [HX.out]; exact han), bk_small (l := X.drop a) (by rw [List.length_drop, HX.out]; have := HB.out; omega)])
      rw [HE.out] at H
      clear HROW HLP
      go_wp2_with fail
      refine H.out.mono ?_
      rintro e W2 ⟨rfl, h2⟩
      have H2 := Lib.hid h2
      clear h2 H HE
      go_wp2_with fail
      go_loopw [6] (fun sv wr => ∃ s : Nat, 20 ≤ s ∧ s ≤ 200000 ∧ sv = .int .i64 (s : Int) ∧ RW w wr g (bk leC s X)) (fun sv _ => n - (intOf sv).toNat)
      case atStart => exact ⟨20, Nat.le_refl _, by decide, rfl, H2.out⟩
      case round =>
        clear H2
        obtain ⟨s, hs1, hs2, rfl, hrow⟩ := hrel
        have HROW := Lib.hid hrow
        clear hrow
        by_cases hlt : s < n
        · have q1 : decide ((s : Int) < (n : Int)) = true := decide_eq_true (by omega)
          have q1n : decide (s < n) = true := decide_eq_true hlt
          obtain ⟨d, hd⟩ : ∃ d, 2 * s = d := ⟨_, rfl⟩
          have s2 : 2 * (s : Int) = (d : Int) := by omega
          have HD := Lib.hid hd
          have b3 : d ≤ 400000 := by omega
          have hs0 : 0 < s := by omega
          have hd0 : 0 < d := by omega
          clear hd
          go_wp2_with fail
          go_loopw [7, 8] (fun av bv wr => ∃ q a b : Nat, a = q * d ∧ b = a + d ∧ a ≤ n ∧ av = .int .i64 (a : Int) ∧ bv = .int .i64 (b : Int) ∧ RW w wr g (bk leC d (X.take a) ++ bk leC s (X.drop a))) (fun _ bv _ => n + d - (intOf bv).toNat)
          case atStart => exact ⟨0, 0, d, by omega, by omega, Nat.zero_le _, rfl, rfl, by rw [List.take_zero, bk_nil]; exact HROW.out⟩
          case round =>
            clear HROW
            obtain ⟨q', a', b', hq, hb, han', rfl, rfl, hrow⟩ := hrel
            have HROW := Lib.hid hrow
            have HQ' := Lib.hid hq
            have HB' := Lib.hid hb
            have b4 : a' ≤ 1000000 := by omega
            have b5 : b' ≤ 1000000 := by omega
            clear hrow hq hb
            have lP : (bk leC d (X.take a')).length = a' := by rw [bk_lenC hd0, List.length_take, HX.out]; omega
            have HLP := Lib.hid lP
            clear lP
            obtain ⟨m, hm⟩ : ∃ m, a' + s = m := ⟨_, rfl⟩
            have s3 : (a' : Int) + (s : Int) = (m : Int) := by omega
            have HM := Lib.hid hm
            have b6 : m ≤ 1000000 := by omega
            clear hm
            by_cases hle' : b' ≤ n
            · have q2 : decide ((b' : Int) ≤ (n : Int)) = true := decide_eq_true (by omega)
              have q2n : decide (b' ≤ n) = true := decide_eq_true hle'
              have eB : bk leC s (X.drop a') = srt leC ((X.drop a').take s) ++ (srt leC (((X.drop a').drop s).take s) ++ bk leC s (X.drop b')) := by
                rw [bk_step hs0 (l := X.drop a') (by rw [List.length_drop, HX.out]; have := HB'.out; have := HD.out; omega), bk_step hs0 (l := (X.drop a').drop s) (by rw [List.length_drop, List.length_drop, HX.out]; have := HB'.out; have := HD.out; omega), List.drop_drop, List.drop_drop, show a' + s + s = b' by have := HB'.out; have := HD.out; omega]
              have H := Lib.hid (symM_all w g n ca (by omega) (n + n) wr (bk leC d (X.take a')) (srt leC ((X.drop a').take s)) (srt leC (((X.drop a').drop s).take s)) (bk leC s (X.drop b')) a' m b' HLP.out (by rw [srt_len, List.length_take, List.length_drop, HX.out]; have := HB'.out; have := HD.out; have := HM.out; omega) (by rw [srt_len, List.length_take, List.length_drop, List.length_drop, HX.out]; have := HB'.out; have := HD.out; have := HM.out; omega) (by rw [bk_lenC hs0, List.length_drop, HX.out]; omega) (by rw [srt_len, List.length_take, List.length_drop, HX.out]; have := HB'.out; have := HD.out; omega) (by rw [srt_len, List.length_take, List.length_drop, List.length_drop, HX.out]; have := HB'.out; have := HD.out; omega) (by rw [srt_len, srt_len, List.length_take, List.length_take, List.length_drop, List.length_drop, HX.out]; omega) (srt_sorted leC_pre _) (srt_sorted leC_pre _) (by rw [← eB]; exact HROW.out))
              have HE := Lib.hid (show bk leC d (X.take a') ++ (mrg leC (srt leC ((X.drop a').take s)) (srt leC (((X.drop a').drop s).take s)) ++ bk leC s (X.drop b')) = bk leC d (X.take b') ++ bk leC s (X.drop b') by rw [bk_two leC_pre, HD.out, HB'.out, bk_take (q := q') hd0 HQ'.out (by rw [HX.out]; have := HB'.out; omega), List.append_assoc])
              rw [HE.out] at H
              obtain ⟨c, hc⟩ : ∃ c, b' + d = c := ⟨_, rfl⟩
              have s4 : (b' : Int) + (d : Int) = (c : Int) := by omega
              have HC := Lib.hid hc
              have b7 : c ≤ 1000000 := by omega
              clear hc
              clear eB HROW
              go_wp2_with fail
              refine H.out.mono ?_
              rintro e W2 ⟨rfl, h2⟩
              have H2 := Lib.hid h2
              clear h2
              go_wp2_with fail
              go_roundw
              case rel => exact ⟨q' + 1, b', c, by rw [Nat.succ_mul, ← HQ'.out, HB'.out], HC.out.symm, hle', rfl, rfl, H2.out⟩
              case measure => have := HC.out; simp [intOf]; omega
            · have q2 : decide ((b' : Int) ≤ (n : Int)) = false := decide_eq_false (by omega)
              have q2n : decide (b' ≤ n) = false := decide_eq_false hle'
              have eX := Lib.hid (show bk leC d X = bk leC d (X.take a') ++ srt leC (X.drop a') by rw [bk_split (X := X) (q := q') hd0 HQ'.out (by rw [HX.out]; exact han'), bk_small (l := X.drop a') (by rw [List.length_drop, HX.out]; have := HB'.out; omega)])
              have s4 : (s : Int) * 2 = (d : Int) := by omega
              by_cases hmn : m < n
              · have q3 : decide ((m : Int) < (n : Int)) = true := decide_eq_true (by omega)
                have q3n : decide (m < n) = true := decide_eq_true hmn
                have eB : bk leC s (X.drop a') = srt leC ((X.drop a').take s) ++ (srt leC ((X.drop a').drop s) ++ []) := by
                  rw [bk_step hs0 (l := X.drop a') (by rw [List.length_drop, HX.out]; have := HM.out; omega), bk_small (l := (X.drop a').drop s) (by rw [List.length_drop, List.length_drop, HX.out]; have := HB'.out; have := HD.out; omega), List.append_nil]
                have H := Lib.hid (symM_all w g n ca (by omega) (n + n) wr (bk leC d (X.take a')) (srt leC ((X.drop a').take s)) (srt leC ((X.drop a').drop s)) [] a' m n HLP.out (by rw [srt_len, List.length_take, List.length_drop, HX.out]; have := HM.out; omega) (by rw [srt_len, List.length_drop, List.length_drop, HX.out]; have := HM.out; omega) rfl (by rw [srt_len, List.length_take, List.length_drop, HX.out]; have := HM.out; omega) (by rw [srt_len, List.length_drop, List.length_drop, HX.out]; have := HM.out; omega) (by simp only [srt_len, List.length_take, List.length_drop, HX.out]; omega) (srt_sorted leC_pre _) (srt_sorted leC_pre _) (by rw [← eB]; exact HROW.out))
                have HE := Lib.hid (show bk leC d (X.take a') ++ (mrg leC (srt leC ((X.drop a').take s)) (srt leC ((X.drop a').drop s)) ++ []) = bk leC d X by rw [eX.out, List.append_nil, ← srt_append leC_pre, List.take_append_drop])
                rw [HE.out] at H
                clear eB HROW
                go_wp2_with fail
                refine H.out.mono ?_
                rintro e W2 ⟨rfl, h2⟩
                have H2 := Lib.hid h2
                clear h2
                go_wp2_with fail
                go_roundw
                case rel => exact ⟨d, by omega, by have := HD.out; omega, by go_num, H2.out⟩
                case measure => have := HD.out; simp [intOf]; omega
              · have q3 : decide ((m : Int) < (n : Int)) = false := decide_eq_false (by omega)
                have q3n : decide (m < n) = false := decide_eq_false hmn
                have H2 := Lib.hid (show RW w wr g (bk leC d X) by
                  have := HROW.out
                  rw [bk_small (l := X.drop a') (by rw [List.length_drop, HX.out]; have := HM.out; omega)] at this
                  rw [eX.out]; exact this)
                clear HROW
                go_wp2_with fail
                go_roundw
                case rel => exact ⟨d, by omega, by have := HD.out; omega, by go_num, H2.out⟩
                case measure => have := HD.out; simp [intOf]; omega
        · have q1 : decide ((s : Int) < (n : Int)) = false := decide_eq_false (by omega)
          have q1n : decide (s < n) = false := decide_eq_false hlt
          have H2 := Lib.hid (show RW w _ g (srt leC X) by rw [← bk_small (le := leC) (s := s) (by rw [HX.out]; omega)]; exact HROW.out)
          clear HROW
          go_wp2_with fail
          go_end0
          exact ⟨rfl, H2.out⟩
end Go.Proofs.Ytginbjcpcgphgaa
end
