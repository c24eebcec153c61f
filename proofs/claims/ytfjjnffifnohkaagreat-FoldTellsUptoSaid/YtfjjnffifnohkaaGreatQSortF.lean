import Derived.Test.YtfjjnffifnohkaaGreatQSortE
import Derived.Deep.DeepCutAuto

/- slices.symMergeCmpFunc over versions. By an AI agent. -/
section
set_option linter.unusedVariables false
set_option linter.unusedSimpArgs false
namespace Go.Proofs.YtfjjnffifnohkaaGreat
open Go.RowKit
attribute [local go_sem] eOp eOper eUpon

def SymM (w : World) (g n ca : Nat) (k : Nat) : Prop :=
  ∀ (W : World) (P L R Q : List VC) (a m b : Nat), P.length = a → a + L.length = m → m + R.length = b → b + Q.length = n → 0 < L.length → 0 < R.length → L.length + R.length ≤ k → Srt leC L → Srt leC R → RW w W g (P ++ (L ++ (R ++ Q))) →
    Calls Tryz.prog 171 #[.slice (some ⟨g, 0, none⟩) n ca, .int .i64 a, .int .i64 m, .int .i64 b, .func (.func 22) #[] #[]] W fun e W' => e = .returned (.tuple #[]) ∧ RW w W' g (P ++ (mrg leC L R ++ Q))
/-- the halves of two sorted parts -/
structure CUT (L R L1 L2 R1 R2 : List VC) (a s m e b : Nat) : Prop where
  hl : L = L1 ++ L2
  hr : R = R1 ++ R2
  l1 : a + L1.length = s
  l2 : s + L2.length = m
  r1 : m + R1.length = e
  r2 : e + R2.length = b
  sl1 : Srt leC L1
  sl2 : Srt leC L2
  sr1 : Srt leC R1
  sr2 : Srt leC R2
  mg : mrg leC L R = mrg leC L1 R1 ++ mrg leC L2 R2
theorem cut_of {L R : List VC} {a s m e b : Nat} (hL : Srt leC L) (hR : Srt leC R) (ha : a + L.length = m) (hb : m + R.length = b) (h1 : a ≤ s) (h2 : s ≤ m) (h3 : m ≤ e) (h4 : e ≤ b)
    (c1 : a < s → e < b → leC (el L (s - 1 - a)) (el R (e - m)) = true) (c2 : m < e → s < m → leC (el L (s - a)) (el R (e - 1 - m)) = false) :
    CUT L R (L.take (s - a)) (L.drop (s - a)) (R.take (e - m)) (R.drop (e - m)) a s m e b := by
  refine ⟨(List.take_append_drop _ _).symm, (List.take_append_drop _ _).symm, by rw [List.length_take]; omega, by rw [List.length_drop]; omega, by rw [List.length_take]; omega, by rw [List.length_drop]; omega, hL.sublist (List.take_sublist _ _), hL.sublist (List.drop_sublist _ _), hR.sublist (List.take_sublist _ _), hR.sublist (List.drop_sublist _ _), ?_⟩
  refine sym_split leC_pre hL hR (by omega) (by omega) (fun p q => ?_) (fun p q => ?_)
  · have := c1 (by omega) (by omega)
    rwa [show s - 1 - a = s - a - 1 by omega] at this
  · have := c2 (by omega) (by omega)
    rwa [show e - 1 - m = e - m - 1 by omega] at this
set_option maxHeartbeats 6400000 in
set_option maxRecDepth 100000 in
theorem symM_big (w : World) (g n ca k : Nat) (hn1 : n ≤ 1000000) (ih : SymM w g n ca k) (W : World) (P L R Q : List VC) (a m b : Nat) (hp : P.length = a) (ha : a + L.length = m) (hb : m + R.length = b) (hn : b + Q.length = n) (hL1 : 1 < L.length) (hR1 : 1 < R.length) (hk : L.length + R.length ≤ k + 1) (hL : Srt leC L) (hR : Srt leC R) (hr : RW w W g (P ++ (L ++ (R ++ Q)))) :
    Calls Tryz.prog 171 #[.slice (some ⟨g, 0, none⟩) n ca, .int .i64 a, .int .i64 m, .int .i64 b, .func (.func 22) #[] #[]] W fun e W' => e = .returned (.tuple #[]) ∧ RW w W' g (P ++ (mrg leC L R ++ Q)) := by
  have HR := Lib.hid hr
  have HSL := Lib.hid hL
  have HSR := Lib.hid hR
  have HP := Lib.hid hp
  have HA := Lib.hid ha
  have HB := Lib.hid hb
  have HN := Lib.hid hn
  have HK := Lib.hid hk
  have HL1 := Lib.hid hL1
  have HR1 := Lib.hid hR1
  have s1 : (m : Int) - (a : Int) = (L.length : Int) := by omega
  have s2 : (b : Int) - (m : Int) = (R.length : Int) := by omega
  have s3 : ((L.length : Int) == 1) = false := by rw [beq_eq_false_iff_ne]; omega
  have s4 : ((R.length : Int) == 1) = false := by rw [beq_eq_false_iff_ne]; omega
  have b0 : L.length ≤ 1000000 := by omega
  have b00 : R.length ≤ 1000000 := by omega
  have b1 : a ≤ 1000000 := by omega
  have b2 : m ≤ 1000000 := by omega
  have b3 : b ≤ 1000000 := by omega
  clear hr hL hR hp ha hb hn hk hL1 hR1
  generalize hll : L.length = ll at *
  generalize hrl : R.length = rl at *
  have HLL := Lib.hid hll
  have HRL := Lib.hid hrl
  clear hll hrl
  obtain ⟨s, hs⟩ : ∃ s, a + b = s := ⟨_, rfl⟩
  obtain ⟨mid, hm⟩ : ∃ mid, s / 2 = mid := ⟨_, rfl⟩
  obtain ⟨nn, hnn⟩ : ∃ nn, mid + m = nn := ⟨_, rfl⟩
  have s5 : (a : Int) + (b : Int) = (s : Int) := by omega
  have s6 : (s : Int) / 2 = (mid : Int) := by omega
  have s7 : (mid : Int) + (m : Int) = (nn : Int) := by omega
  have b4 : s ≤ 2000000 := by omega
  have b5 : mid ≤ 1000000 := by omega
  have b6 : nn ≤ 2000000 := by omega
  have HM := Lib.hid (show 2 * mid ≤ a + b ∧ a + b ≤ 2 * mid + 1 ∧ mid + m = nn ∧ a + 2 ≤ m ∧ m + 2 ≤ b by have := HA.out; have := HB.out; have := HL1.out; have := HR1.out; omega)
  clear hs hm hnn
  go_enter Tryz.func171, Tryz.ntmps171
  go_upto_if 140 with fail
  go_cut [20, 21] (fun t20 t21 W' => ∃ s0 r0 : Nat, t20 = .int .i64 (s0 : Int) ∧ t21 = .int .i64 (r0 : Int) ∧ (a ≤ s0 ∧ s0 ≤ r0 ∧ r0 ≤ m ∧ r0 ≤ mid ∧ nn ≤ s0 + b) ∧ (s0 = a ∨ s0 + b = nn) ∧ (r0 = m ∨ r0 = mid) ∧ W = W')
  case first => as_aux_lemma =>
    have h := HM.out
    by_cases hmm : mid < m
    · have q0 : decide ((mid : Int) < (m : Int)) = true := decide_eq_true (by omega)
      have q0n : decide (mid < m) = true := decide_eq_true hmm
      obtain ⟨s0, hs0⟩ : ∃ s0, s0 + b = nn := ⟨nn - b, by omega⟩
      have s8 : (nn : Int) - (b : Int) = (s0 : Int) := by omega
      have b7 : s0 ≤ 1000000 := by omega
      have HF := Lib.hid (show (a ≤ s0 ∧ s0 ≤ mid ∧ mid ≤ m ∧ mid ≤ mid ∧ nn ≤ s0 + b) ∧ (s0 = a ∨ s0 + b = nn) from ⟨by omega, .inr hs0⟩)
      clear hs0 h
      go_wp2_with fail
      go_meet
      case rel => exact ⟨s0, mid, rfl, rfl, HF.out.1, HF.out.2, .inr rfl, rfl⟩
    · have q0 : decide ((mid : Int) < (m : Int)) = false := decide_eq_false (by omega)
      have q0n : decide (mid < m) = false := decide_eq_false hmm
      have HF := Lib.hid (show (a ≤ a ∧ a ≤ m ∧ m ≤ m ∧ m ≤ mid ∧ nn ≤ a + b) by omega)
      clear h
      go_wp2_with fail
      go_meet
      case rel => exact ⟨a, m, rfl, rfl, HF.out, .inl rfl, .inl rfl, rfl⟩
  case rest => as_aux_lemma =>
    obtain ⟨s0, r0, rfl, rfl, hb1, hb2, hb3, rfl⟩ := hcut
    have HB1 := Lib.hid hb1
    have HB2 := Lib.hid hb2
    have HB3 := Lib.hid hb3
    obtain ⟨pp, hpp⟩ : ∃ pp, pp + 1 = nn := ⟨nn - 1, by have := HM.out; omega⟩
    have s8 : (nn : Int) - 1 = (pp : Int) := by omega
    have HPP := Lib.hid hpp
    have b8 : pp ≤ 2000000 := by omega
    clear hb1 hb2 hb3 hpp
    go_wp2_with fail
    go_loopw [20, 21] (fun tv uv wr => ∃ s r : Nat, s0 ≤ s ∧ s ≤ r ∧ r ≤ r0 ∧ tv = .int .i64 (s : Int) ∧ uv = .int .i64 (r : Int) ∧ RW w wr g (P ++ (L ++ (R ++ Q))) ∧ (s0 < s → leC (el L (s - 1 - a)) (el R (nn - s - m)) = true) ∧ (r < r0 → leC (el L (r - a)) (el R (nn - r - 1 - m)) = false)) (fun tv uv _ => (intOf uv).toNat - (intOf tv).toNat)
    case atStart => exact ⟨s0, r0, Nat.le_refl _, HB1.out.2.1, Nat.le_refl _, rfl, rfl, HR.out, fun h => absurd h (Nat.lt_irrefl _), fun h => absurd h (Nat.lt_irrefl _)⟩
    case round => as_aux_lemma =>
      clear HR s1 s2 s3 s4 s5 s6 s7 s8
      obtain ⟨s', r, hs, hsr, hr, rfl, rfl, hrow, c1, c2⟩ := hrel
      have HC1 := Lib.hid c1
      have HC2 := Lib.hid c2
      have HROW := Lib.hid hrow
      have HSR0 := Lib.hid (And.intro hs hr)
      clear c1 c2 hrow
      have b9 : s' ≤ 1000000 := by have := HB1.out; omega
      have b10 : r ≤ 1000000 := by have := HB1.out; omega
      clear hs hr
      by_cases hlt : s' < r
      · have q0 : decide ((s' : Int) < (r : Int)) = true := decide_eq_true (by omega)
        have q0n : decide (s' < r) = true := decide_eq_true hlt
        obtain ⟨x, hx⟩ : ∃ x, s' + r = x := ⟨_, rfl⟩
        obtain ⟨c, hc⟩ : ∃ c, x / 2 = c := ⟨_, rfl⟩
        have s9 : (s' : Int) + (r : Int) = (x : Int) := by omega
        have hf : (x : Int) / 2 = (c : Int) := by omega
        have b11 : x ≤ 2000000 := by omega
        have b12 : c ≤ 1000000 := by omega
        have hcr : s' ≤ c ∧ c < r := by omega
        clear hx hc
        obtain ⟨pc, hpc⟩ : ∃ pc, pc + c = pp := ⟨pp - c, by have := HPP.out; have := HM.out; have := HB1.out; have := HSR0.out; omega⟩
        have hw : IntKind.i64.wrap ((pp : Int) - (c : Int)) = (pc : Int) := by rw [IntKind.wrap_i64]; omega
        have hrange : m ≤ pc ∧ pc < b ∧ a ≤ c ∧ c < m := by have := HPP.out; have := HM.out; have := HB1.out; have := HB2.out; have := HB3.out; have := HSR0.out; omega
        have HPC := Lib.hid hpc
        have HRG := Lib.hid hrange
        have HL := Lib.hid (show (P ++ (L ++ (R ++ Q))).length = n by simp only [List.length_append]; have := HP.out; have := HA.out; have := HB.out; have := HN.out; have := HLL.out; have := HRL.out; omega)
        have hnc : c < n := by have := HN.out; have := HB.out; omega
        have hnp : pc < n := by have := HN.out; omega
        have ec := Lib.hid (show el (P ++ (L ++ (R ++ Q))) c = el L (c - a) by
          have := el_right P (L ++ (R ++ Q)) (c - a)
          rw [show P.length + (c - a) = c by have := HP.out; omega] at this
          rw [this, el_left _ (by have := HA.out; have := HLL.out; omega)])
        have ep := Lib.hid (show el (P ++ (L ++ (R ++ Q))) pc = el R (pc - m) by
          have := el_right (P ++ L) (R ++ Q) (pc - m)
          rw [show (P ++ L).length + (pc - m) = pc by rw [List.length_append]; have := HP.out; have := HA.out; have := HLL.out; omega, List.append_assoc] at this
          rw [this, el_left _ (by have := HB.out; have := HRL.out; omega)])
        obtain ⟨L0, hL0⟩ : ∃ L0, P ++ (L ++ (R ++ Q)) = L0 := ⟨_, rfl⟩
        have HL0 := Lib.hid hL0
        rw [hL0] at HL ec ep HROW
        clear hL0 hpc hrange
        obtain ⟨xx, hxx⟩ : ∃ xx, el L (c - a) = xx := ⟨_, rfl⟩
        obtain ⟨yy, hyy⟩ : ∃ yy, el R (pc - m) = yy := ⟨_, rfl⟩
        have HXX := Lib.hid hxx
        have HYY := Lib.hid hyy
        rw [hxx] at ec
        rw [hyy] at ep
        clear hxx hyy
        obtain ⟨R0, hR⟩ : ∃ R0, orderL yy.ver xx.ver = R0 := ⟨_, rfl⟩
        have HRR := Lib.hid hR
        clear hR
        obtain ⟨qb, hqb⟩ : ∃ qb, decide (R0 < 0) = qb := ⟨_, rfl⟩
        go_upto_region 35 with fail
        refine wp_region_allS (by kernel_rfl) (by kernel_rfl) ?_
        have HZ := Lib.hid (HROW.out.keep ((Bl.refl _).drew))
        clear HROW
        generalize World.drew _ = Z at *
        obtain ⟨x0, x1, x2, x3, x4, x5, x6, x7⟩ := HZ.out.all8 (by rw [HL.out]; exact hnp) ep.out
        obtain ⟨y0, y1, y2, y3, y4, y5, y6, y7⟩ := HZ.out.all8 (by rw [HL.out]; exact hnc) ec.out
        have V := Lib.hid (fun q : Ext Z => forder_w _ _ R0 q.at (ep.out ▸ (HZ.out.keep q.bl).at_ (by rw [HL.out]; exact hnp)) (ec.out ▸ (HZ.out.keep q.bl).at_ (by rw [HL.out]; exact hnc)) HRR)
        repeat (refine wpS_step (fun K hK => ?_); go_simp; first | (refine hK _ ?_; clear hK K) | (apply Exists.intro; refine ⟨fun q => ?_, hK _ ?_⟩; (with_reducible exact V.out q); clear hK K))
        refine wpS_nil ?_
        intro q1
        have HROW := Lib.hid (HZ.out.keep q1.bl)
        clear x0 x1 x2 x3 x4 x5 x6 x7 y0 y1 y2 y3 y4 y5 y6 y7 V HZ
        generalize q1.at = Y at *
        clear q1
        cases qb
        · have HF := Lib.hid (show leC (el L (c - a)) (el R (pc - m)) = true by rw [HXX.out, HYY.out]; exact leC_yes.2 (by rw [HRR.out]; exact of_decide_eq_false hqb))
          clear hw
          go_wp2_with fail
          go_roundw
          case rel => exact ⟨c + 1, r, by have := HSR0.out; omega, by omega, HSR0.out.2, by go_num, rfl, by rw [HL0.out]; exact HROW.out, fun _ => by rw [Nat.add_sub_cancel, show nn - (c + 1) - m = pc - m by have := HPC.out; have := HPP.out; omega]; exact HF.out, HC2.out⟩
          case measure => simp [intOf]; omega
        · have HF := Lib.hid (show leC (el L (c - a)) (el R (pc - m)) = false by rw [HXX.out, HYY.out]; exact leC_not.2 (by rw [HRR.out]; exact of_decide_eq_true hqb))
          clear hw
          go_wp2_with fail
          go_roundw
          case rel => exact ⟨s', c, HSR0.out.1, by omega, by have := HSR0.out; omega, rfl, rfl, by rw [HL0.out]; exact HROW.out, HC1.out, fun _ => by rw [show nn - c - 1 - m = pc - m by have := HPC.out; have := HPP.out; omega]; exact HF.out⟩
          case measure => simp [intOf]; omega
      · have q0 : decide ((s' : Int) < (r : Int)) = false := decide_eq_false (by omega)
        have q0n : decide (s' < r) = false := decide_eq_false hlt
        obtain rfl : s' = r := by omega
        obtain ⟨e, he⟩ : ∃ e, e + s' = nn := ⟨nn - s', by have := HM.out; have := HB1.out; have := HSR0.out; omega⟩
        have s9 : (nn : Int) - (s' : Int) = (e : Int) := by omega
        have HE := Lib.hid (show m ≤ e ∧ e ≤ b ∧ a ≤ s' ∧ s' ≤ m ∧ s' ≤ mid ∧ mid ≤ e ∧ s' + (e - m) = mid ∧ mid + (m - s') = e by have := HM.out; have := HB1.out; have := HSR0.out; omega)
        have b11 : e ≤ 1000000 := by have := HE.out; omega
        have HCU := Lib.hid (cut_of (s := s') (e := e) HSL.out HSR.out (by rw [HLL.out]; exact HA.out) (by rw [HRL.out]; exact HB.out) HE.out.2.2.1 HE.out.2.2.2.1 HE.out.1 HE.out.2.1
          (fun h1 h2 => by
            have h3 := HC1.out (by have := HB2.out; omega)
            rwa [show nn - s' - m = e - m by omega] at h3)
          (fun h1 h2 => by
            have h3 := HC2.out (by have := HB3.out; have := HM.out; have := HB1.out; have := HSR0.out; omega)
            rwa [show nn - s' - 1 - m = e - 1 - m by omega] at h3))
        clear he HC1 HC2 HSR0 HB1 HB2 HB3 hlt hsr
        generalize L.take (s' - a) = L1 at *
        generalize L.drop (s' - a) = L2 at *
        generalize R.take (e - m) = R1 at *
        generalize R.drop (e - m) = R2 at *
        have HMG := Lib.hid HCU.out.mg
        have HR0 := Lib.hid (show RW w _ g (P ++ (L1 ++ (L2 ++ (R1 ++ (R2 ++ Q))))) by
          have := HROW.out
          rw [HCU.out.hl, HCU.out.hr] at this
          simpa using this)
        clear HROW
        go_upto_region 39 with fail
        go_cut [185] (fun t W' => t = .bool (decide (s' < m) && decide (m < e)) ∧ wr = W')
        case first => as_aux_lemma =>
          by_cases h1 : s' < m
          · have q1 : decide ((s' : Int) < (m : Int)) = true := decide_eq_true (by omega)
            have q1n : decide (s' < m) = true := decide_eq_true h1
            by_cases h2 : m < e
            · have q2 : decide ((m : Int) < (e : Int)) = true := decide_eq_true (by omega)
              have q2n : decide (m < e) = true := decide_eq_true h2
              go_wp2_with fail
              go_meet
              case rel => exact ⟨by rw [q1n, q2n]; rfl, rfl⟩
            · have q2 : decide ((m : Int) < (e : Int)) = false := decide_eq_false (by omega)
              have q2n : decide (m < e) = false := decide_eq_false h2
              go_wp2_with fail
              go_meet
              case rel => exact ⟨by rw [q1n, q2n]; rfl, rfl⟩
          · have q1 : decide ((s' : Int) < (m : Int)) = false := decide_eq_false (by omega)
            have q1n : decide (s' < m) = false := decide_eq_false h1
            go_wp2_with fail
            go_meet
            case rel => exact ⟨by rw [q1n]; rfl, rfl⟩
        case rest => as_aux_lemma =>
          obtain ⟨rfl, rfl⟩ := hcut
          go_upto_if 185 with fail
          go_cut [191] (fun _ W' => RW w W' g (P ++ (L1 ++ (R1 ++ (L2 ++ (R2 ++ Q))))))
          case first => as_aux_lemma =>
            by_cases h1 : s' < m ∧ m < e
            · have HRO := Lib.hid (rotate_any w wr g n ca (P ++ L1) L2 R1 (R2 ++ Q) s' m e (by rw [List.length_append, HP.out]; exact HCU.out.l1) HCU.out.l2 HCU.out.r1 (by rw [List.length_append]; have := HCU.out.r2; have := HN.out; omega) hn1 (by have := HCU.out.l2; omega) (by have := HCU.out.r1; omega) (.func (.func 22) #[] #[]) (by rw [List.append_assoc]; exact HR0.out))
              rw [List.append_assoc] at HRO
              rw [decide_eq_true h1.1, decide_eq_true h1.2]
              clear h1
              go_wp2_with fail
              refine HRO.out.mono ?_
              rintro _ W2 ⟨rfl, h2⟩
              have H2 := Lib.hid h2
              clear h2
              go_wp2_with fail
              go_meet
              case rel => exact H2.out
            · have hb : (decide (s' < m) && decide (m < e)) = false := by
                rw [Bool.and_eq_false_iff, decide_eq_false_iff_not, decide_eq_false_iff_not]
                omega
              have HE2 := Lib.hid (show L2 ++ (R1 ++ (R2 ++ Q)) = R1 ++ (L2 ++ (R2 ++ Q)) by
                have g1 := HCU.out.l2
                have g2 := HCU.out.r1
                have g3 := HE.out
                by_cases h3 : s' < m
                · have : R1 = [] := List.eq_nil_of_length_eq_zero (by omega)
                  rw [this]; rfl
                · have : L2 = [] := List.eq_nil_of_length_eq_zero (by omega)
                  rw [this]; rfl)
              rw [hb]
              rw [HE2.out] at HR0
              clear h1 hb
              go_wp2_with fail
              go_meet
              case rel => exact HR0.out
          case rest => as_aux_lemma =>
            have HR1 := Lib.hid hcut
            clear HR0 hcut
            go_upto_region 41 with fail
            go_cut [199] (fun t W' => t = .bool (decide (a < s') && decide (s' < mid)) ∧ wc = W')
            case first => as_aux_lemma =>
              by_cases h1 : a < s'
              · have q1 : decide ((a : Int) < (s' : Int)) = true := decide_eq_true (by omega)
                have q1n : decide (a < s') = true := decide_eq_true h1
                by_cases h2 : s' < mid
                · have q2 : decide ((s' : Int) < (mid : Int)) = true := decide_eq_true (by omega)
                  have q2n : decide (s' < mid) = true := decide_eq_true h2
                  go_wp2_with fail
                  go_meet
                  case rel => exact ⟨by rw [q1n, q2n]; rfl, rfl⟩
                · have q2 : decide ((s' : Int) < (mid : Int)) = false := decide_eq_false (by omega)
                  have q2n : decide (s' < mid) = false := decide_eq_false h2
                  go_wp2_with fail
                  go_meet
                  case rel => exact ⟨by rw [q1n, q2n]; rfl, rfl⟩
              · have q1 : decide ((a : Int) < (s' : Int)) = false := decide_eq_false (by omega)
                have q1n : decide (a < s') = false := decide_eq_false h1
                go_wp2_with fail
                go_meet
                case rel => exact ⟨by rw [q1n]; rfl, rfl⟩
            case rest => as_aux_lemma =>
              obtain ⟨rfl, rfl⟩ := hcut
              go_upto_if 199 with fail
              go_cut [205] (fun _ W' => RW w W' g (P ++ (mrg leC L1 R1 ++ (L2 ++ (R2 ++ Q)))))
              case first => as_aux_lemma =>
                by_cases h1 : a < s' ∧ s' < mid
                · have HRO := Lib.hid (ih wc P L1 R1 (L2 ++ (R2 ++ Q)) a s' mid HP.out HCU.out.l1 (by have := HCU.out.r1; have := HE.out; omega) (by rw [List.length_append, List.length_append]; have := HCU.out.l2; have := HCU.out.r2; have := HN.out; have := HE.out; omega) (by have := HCU.out.l1; omega) (by have := HCU.out.r1; have := HE.out; omega) (by have := HCU.out.l1; have := HCU.out.r1; have := HE.out; have := HK.out; have := HA.out; have := HB.out; have := HM.out; omega) HCU.out.sl1 HCU.out.sr1 HR1.out)
                  rw [decide_eq_true h1.1, decide_eq_true h1.2]
                  clear h1
                  go_wp2_with fail
                  refine HRO.out.mono ?_
                  rintro _ W2 ⟨rfl, h2⟩
                  have H2 := Lib.hid h2
                  clear h2
                  go_wp2_with fail
                  go_meet
                  case rel => exact H2.out
                · have hb : (decide (a < s') && decide (s' < mid)) = false := by
                    rw [Bool.and_eq_false_iff, decide_eq_false_iff_not, decide_eq_false_iff_not]
                    omega
                  have HE2 := Lib.hid (show L1 ++ (R1 ++ (L2 ++ (R2 ++ Q))) = mrg leC L1 R1 ++ (L2 ++ (R2 ++ Q)) by
                    have g1 := HCU.out.l1
                    have g2 := HCU.out.r1
                    have g3 := HE.out
                    by_cases h3 : a < s'
                    · have : R1 = [] := List.eq_nil_of_length_eq_zero (by omega)
                      rw [this, mrg_right]; rfl
                    · have : L1 = [] := List.eq_nil_of_length_eq_zero (by omega)
                      rw [this, mrg_nil]; rfl)
                  rw [hb]
                  rw [HE2.out] at HR1
                  clear h1 hb
                  go_wp2_with fail
                  go_meet
                  case rel => exact HR1.out
              case rest => as_aux_lemma =>
                have HR2 := Lib.hid hcut
                clear HR1 hcut
                go_upto_region 43 with fail
                go_cut [213] (fun t W' => t = .bool (decide (mid < e) && decide (e < b)) ∧ wc = W')
                case first => as_aux_lemma =>
                  by_cases h1 : mid < e
                  · have q1 : decide ((mid : Int) < (e : Int)) = true := decide_eq_true (by omega)
                    have q1n : decide (mid < e) = true := decide_eq_true h1
                    by_cases h2 : e < b
                    · have q2 : decide ((e : Int) < (b : Int)) = true := decide_eq_true (by omega)
                      have q2n : decide (e < b) = true := decide_eq_true h2
                      go_wp2_with fail
                      go_meet
                      case rel => exact ⟨by rw [q1n, q2n]; rfl, rfl⟩
                    · have q2 : decide ((e : Int) < (b : Int)) = false := decide_eq_false (by omega)
                      have q2n : decide (e < b) = false := decide_eq_false h2
                      go_wp2_with fail
                      go_meet
                      case rel => exact ⟨by rw [q1n, q2n]; rfl, rfl⟩
                  · have q1 : decide ((mid : Int) < (e : Int)) = false := decide_eq_false (by omega)
                    have q1n : decide (mid < e) = false := decide_eq_false h1
                    go_wp2_with fail
                    go_meet
                    case rel => exact ⟨by rw [q1n]; rfl, rfl⟩
                case rest => as_aux_lemma =>
                  obtain ⟨rfl, rfl⟩ := hcut
                  by_cases h1 : mid < e ∧ e < b
                  · have HRO := Lib.hid (ih wc (P ++ mrg leC L1 R1) L2 R2 Q mid e b (by rw [List.length_append, List.length_merge, HP.out]; have := HCU.out.l1; have := HCU.out.r1; have := HE.out; omega) (by have := HCU.out.l2; have := HE.out; omega) HCU.out.r2 HN.out (by have := HCU.out.l2; have := HE.out; omega) (by have := HCU.out.r2; omega) (by have := HCU.out.l2; have := HCU.out.r2; have := HE.out; have := HK.out; have := HA.out; have := HB.out; have := HM.out; omega) HCU.out.sl2 HCU.out.sr2 (by rw [List.append_assoc]; exact HR2.out))
                    rw [decide_eq_true h1.1, decide_eq_true h1.2]
                    clear h1
                    go_wp2_with fail
                    refine HRO.out.mono ?_
                    rintro _ W2 ⟨rfl, h2⟩
                    have H2 := Lib.hid (show RW w W2 g (P ++ (mrg leC L R ++ Q)) by rw [HMG.out]; simpa using h2)
                    clear h2
                    go_wp2_with fail
                    go_end0
                    exact ⟨rfl, H2.out⟩
                  · have hb : (decide (mid < e) && decide (e < b)) = false := by
                      rw [Bool.and_eq_false_iff, decide_eq_false_iff_not, decide_eq_false_iff_not]
                      omega
                    have HE2 := Lib.hid (show L2 ++ (R2 ++ Q) = mrg leC L2 R2 ++ Q by
                      have g1 := HCU.out.l2
                      have g2 := HCU.out.r2
                      have g3 := HE.out
                      by_cases h3 : mid < e
                      · have : R2 = [] := List.eq_nil_of_length_eq_zero (by omega)
                        rw [this, mrg_right]; rfl
                      · have : L2 = [] := List.eq_nil_of_length_eq_zero (by omega)
                        rw [this, mrg_nil]; rfl)
                    have H2 := Lib.hid (show RW w wc g (P ++ (mrg leC L R ++ Q)) by rw [HMG.out, List.append_assoc, ← HE2.out]; exact HR2.out)
                    rw [hb]
                    clear h1 hb
                    go_wp2_with fail
                    go_end0
                    exact ⟨rfl, H2.out⟩
theorem symM_all (w : World) (g n ca : Nat) (hn1 : n ≤ 1000000) : ∀ k, SymM w g n ca k
  | 0 => fun W P L R Q a m b hp ha hb hn h1 h2 hk => by omega
  | k + 1 => fun W P L R Q a m b hp ha hb hn h1 h2 hk hL hR hr => by
    by_cases e1 : L.length = 1
    · obtain ⟨x, rfl⟩ := List.length_eq_one_iff.1 e1
      exact symM_left w W g n ca P R x Q a m b hp ha hb hn hn1 h2 hR hr
    · by_cases e2 : R.length = 1
      · obtain ⟨x, rfl⟩ := List.length_eq_one_iff.1 e2
        exact symM_right w W g n ca P L x Q a m b hp ha hb hn hn1 (by omega) hL hr
      · exact symM_big w g n ca k hn1 (symM_all w g n ca hn1 k) W P L R Q a m b hp ha hb hn (by omega) (by omega) hk hL hR hr
end Go.Proofs.YtfjjnffifnohkaaGreat
end
