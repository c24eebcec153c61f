import Derived.Test.YtdkfgoaogmjjfaaStreamTakesP5
import Derived.Test.YtdkfgoaogmjjfaaStreamTakesP8
import Derived.Test.YtdkfgoaogmjjfaaStreamTakesP9
import Derived.Test.YtdkfgoaogmjjfaaStreamTakesP7
import Derived.Test.YtdkfgoaogmjjfaaBase
import Derived.ProofKit
import Derived.SizedLaws
import Derived.Deep.CondSized
import Derived.OpenShut
import Derived.Deep.Slices
import Derived.Laws.Cover2

/- the walk of StreamTakes (printed by wip/gen/takes.py). By an AI agent. -/
section
set_option linter.unusedVariables false
set_option linter.unusedSimpArgs false
namespace Go.Proofs.Ytdkfgoaogmjjfaa
open Go.RowKit

theorem and_mask10 (x : Int) : 0 ≤ bits .and .i64 x 1023 ∧ bits .and .i64 x 1023 ≤ 1023 := by
  have h1 : (BitVec.ofInt 64 x &&& BitVec.ofInt 64 1023).toNat ≤ 1023 := by
    rw [BitVec.toNat_and]
    exact Nat.and_le_right
  have e : bits .and .i64 x 1023 = IntKind.i64.wrap ((BitVec.ofInt 64 x &&& BitVec.ofInt 64 1023).toNat : Int) := rfl
  rw [e, IntKind.wrap_i64]
  omega
theorem pick_in (x : Int) {n : Nat} (hn : 0 < n) : ∃ k : Nat, k < n ∧ (bits .and .i64 x 1023).tmod n = k := by
  have h := and_mask10 x
  obtain ⟨m, hm⟩ := Int.eq_ofNat_of_zero_le h.1
  refine ⟨m % n, Nat.mod_lt _ hn, ?_⟩
  rw [hm]
  rfl
/-- a chain that is light -/
structure CH (w : World) (ta : Option Addr) (tn : Nat) (own : List TxnL) (f : Nat → TxAt) (n : Nat) : Prop where
  ts : TS w ta tn own f
  c : ChainOf own n
  pos : 0 < tn
  n2 : 2 ≤ n
  n8 : n ≤ 8
  ws : ∀ j, j < tn → (f j).wn ≤ 1000000
set_option maxHeartbeats 6400000 in
set_option maxRecDepth 100000 in
theorem takes_no (ta : Option Addr) (tn tc : Nat) (own : List TxnL) (f : Nat → TxAt) (pa : Option Addr) (pn pc : Nat) (picks : List Int) (w : World) (h : TS w ta tn own f) (hp : IA w pa pn picks)
    (hno : ¬ (lightT own = true ∧ pn ≤ 200 ∧ 0 < tn ∧ chainL own 0 = true)) :
    Calls Try.prog 3 #[.slice ta tn tc, .slice pa pn pc] w fun e w' => e = .returned (.bool true) ∧ Bl w w' := by
  have HT := Lib.hid h
  have hcap := h.cap
  have hpc := hp.cap
  clear h hp
  cases hl : lightT own
  · have HL := Lib.hid hl
    clear hl hno
    go_enter Try.func3, Try.ntmps3
    go_wp2_with fail
    refine (light22_any ta tn tc own f _ HT.out).mono ?_
    rintro e w1 ⟨rfl, hb1⟩
    rw [HL.out]
    go_wp2_with fail
    refine (alive22_any _).mono ?_
    rintro e w2 ⟨rfl, hb2⟩
    go_wp2_with fail
    go_ret
    exact ⟨rfl, hb1.trans hb2⟩
  have HL := Lib.hid hl
  by_cases h2 : pn ≤ 200
  case neg =>
    have d1 : decide ((200 : Int) < (pn : Int)) = true := decide_eq_true (by omega)
    have d2 : decide (200 < pn) = true := decide_eq_true (by omega)
    clear hl hno
    go_enter Try.func3, Try.ntmps3
    go_wp2_with fail
    refine (light22_any ta tn tc own f _ HT.out).mono ?_
    rintro e w1 ⟨rfl, hb1⟩
    rw [HL.out]
    go_wp2_with fail
    refine (alive22_any _).mono ?_
    rintro e w2 ⟨rfl, hb2⟩
    go_wp2_with fail
    go_ret
    exact ⟨rfl, hb1.trans hb2⟩
  have d1 : decide ((200 : Int) < (pn : Int)) = false := decide_eq_false (by omega)
  have d2 : decide (200 < pn) = false := decide_eq_false (by omega)
  by_cases h3 : 0 < tn
  case neg =>
    obtain rfl : tn = 0 := by omega
    clear hl hno
    go_enter Try.func3, Try.ntmps3
    go_wp2_with fail
    refine (light22_any ta 0 tc own f _ HT.out).mono ?_
    rintro e w1 ⟨rfl, hb1⟩
    rw [HL.out]
    go_wp2_with fail
    refine (alive22_any _).mono ?_
    rintro e w2 ⟨rfl, hb2⟩
    go_wp2_with fail
    go_ret
    exact ⟨rfl, hb1.trans hb2⟩
  have q3 : ((tn : Int) == 0) = false := by rw [beq_eq_false_iff_ne]; omega
  have HC : Hid (chainL own 0 = false) := Lib.hid (by
    cases hc : chainL own 0
    · rfl
    · exact absurd ⟨hl, h2, h3, hc⟩ hno)
  clear hl hno
  go_enter Try.func3, Try.ntmps3
  go_wp2_with fail
  refine (light22_any ta tn tc own f _ HT.out).mono ?_
  rintro e w1 ⟨rfl, hb1⟩
  rw [HL.out]
  go_wp2_with fail
  refine (rchain_any ta tn tc own f 0 _ (HT.out.keep hb1)).mono ?_
  rintro e w2 ⟨rfl, hb2⟩
  rw [HC.out]
  go_wp2_with fail
  refine (alive22_any _).mono ?_
  rintro e w3 ⟨rfl, hb3⟩
  go_wp2_with fail
  go_ret
  exact ⟨rfl, hb1.trans (hb2.trans hb3)⟩
set_option maxHeartbeats 6400000 in
set_option maxRecDepth 100000 in
theorem takes_one (ta : Option Addr) (tn tc : Nat) (own : List TxnL) (f : Nat → TxAt) (pa : Option Addr) (pn pc : Nat) (picks : List Int) (w : World) (n : Nat) (h : TS w ta tn own f) (hcn : ChainOf own n) (hpos : 0 < tn) (hn : n < 2) (hp : IA w pa pn picks)
    (hl : lightT own = true) (h2 : pn ≤ 200) (hc : chainL own 0 = true) :
    Calls Try.prog 3 #[.slice ta tn tc, .slice pa pn pc] w fun e w' => e = .returned (.bool true) ∧ Bl w w' := by
  have hcap := h.cap
  have hpc := hp.cap
  have HH := Lib.hid h
  have HL := Lib.hid hl
  have HC := Lib.hid hc
  have q3 : ((tn : Int) == 0) = false := by rw [beq_eq_false_iff_ne]; omega
  have d1 : decide ((200 : Int) < (pn : Int)) = false := decide_eq_false (by omega)
  have d2 : decide (200 < pn) = false := decide_eq_false (by omega)
  obtain ⟨tb, toff, rfl, _⟩ := h.cells 0 hpos
  have HA0 := Lib.hid (h.tx 0 hpos).at_.len
  have hl0 := hcn.len 0 (by rw [h.len]; exact hpos)
  have HC0 := Lib.hid (fun W (hb : Bl w W) => (h.get hb hpos).c4)
  obtain ⟨s0, hs0⟩ : ∃ s, f 0 = s := ⟨_, rfl⟩
  rw [hs0] at HA0 HC0
  rw [Nat.zero_mul, Nat.add_zero] at HC0
  obtain ⟨da0, dn0, dc0, aa0, an0, ac0, wa0, wn0, wc0⟩ := s0
  have ha0 : an0 = n := by have := HA0.out; dsimp only at this; omega
  subst ha0
  dsimp only at HC0
  clear h hp hl hc hs0 hl0 HA0 hcn
  go_enter Try.func3, Try.ntmps3
  go_wp2_with fail
  refine (light22_any _ tn tc own f _ HH.out).mono ?_
  rintro e w1 ⟨rfl, hb1⟩
  rw [HL.out]
  go_wp2_with fail
  refine (rchain_any _ tn tc own f 0 _ (HH.out.keep hb1)).mono ?_
  rintro e w2 ⟨rfl, hb2⟩
  rw [HC.out]
  have HB2 := Lib.hid (hb1.trans hb2)
  have c4 := HC0.out _ HB2.out
  clear hb1 hb2 d1 d2 q3
  have d3 : decide ((an0 : Int) < 2) = true := decide_eq_true (by omega)
  have d4 : decide (an0 < 2) = true := decide_eq_true hn
  go_wp2_with fail
  refine (alive22_any _).mono ?_
  rintro e w3 ⟨rfl, hb3⟩
  go_wp2_with fail
  go_ret
  exact ⟨rfl, HB2.out.trans hb3⟩
set_option maxHeartbeats 12800000 in
set_option maxRecDepth 100000 in
theorem takes_yes (ta : Option Addr) (tn tc : Nat) (own : List TxnL) (f : Nat → TxAt) (pa : Option Addr) (pn pc : Nat) (picks : List Int) (w : World) (n : Nat) (h : CH w ta tn own f n) (hp : IA w pa pn picks)
    (hl : lightT own = true) (h2 : pn ≤ 200) (hc : chainL own 0 = true) :
    Calls Try.prog 3 #[.slice ta tn tc, .slice pa pn pc] w fun e w' => e = .returned (.bool true) ∧ Bl w w' := by
  have hcap := h.ts.cap
  have hpc := hp.cap
  have hpos := h.pos
  have hn2 := h.n2
  have hn8 := h.n8
  have HH := Lib.hid h
  have HP := Lib.hid hp
  have HLE := Lib.hid h.ts.len
  have HL := Lib.hid hl
  have HC := Lib.hid hc
  have q3 : ((tn : Int) == 0) = false := by rw [beq_eq_false_iff_ne]; omega
  have d1 : decide ((200 : Int) < (pn : Int)) = false := decide_eq_false (by omega)
  have d2 : decide (200 < pn) = false := decide_eq_false (by omega)
  have HZK := Lib.hid (start_knows h.c (by omega))
  have HCN := Lib.hid h.c
  obtain ⟨tb, toff, rfl, _⟩ := h.ts.cells 0 hpos
  have HA0 := Lib.hid (h.ts.tx 0 hpos).at_.len
  have hl0 := h.c.len 0 (by rw [h.ts.len]; exact hpos)
  have HC0 := Lib.hid (fun W (hb : Bl w W) => (h.ts.get hb hpos).c4)
  obtain ⟨s0, hs0⟩ : ∃ s, f 0 = s := ⟨_, rfl⟩
  rw [hs0] at HA0 HC0
  rw [Nat.zero_mul, Nat.add_zero] at HC0
  obtain ⟨da0, dn0, dc0, aa0, an0, ac0, wa0, wn0, wc0⟩ := s0
  have ha0 : an0 = n := by have := HA0.out; dsimp only at this; omega
  subst ha0
  dsimp only at HC0
  clear h hp hl hc hs0 hl0 HA0
  go_enter Try.func3, Try.ntmps3
  go_wp2_with fail
  refine (light22_any _ tn tc own f _ HH.out.ts).mono ?_
  rintro e w1 ⟨rfl, hb1⟩
  rw [HL.out]
  go_wp2_with fail
  refine (rchain_any _ tn tc own f 0 _ (HH.out.ts.keep hb1)).mono ?_
  rintro e w2 ⟨rfl, hb2⟩
  rw [HC.out]
  have HB2 := Lib.hid (hb1.trans hb2)
  have c4 := HC0.out _ HB2.out
  clear hb1 hb2 d1 d2 q3
  have d3 : decide ((an0 : Int) < 2) = false := decide_eq_false (by omega)
  have d4 : decide (an0 < 2) = false := decide_eq_false (by omega)
  go_wp2_with fail
  refine (rzero3_any (an0 : Int) _ (by omega) (by omega)).mono ?_
  rintro e w3 ⟨kv, rfl, hz, hb3⟩
  have hzi : zeroI (an0 : Int) = zeroL an0 := by unfold zeroI zeroL; rw [if_pos (by omega)]; rfl
  rw [hzi] at hz
  have HB3 := Lib.hid (HB2.out.trans hb3)
  have HZ := Lib.hid hz.si
  clear c4 d3 d4 hzi hz hb3
  go_wp2_with fail
  go_loopw [6, 7] (fun kv i wr => ∃ k : Nat, k ≤ tn ∧ i = .int .i64 k ∧ Bl w3 wr ∧ SI wr kv (startL own k (zeroL an0))) (fun _ i _ => tn - (intOf i).toNat)
  case atStart => exact ⟨0, Nat.zero_le _, rfl, Bl.refl _, HZ.out⟩
  case round =>
    obtain ⟨k, hk, rfl, hbl, hsi⟩ := hrel
    have HBL := Lib.hid hbl
    obtain ⟨va, vn, vc, rfl, hI⟩ := hsi
    have HI := Lib.hid hI
    clear hbl hI
    by_cases hlt : k < tn
    · have HD := Lib.hid ((HH.out.ts.tx k hlt).deps.keep (HB3.out.trans HBL.out))
      have c3 := (HH.out.ts.get (HB3.out.trans HBL.out) hlt).c3
      have HS : Hid (startL own (k + 1) (zeroL an0) = joinL (startL own k (zeroL an0)) (withL (nthT own k).deps 0 0)) := Lib.hid rfl
      generalize nthT own k = t at *
      obtain ⟨s, hs⟩ : ∃ s, f k = s := ⟨_, rfl⟩
      rw [hs] at HD c3
      clear hs
      obtain ⟨da, dn, dc, aa, an, ac, wa, wn, wc⟩ := s
      dsimp only at HD c3
      go_wp2_with fail
      refine (rwith3_any da dn dc t.deps 0 0 _ HD.out (by decide)).mono ?_
      rintro e w4 ⟨v2, rfl, hf2, hb4⟩
      obtain ⟨wa2, wn2, wc2, rfl, hI2⟩ := hf2.si
      have HI2 := Lib.hid hI2
      have HB4 := Lib.hid hb4
      clear hf2 hI2 hb4 c3
      go_wp2_with fail
      refine (rjoin3_any va wa2 vn wn2 vc wc2 _ _ _ (HI.out.keep HB4.out) HI2.out).mono ?_
      rintro e w5 ⟨v3, rfl, hf3, hb5⟩
      have HF3 := Lib.hid (show SI w5 v3 (joinL (startL own k (zeroL an0)) (withL t.deps 0 0)) from hf3.si)
      have HB5 := Lib.hid (HBL.out.trans (HB4.out.trans hb5))
      clear hf3 hb5 HI HI2
      go_wp2_with fail
      go_roundw
      case rel => exact ⟨k + 1, by omega, by go_num, HB5.out, by rw [HS.out]; exact HF3.out⟩
      case measure => simp [intOf]; omega
    · have hkn : k = tn := by omega
      subst hkn
      have HB6 := Lib.hid (HB3.out.trans HBL.out)
      have HK : Hid (Knows own an0 0 (startL own k (zeroL an0))) := Lib.hid (by have := HZK.out; rw [HLE.out] at this; exact this)
      generalize startL own k (zeroL an0) = kl0 at *
      generalize hwr : wr = V at *
      clear hwr HZK HZ
      go_wp2_with fail
      go_loopw [6, 8, 9] (fun kv tk i wr => ∃ (p c : Nat) (kl : List Int), p ≤ pn ∧ c ≤ k ∧ i = .int .i64 p ∧ tk = .int .i64 c ∧ Bl V wr ∧ SI wr kv kl ∧ Knows own an0 c kl) (fun _ _ i _ => pn - (intOf i).toNat)
      case atStart => exact ⟨0, 0, kl0, Nat.zero_le _, Nat.zero_le _, rfl, rfl, Bl.refl _, ⟨_, _, _, rfl, HI.out⟩, HK.out⟩
      case round =>
        obtain ⟨p, c, kl, hpp, hck, rfl, rfl, hbl2, hsi2, hkn2⟩ := hrel
        obtain ⟨ka, kn, kc, rfl, hkI⟩ := hsi2
        have HKI := Lib.hid hkI
        have HKN := Lib.hid hkn2
        have HBQ := Lib.hid hbl2
        have HBW := Lib.hid (HB6.out.trans hbl2)
        clear hkI hkn2 hbl2
        by_cases hpl : p < pn
        · obtain ⟨pb, po, rfl, hpc2⟩ := HP.out.cells p hpl
          have hx := HBW.out.cell (hpc2 p hpl)
          obtain ⟨kk, hkk, hmod⟩ := pick_in (nth picks p) hpos
          clear hpc2
          generalize nth picks p = x at *
          have HTC := Lib.hid (HH.out.ts.get HBW.out hkk)
          have HTX := Lib.hid ((HH.out.ts.tx kk hkk).keep HBW.out)
          have hkl : kk < own.length := by rw [HLE.out]; exact hkk
          have HJ := Lib.hid (HKN.out.judge HCN.out (by rw [HLE.out]; exact hck) hkl)
          have HTK : Hid (kk = c → Knows own an0 (c + 1) (withL kl 0 (nth (nthT own kk).at_ 0))) := Lib.hid (fun e => by subst e; exact HKN.out.take (by omega))
          have HAL := Lib.hid (HCN.out.len kk hkl)
          have HV7 := Lib.hid (HTX.out.at_.wf_get 0)
          clear hkl
          obtain ⟨t, ht⟩ : ∃ t, nthT own kk = t := ⟨_, rfl⟩
          obtain ⟨s, hs⟩ : ∃ s, f kk = s := ⟨_, rfl⟩
          rw [ht] at HTC HTX HJ HTK HAL HV7
          rw [hs] at HTC HTX
          clear ht hs
          obtain ⟨o, num, prev, ds, xs, ws⟩ := t
          obtain ⟨da, dn, dc, aa, an, ac, wa, wn, wc⟩ := s
          obtain ⟨c0, c1, c2, c3, c4, c5⟩ := HTC.out
          dsimp only at c0 c1 c2 c3 c4 c5 HAL HTK HV7
          have hq0 : ((k : Int) == 0) = false := by rw [beq_eq_false_iff_ne]; omega
          have hk0 : ¬ (k : Int) = 0 := by omega
          go_wp2_with fail
          refine (judge_hid ka kn kc kl 1 o num prev da dn dc ds aa an ac xs wa wn wc ws _ HKI.out HTX.out.deps HTX.out.at_ HTX.out.ws _ HJ).mono ?_
          rintro e Y1 ⟨rfl, hy1⟩
          have HY := Lib.hid hy1
          clear c0 c1 c2 c3 c4 c5 hx hy1
          rcases Nat.lt_trichotomy kk c with hcmp | hcmp | hcmp
          · rw [if_pos hcmp]
            have e1 : decide ((kk : Int) < (c : Int)) = true := decide_eq_true (by omega)
            have e2 : decide (kk < c) = true := decide_eq_true hcmp
            have e3 : decide ((c : Int) < (kk : Int)) = false := decide_eq_false (by omega)
            have e4 : decide (c < kk) = false := decide_eq_false (by omega)
            have e5 : ((kk : Int) == (c : Int)) = false := by rw [beq_eq_false_iff_ne]; omega
            have e6 : ¬ kk = c := by omega
            go_wp2_with fail
            go_roundw
            case rel => exact ⟨p + 1, c, kl, by omega, hck, by go_num, rfl, HBQ.out.trans HY.out, ⟨_, _, _, rfl, HKI.out.keep HY.out⟩, HKN.out⟩
            case measure => simp [intOf]; omega
          · have HNX := Lib.hid (HTK.out hcmp)
            rw [if_neg (by omega), if_pos hcmp]
            have e1 : ((kk : Int) != (c : Int)) = false := by rw [hcmp]; simp
            have c4' := (HTC.out.keep HY.out).c4
            have hal2 : 0 < an := by have := HTX.out.at_.len; have := HAL.out; dsimp only at *; omega
            obtain ⟨bx, ox, hax, hcx⟩ := HTX.out.at_.cells 0 hal2
            dsimp only at hax
            subst hax
            have hx0 := HY.out.cell (hcx 0 hal2)
            dsimp only at c4' hx0
            rw [Nat.add_zero] at hx0
            have hckn : c < k := by omega
            have ia0 : decide ((0 : Int) < (an : Int)) = true := decide_eq_true (by omega)
            subst hcmp
            clear hcx
            go_wp2_with fail
            refine (rwith3_any ka kn kc kl 0 (nth xs 0) _ (HKI.out.keep HY.out) HV7.out).mono ?_
            rintro e Y2 ⟨v2, rfl, hf2, hy2⟩
            have HF2 := Lib.hid hf2.si
            have HY2 := Lib.hid (HBQ.out.trans (HY.out.trans hy2))
            clear c4' hx0 hf2 hy2
            go_wp2_with fail
            go_roundw
            case rel => exact ⟨p + 1, kk + 1, _, by omega, by omega, by go_num, by go_num, HY2.out, HF2.out, HNX.out⟩
            case measure => simp [intOf]; omega
          · rw [if_neg (by omega), if_neg (by omega)]
            have e1 : decide ((kk : Int) < (c : Int)) = false := decide_eq_false (by omega)
            have e2 : decide (kk < c) = false := decide_eq_false (by omega)
            have e3 : decide ((c : Int) < (kk : Int)) = true := decide_eq_true (by omega)
            have e4 : decide (c < kk) = true := decide_eq_true (by omega)
            have e5 : ((kk : Int) == (c : Int)) = false := by rw [beq_eq_false_iff_ne]; omega
            have e6 : ¬ kk = c := by omega
            go_wp2_with fail
            go_roundw
            case rel => exact ⟨p + 1, c, kl, by omega, hck, by go_num, rfl, HBQ.out.trans HY.out, ⟨_, _, _, rfl, HKI.out.keep HY.out⟩, HKN.out⟩
            case measure => simp [intOf]; omega
        · have hpe : p = pn := by omega
          subst hpe
          go_wp2_with fail
          go_loopw [6, 12] (fun kv i wz => ∃ (c : Nat) (kl : List Int), c ≤ k ∧ i = .int .i64 c ∧ Bl wr wz ∧ SI wz kv kl ∧ Knows own an0 c kl) (fun _ i _ => k - (intOf i).toNat)
          case atStart => exact ⟨c, kl, hck, rfl, Bl.refl _, ⟨_, _, _, rfl, HKI.out⟩, HKN.out⟩
          case round =>
            clear HKI HKN
            obtain ⟨c, kl, hck, rfl, hbl3, hsi3, hkn3⟩ := hrel
            obtain ⟨ka, kn, kc, rfl, hkI⟩ := hsi3
            have HKI := Lib.hid hkI
            have HKN := Lib.hid hkn3
            have HB3' := Lib.hid hbl3
            have HBW3 := Lib.hid (HBW.out.trans hbl3)
            clear hkI hkn3 hbl3
            by_cases hcl : c < k
            · have HTC := Lib.hid (HH.out.ts.get HBW3.out hcl)
              have HTX := Lib.hid ((HH.out.ts.tx c hcl).keep HBW3.out)
              have hkl : c < own.length := by rw [HLE.out]; exact hcl
              have HJ := Lib.hid (HKN.out.judge HCN.out (by rw [HLE.out]; exact hck) hkl)
              rw [if_neg (Nat.lt_irrefl c), if_pos rfl] at HJ
              have HTK : Hid (Knows own an0 (c + 1) (withL kl 0 (nth (nthT own c).at_ 0))) := Lib.hid (HKN.out.take (by omega))
              have HAL := Lib.hid (HCN.out.len c hkl)
              have HV7 := Lib.hid (HTX.out.at_.wf_get 0)
              clear hkl
              obtain ⟨t, ht⟩ : ∃ t, nthT own c = t := ⟨_, rfl⟩
              obtain ⟨s, hs⟩ : ∃ s, f c = s := ⟨_, rfl⟩
              rw [ht] at HTC HTX HJ HTK HAL HV7
              rw [hs] at HTC HTX
              clear ht hs
              obtain ⟨o, num, prev, ds, xs, ws⟩ := t
              obtain ⟨da, dn, dc, aa, an, ac, wa, wn, wc⟩ := s
              obtain ⟨c0, c1, c2, c3, c4, c5⟩ := HTC.out
              dsimp only at c0 c1 c2 c3 c4 c5 HAL HTK HV7
              go_wp2_with fail
              refine (judge_hid ka kn kc kl 1 o num prev da dn dc ds aa an ac xs wa wn wc ws _ HKI.out HTX.out.deps HTX.out.at_ HTX.out.ws _ HJ).mono ?_
              rintro e Y1 ⟨rfl, hy1⟩
              have HY := Lib.hid hy1
              clear c0 c1 c2 c3 c4 c5 hy1
              have c4' := (HTC.out.keep HY.out).c4
              have hal2 : 0 < an := by have := HTX.out.at_.len; have := HAL.out; dsimp only at *; omega
              obtain ⟨bx, ox, hax, hcx⟩ := HTX.out.at_.cells 0 hal2
              dsimp only at hax
              subst hax
              have hx0 := HY.out.cell (hcx 0 hal2)
              dsimp only at c4' hx0
              rw [Nat.add_zero] at hx0
              clear hcx
              go_wp2_with fail
              refine (rwith3_any ka kn kc kl 0 (nth xs 0) _ (HKI.out.keep HY.out) HV7.out).mono ?_
              rintro e Y2 ⟨v2, rfl, hf2, hy2⟩
              have HF2 := Lib.hid hf2.si
              have HY2 := Lib.hid (HB3'.out.trans (HY.out.trans hy2))
              clear c4' hx0 hf2 hy2
              go_wp2_with fail
              go_roundw
              case rel => exact ⟨c + 1, _, by omega, by go_num, HY2.out, HF2.out, HTK.out⟩
              case measure => simp [intOf]; omega
            · have hce : c = k := by omega
              subst hce
              have HNO : Hid (unsentL own 0 kl (-1) = []) := Lib.hid (Knows.none (by have := HKN.out; rw [← HLE.out] at this; exact this) HCN.out (by omega) (-1))
              go_wp2_with fail
              refine (alive22_any _).mono ?_
              rintro e Y1 ⟨rfl, hy1⟩
              have HY := Lib.hid hy1
              clear hy1
              go_wp2_with fail
              refine (unsent_any _ c tc own f 0 ka kn kc kl (-1) _ (HH.out.ts.keep (HBW3.out.trans HY.out)) (HKI.out.keep HY.out) HH.out.ws).mono ?_
              rintro e Y2 ⟨u, g, rfl, hot, hy2⟩
              rw [HNO.out] at hot
              obtain ⟨ua, uc, rfl, _⟩ := hot.ts (by decide)
              have HY2 := Lib.hid (HBW3.out.trans (HY.out.trans hy2))
              clear hot hy2
              go_wp2_with fail
              go_ret
              exact ⟨rfl, HY2.out⟩

theorem streamTakes_walk (ta : Option Addr) (tn tc : Nat) (own : List TxnL) (f : Nat → TxAt) (pa : Option Addr) (pn pc : Nat) (picks : List Int) (w : World) (h : TS w ta tn own f) (hp : IA w pa pn picks) :
    Calls Try.prog 3 #[.slice ta tn tc, .slice pa pn pc] w fun e w' => e = .returned (.bool true) ∧ Bl w w' := by
  by_cases hno : lightT own = true ∧ pn ≤ 200 ∧ 0 < tn ∧ chainL own 0 = true
  · obtain ⟨h1, h2, h3, h4⟩ := hno
    have hc := chain_of h4
    have hol : 0 < own.length := by rw [h.len]; exact h3
    have hn8 : (nthT own 0).at_.length ≤ 8 := (valid_parts (hc.parts 0 hol).at_).2.1
    have hls := (lightT_parts h1).2
    have hws : ∀ j, j < tn → (f j).wn ≤ 1000000 := fun j hj => by
      have h5 := hls j (by rw [h.len]; exact hj)
      simp only [smallT, Bool.and_eq_true, decide_eq_true_eq] at h5
      have h6 := (h.tx j hj).ws.len
      omega
    by_cases hn2 : 2 ≤ (nthT own 0).at_.length
    · exact takes_yes ta tn tc own f pa pn pc picks w _ ⟨h, hc, h3, hn2, hn8, hws⟩ hp h1 h2 h4
    · exact takes_one ta tn tc own f pa pn pc picks w _ h hc h3 (by omega) hp h1 h2 h4
  · exact takes_no ta tn tc own f pa pn pc picks w h hp hno
end Go.Proofs.Ytdkfgoaogmjjfaa
end

/- From a walk ('it returns true, and nothing that was there has turned') to the given statement. By an AI agent. -/
section
namespace Go.Proofs.Ytdkfgoaogmjjfaa
open Go.ChangeShapes Go.WideShapes Go.ChangeAt Go.RowKit

theorem own : ownKnob Try.prog.godebug = none := by kernel_rfl
theorem laidOut : laidOutB Try.prog = true := by kernel_rfl

section
variable {H : Type} {enc : TypeId × Value → H}

/-- arguments that can be read, read as they did -/
theorem trodAll_keep {W W' : World} (hb : Bl W W') : ∀ (ts : List TypeId) (vs : List Value) (ds : List (DataW H)) (ps : List MemPlace),
    (∀ t ∈ ts, Try.prog.readableRec t = true ∧ t < Try.prog.types.size) → (∀ x ∈ ps, x.block < W.heap.size) →
    DataW.TrodAll enc Try.prog W 0 (fun _ => true) true ts vs ds ps → DataW.TrodAll enc Try.prog W' 0 (fun b => decide (b < W.heap.size)) true ts vs ds ps
  | [], [], [], ps, _, _, h => h
  | t :: ts, v :: vs, d :: ds, ps, hr, hlt, h => by
    obtain ⟨p, q, h1, h2, rfl⟩ := h
    exact ⟨p, q, Below.trod laidOut (hr t (by simp)).1 (hr t (by simp)).2 h1 hb (fun x hx => hlt x (by simp [hx])), trodAll_keep hb ts vs ds q (fun t ht => hr t (by simp [ht])) (fun x hx => hlt x (by simp [hx])) h2, rfl⟩
  | [], [], _ :: _, _, _, _, h => h.elim
  | [], _ :: _, _, _, _, _, h => h.elim
  | _ :: _, [], _, _, _, _, h => h.elim
  | _ :: _, _ :: _, [], _, _, _, h => h.elim

theorem trodAll_len {P : Program} {w : World} {b : Nat} {sp : Nat → Bool} {hd : Bool} : ∀ (ts : List TypeId) (vs : List Value) (ds : List (DataW H)) (ps : List MemPlace), DataW.TrodAll enc P w b sp hd ts vs ds ps → ds.length = ts.length
  | [], [], [], _, _ => rfl
  | _ :: ts, _ :: vs, _ :: ds, _, h => by
    obtain ⟨p, q, h1, h2, e⟩ := h
    simp [trodAll_len ts vs ds q h2]
  | [], [], _ :: _, _, h => h.elim
  | [], _ :: _, _, _, h => h.elim
  | _ :: _, [], _, _, h => h.elim
  | _ :: _, _ :: _, [], _, h => h.elim

/-- THE LAW's POST, out of its walk -/
theorem law_post {f : FuncId} {fn : Func} {s : ChangeSpec} {W : World} {args : Array Value} {ds gs : List (DataW H)} {before : List MemPlace}
    (hres : fn.resultTypes = #[4]) (hvars : s.vars = []) (hread : ∀ t ∈ fn.params.toList, Try.prog.readableRec t = true ∧ t < Try.prog.types.size)
    (hfn : ∀ ds : List (DataW H), ds.length = fn.params.toList.length → s.fn H ds = { results := [.lit (.bool true)], args := ds })
    (hW : DataW.Whole enc Try.prog fn.params.toList s.vars false W args.toList ds gs before)
    (hc : Calls Try.prog f args W fun e W' => e = .returned (.bool true) ∧ Bl W W') :
    Calls Try.prog f args W fun e W' => ∃ v, e = .returned v ∧ s.post enc Try.prog fn false true false false W args v W' := by
  refine hc.mono fun e W' ⟨he, hb⟩ => ?_
  subst he
  have hW' := hW
  obtain ⟨p, q, hA, hV, rfl, _, _⟩ := hW
  rw [hvars] at hV
  obtain ⟨rfl, rfl⟩ := trodVars_none hV
  have hl : ds.length = fn.params.toList.length := trodAll_len _ _ _ _ hA
  have e1 := hfn (ds ++ []) (by simpa using hl)
  simp only [List.append_nil] at hW' e1
  refine ⟨_, rfl, ds, [], p, [], p, [], hW', ?_, ?_, ?_, Below.frame hb _, fun h => by cases h⟩
  · simp only [List.append_nil, e1, hres]
    exact trodAll_mk1 (shut_bool Try.underlying4 _)
  · simp only [List.append_nil, e1]
    exact trodAll_keep hb _ _ _ _ hread (fun x hx => by have := hW'.lt x hx; simpa using this) hA
  · simp only [List.append_nil, e1, hvars]
    rfl

theorem cells_int : Try.prog.cellsOf 3 = 1 := by kernel_rfl
theorem bytes_int : Try.prog.bytesOf 3 = 8 := by kernel_rfl

set_option maxRecDepth 100000 in
/-- an argument that is a vector -/
theorem open_vec {W : World} {base : Nat} {v : Value} {d : DataW H} {p : List MemPlace} (hval : Value.okWide Try.prog W .any base 27 v) (h : DataW.Trod enc Try.prog W 0 (fun _ => true) true 27 v d p)
    (hsz : ∀ elems spare, d = .slice elems spare → (elems.length + spare.length) * Try.prog.bytesOf 3 ≤ reachBytes) : ∃ a n cap xs, v = .slice a n cap ∧ IA W a n xs := by
  obtain ⟨a0, len, cap, rfl⟩ := okWide_slice Try.underlying27 hval
  obtain ⟨fuel, hf⟩ := h
  rcases open_ints Try.underlying27 Try.underlying3 cells_int hf with ⟨hcs, hx⟩ | ⟨a, len', cap', zs, hcs, _, hl, hm, hz, hx, hcell, hwz⟩
  · simp [Value.cells] at hcs
    obtain ⟨rfl, rfl, rfl⟩ := hcs
    exact ⟨none, 0, 0, [], rfl, IA.nil _ _⟩
  · simp [Value.cells] at hcs
    obtain ⟨rfl, rfl, rfl⟩ := hcs
    simp only [Prod.mk.injEq] at hx
    obtain ⟨rfl, rfl⟩ := hx
    simp only [if_true] at hz
    have hreach := hsz _ _ rfl
    rw [bytes_int] at hreach
    simp only [lits, List.length_map, List.length_take, List.length_drop, reachBytes] at hreach
    refine ⟨some a, len, cap, zs.take len, rfl, by rw [List.length_take]; omega, by omega, fun j hj => ?_, fun x hx => ?_⟩
    · obtain ⟨b, off, spot⟩ := a
      have hspot : spot = none := by simpa [Addr.add] using World.cell?_spot (hcell 0 (by omega))
      subst hspot
      refine ⟨b, off, rfl, fun j hj => ?_⟩
      rw [← add_plain, hcell j (by omega)]
      simp [nth, List.getD, hj]
    · exact bounds_i64 (hwz x (List.mem_of_mem_take hx))
end
end Go.Proofs.Ytdkfgoaogmjjfaa
end

/- Arguments opened: numbers, strings, vectors, structs and slices of structs, by the cells that they read. By an AI agent. -/
section
namespace Go.Proofs.Ytdkfgoaogmjjfaa
open Go.ChangeShapes Go.WideShapes Go.ChangeAt Go.RowKit Go.Deep

section
variable {H : Type} {enc : TypeId × Value → H}

/-- no part of the datum is too great -/
def Wt (t : TypeId) (d : DataW H) : Prop := ∀ m ∈ d.weights Try.prog t, m ≤ reachBytes

theorem wt_arg {ts : List TypeId} {ds : List (DataW H)} (h : (DataW.weightsEach Try.prog ts ds).all (· ≤ reachBytes) = true) {j : Nat} {t : TypeId} {d : DataW H} (ht : ts[j]? = some t) (hd : ds[j]? = some d) : Wt t d :=
  fun m hm => by simpa using List.all_eq_true.1 h m (DataW.weights_mem_each ht hd m hm)
theorem wt_part {t : TypeId} {fs : Array Field} {parts : List (DataW H)} (hu : Try.prog.underlying t = some (.struct fs)) (h : Wt t (.agg parts)) {j : Nat} {f : Field} {d : DataW H} (hf : fs[j]? = some f) (hd : parts[j]? = some d) : Wt f.type d :=
  fun m hm => h m (by
    simp only [DataW.weights, hu]
    exact DataW.weights_mem_each (j := j) (by simp [hf]) hd m hm)
theorem weights_all {e : TypeId} {l : List (DataW H)} {d : DataW H} (hd : d ∈ l) {m : Nat} (hm : m ∈ d.weights Try.prog e) : m ∈ DataW.weightsAll Try.prog e l := by
  induction l with
  | nil => simp at hd
  | cons a l ih =>
    simp only [DataW.weightsAll, List.mem_append]
    rcases List.mem_cons.1 hd with rfl | h
    · exact .inl hm
    · exact .inr (ih h)
theorem wt_slice {t e : TypeId} {elems spare : List (DataW H)} (hu : Try.prog.underlying t = some (.slice e)) (h : Wt t (.slice elems spare)) :
    (elems.length + spare.length) * Try.prog.bytesOf e ≤ reachBytes ∧ ∀ d ∈ elems, Wt e d := by
  refine ⟨h _ (by simp [DataW.weights, hu]), fun d hd m hm => h m ?_⟩
  simp only [DataW.weights, hu, List.mem_cons, List.mem_append]
  exact .inr (.inl (weights_all hd hm))

/-- what lies at cells, as a datum of a type -/
def Rd (W : World) (t : TypeId) (cs : List Value) (d : DataW H) : Prop := ∃ (fuel : Nat) (ps : List MemPlace), DataW.trod enc Try.prog W 0 (fun _ => true) true fuel t cs = some (d, ps)

theorem rd_of_trod {W : World} {t : TypeId} {v : Value} {d : DataW H} {p : List MemPlace} (h : DataW.Trod enc Try.prog W 0 (fun _ => true) true t v d p) : Rd (enc := enc) W t v.cells.toList d := by
  obtain ⟨fuel, h⟩ := h
  exact ⟨fuel, p, h⟩

theorem rd_int {W : World} {cs : List Value} {d : DataW H} {t : TypeId} (hu : Try.prog.underlying t = some (.int .i64)) (h : Rd (enc := enc) W t cs d) : ∃ n, cs = [.int .i64 n] ∧ -9223372036854775808 ≤ n ∧ n ≤ 9223372036854775807 := by
  obtain ⟨fuel, ps, h⟩ := h
  obtain ⟨n, h1, _, h3⟩ := DataW.trod_int hu h
  have := bounds_i64 h3
  exact ⟨n, h1, this⟩
theorem rd_bool {W : World} {cs : List Value} {d : DataW H} {t : TypeId} (hu : Try.prog.underlying t = some .bool) (h : Rd (enc := enc) W t cs d) : ∃ b, cs = [.bool b] := by
  obtain ⟨fuel, ps, h⟩ := h
  obtain ⟨n, h1, _⟩ := DataW.trod_bool hu h
  exact ⟨n, h1⟩
theorem rd_string {W : World} {cs : List Value} {d : DataW H} {t : TypeId} (hu : Try.prog.underlying t = some .string) (h : Rd (enc := enc) W t cs d) (hw : Wt t d) : ∃ s : ByteArray, cs = [.string s] ∧ s.size ≤ 140737488351232 := by
  obtain ⟨fuel, ps, h⟩ := h
  obtain ⟨s, h1, h2, _⟩ := DataW.trod_string hu h
  simp only [Prod.mk.injEq] at h2
  obtain ⟨rfl, _⟩ := h2
  refine ⟨s, h1, ?_⟩
  have := hw s.data.toList.length (by simp [DataW.weights])
  simpa [reachBytes] using this
theorem rd_float {W : World} {cs : List Value} {d : DataW H} {t : TypeId} (hu : Try.prog.underlying t = some (.float .f64)) (h : Rd (enc := enc) W t cs d) : ∃ x : Nat, cs = [.float .f64 x] ∧ x < 18446744073709551616 := by
  obtain ⟨fuel, ps, h⟩ := h
  cases fuel with
  | zero => simp [DataW.trod] at h
  | succ n =>
    unfold DataW.trod at h
    rw [hu] at h
    split at h <;> simp_all
    rename_i he
    subst he
    have h2 := h.1.2
    simpa [Lit.wf] using h2
theorem rd_vec {W : World} {cs : List Value} {d : DataW H} (h : Rd (enc := enc) W 27 cs d) (hw : Wt 27 d) : ∃ a n cap xs, cs = [.slice a n cap] ∧ IA W a n xs := by
  obtain ⟨fuel, ps, hf⟩ := h
  rcases open_ints Try.underlying27 Try.underlying3 cells_int hf with ⟨hcs, hx⟩ | ⟨a, len, cap, zs, hcs, _, hl, hm, hz, hx, hcell, hwz⟩
  · exact ⟨none, 0, 0, [], hcs, IA.nil _ _⟩
  · simp only [Prod.mk.injEq] at hx
    obtain ⟨rfl, rfl⟩ := hx
    simp only [if_true] at hz
    have hreach := (wt_slice Try.underlying27 hw).1
    rw [bytes_int] at hreach
    simp only [lits, List.length_map, List.length_take, List.length_drop, reachBytes] at hreach
    refine ⟨some a, len, cap, zs.take len, hcs, by rw [List.length_take]; omega, by omega, fun j hj => ?_, fun x hx => ?_⟩
    · obtain ⟨b, off, spot⟩ := a
      have hspot : spot = none := by simpa [Addr.add] using World.cell?_spot (hcell 0 (by omega))
      subst hspot
      refine ⟨b, off, rfl, fun j hj => ?_⟩
      rw [← add_plain, hcell j (by omega)]
      simp [nth, List.getD, hj]
    · exact bounds_i64 (hwz x (List.mem_of_mem_take hx))

/-- a struct, field by field -/
theorem rd_struct {W : World} {t : TypeId} {fs : Array Field} {cs : List Value} {d : DataW H} (hu : Try.prog.underlying t = some (.struct fs)) (h : Rd (enc := enc) W t cs d) (hw : Wt t d) :
    cs.length = Try.prog.cellsOf t ∧ ∀ (i : Nat) (f : Field), fs[i]? = some f → ∃ y, Rd (enc := enc) W f.type ((cs.drop f.offset).take (Try.prog.cellsOf f.type)) y ∧ Wt f.type y := by
  obtain ⟨fuel, ps, h⟩ := h
  obtain ⟨xs, n, _, hx, hl, hxl, hf⟩ := DataW.trod_struct hu h
  simp only [Prod.mk.injEq] at hx
  obtain ⟨rfl, rfl⟩ := hx
  refine ⟨hl, fun i f hi => ?_⟩
  have hlt : i < xs.length := by rw [hxl]; exact (Array.getElem?_eq_some_iff.1 hi).1
  have h1 := hf i f hi
  rw [List.getElem?_eq_getElem hlt] at h1
  exact ⟨xs[i].1, ⟨n, xs[i].2, h1⟩, wt_part hu hw hi (by simp [hlt])⟩

/-- a slice of structs, element by element: the cells of each -/
theorem rd_slice {W : World} {t e : TypeId} {cs : List Value} {d : DataW H} {k : Nat} (hu : Try.prog.underlying t = some (.slice e)) (hk : Try.prog.cellsOf e = k) (hk0 : 0 < k) (h : Rd (enc := enc) W t cs d) (hw : Wt t d) :
    ∃ a n cap, cs = [.slice a n cap] ∧ n * Try.prog.bytesOf e ≤ 140737488351232 ∧ ∀ j, j < n → ∃ b off, a = some ⟨b, off, none⟩ ∧ ∀ j, j < n → ∃ y cs', Rd (enc := enc) W e cs' y ∧ Wt e y ∧ cs'.length = k ∧ ∀ i, i < k → W.cell? ⟨b, off + j * k + i, none⟩ = cs'[i]? := by
  obtain ⟨fuel, ps, h⟩ := h
  rcases open_slice hu h with ⟨hcs, _⟩ | ⟨a, len, cap, m, n, D, Pl, hcs, _, hl, hm, hmm, hx, hi⟩
  · exact ⟨none, 0, 0, hcs, by simp, fun j hj => by omega⟩
  · simp only [Prod.mk.injEq] at hx
    obtain ⟨rfl, _⟩ := hx
    simp only [if_true] at hmm
    obtain ⟨hw1, hw2⟩ := wt_slice hu hw
    simp only [List.length_map, List.length_range] at hw1
    refine ⟨some a, len, cap, hcs, ?_, fun j0 hj0 => ?_⟩
    · have : len * Try.prog.bytesOf e ≤ (len + (m - len)) * Try.prog.bytesOf e := Nat.mul_le_mul_right _ (by omega)
      unfold reachBytes at hw1
      omega
    · have hcell : ∀ j, j < m → ∃ cs', W.cells? 0 (a.add (j * k)) k = some cs' ∧ DataW.trod enc Try.prog W 0 (fun _ => true) true n e cs' = some (D j, Pl j) := by
        rw [hk] at hi; exact hi
      obtain ⟨b, off, spot⟩ := a
      have hspot : spot = none := by
        obtain ⟨cs', hc, _⟩ := hcell 0 (by omega)
        obtain ⟨_, hcl, hat⟩ := World.cells?_some hc
        have h0 := hat 0 hk0
        rw [List.getElem?_eq_getElem (by omega)] at h0
        simpa [Addr.add] using World.cell?_spot h0
      subst hspot
      refine ⟨b, off, rfl, fun j hj => ?_⟩
      obtain ⟨cs', hc, ht⟩ := hcell j (by omega)
      obtain ⟨_, hcl, hat⟩ := World.cells?_some hc
      refine ⟨D j, cs', ⟨n, Pl j, ht⟩, hw2 _ (List.mem_map.2 ⟨j, List.mem_range.2 hj, rfl⟩), hcl, fun i hi' => ?_⟩
      have h1 := hat i hi'
      rw [add_plain, add_plain] at h1
      exact h1
end
end Go.Proofs.Ytdkfgoaogmjjfaa
end
