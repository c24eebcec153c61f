import Derived.Test.YtaelghbjbopilaaGreatQProtoRepliesUptoP27
import Derived.Test.YtaelghbjbopilaaGreatQProtoRepliesUptoP22
import Derived.Test.YtaelghbjbopilaaGreatQProtoRepliesUptoP26
import Derived.Test.YtaelghbjbopilaaGreatQProtoRepliesUptoP28
import Derived.Test.YtaelghbjbopilaaGreatQProtoRepliesUptoP6
import Derived.Test.YtaelghbjbopilaaGreatQProtoRepliesUptoP5
import Derived.Outline
import Derived.Deep.RegionLaw
import Derived.Deep.AppendLies

/- bedrockref26.Weight, ReplyRight, SameReply (printed by gen/reps.py). By an AI agent. -/
section
set_option linter.unusedVariables false
set_option linter.unusedSimpArgs false
namespace Go.Proofs.YtaelghbjbopilaaGreat
open Go.RowKit
attribute [local go_sem] eOp eOper eUpon

theorem sumP_mono (ps : List (ByteArray × ValL)) (k : Nat) : sumP ps k ≤ sumP ps ps.length := by
  unfold sumP
  rw [List.take_length]
  conv => rhs; rw [← List.take_append_drop k ps]
  rw [List.map_append, List.sum_append]; omega
set_option maxHeartbeats 3200000 in
set_option maxRecDepth 100000 in
theorem weight_any (c1 n1 : Int) (ad1 : Option Addr) (an1 ac1 : Nat) (xs1 : List Int) (t1 : Bool) (x1 : Nat) (m1 : Int) (s1 : ByteArray) (pd1 : Option Addr) (pn1 pc1 : Nat) (ps1 : List (ByteArray × ValL)) (z1 : ByteArray) (w : World) (hp : PP w pd1 pn1 ps1) (hw : z1.size + s1.size + sumP ps1 ps1.length ≤ 1048576) :
    Calls Tryz.prog 4 #[.agg #[.int .i64 c1, .int .i64 n1, .slice ad1 an1 ac1, .bool t1, .float .f64 x1, .int .i64 m1, .string s1, .slice pd1 pn1 pc1, .string z1]] w fun e w' => e = .returned (.int .i64 ((z1.size + s1.size + sumP ps1 ps1.length : Nat) : Int)) ∧ Bl w w' := by
  have hsf := store_float
  have G := AC.new w _ rfl (repCs c1 n1 ad1 an1 ac1 t1 x1 m1 s1 pd1 pn1 pc1 z1) 30
  have hb := (Bl.refl w).alloc (.cells (repCs c1 n1 ad1 an1 ac1 t1 x1 m1 s1 pd1 pn1 pc1 z1).toArray 30)
  unfold repCs at G hb
  have HL := Lib.hid hp.len
  have hcap := hp.cap
  have HP := Lib.hid hp
  have w0 : IntKind.i64.wrap ((z1.size : Int) + (s1.size : Int)) = ((z1.size + s1.size : Nat) : Int) := by rw [IntKind.wrap_i64]; omega
  obtain ⟨k0, k1, k2, k3, k4, k5, k6, k7, k8⟩ := AC.rep (code := c1) (num := n1) (ad := ad1) (n := an1) (ca := ac1) (t := t1) (x := x1) (m := m1) (s := s1) (pd := pd1) (pn := pn1) (pc := pc1) (text := z1) G
  clear hp
  go_enter Tryz.func4, Tryz.ntmps4
  go_wp2_with fail
  have GH := Lib.hid G
  have HB := Lib.hid hb
  clear G hb k0 k1 k2 k3 k4 k5 k6 k7 k8
  generalize w.alloc _ = W at *
  generalize w.heap.size = g at *
  generalize hQ : z1.size + s1.size = Q at *
  go_loopw [3, 4] (fun nv iv wr => ∃ (k S : Nat), k ≤ pn1 ∧ iv = .int .i64 k ∧ nv = .int .i64 S ∧ S = Q + sumP ps1 k ∧ Bl W wr) (fun _ iv _ => pn1 - (intOf iv).toNat)
  case atStart => exact ⟨0, Q, Nat.zero_le _, rfl, (by go_num), by simp [sumP], Bl.refl _⟩
  case round =>
    obtain ⟨k, S, hk, rfl, rfl, hS, hbl⟩ := hrel
    have HS := Lib.hid hS
    have HBL := Lib.hid hbl
    clear hS hbl
    have hgr := GH.out.keep HBL.out
    have k7 := hgr.cell 7 _ rfl
    by_cases hlt : k < pn1
    · have hkl : k < ps1.length := by rw [HL.out]; exact hlt
      obtain ⟨ba, oa, rfl, _⟩ := HP.out.cells k hlt
      have HPC := Lib.hid (HP.out.get (HB.out.trans (HBL.out.drew)) hlt)
      have HSU := Lib.hid (sumP_succ hkl)
      have hle := sumP_mono ps1 (k + 1)
      have hS2 := HS.out
      have hsu := HSU.out
      unfold pairW at hsu
      generalize hpp : nthQ ps1 k = p at *
      obtain ⟨key, ⟨pt, px, pm, pz⟩⟩ := p
      dsimp only at hsu
      have w1 : IntKind.i64.wrap ((S : Int) + (key.size : Int)) = ((S + key.size : Nat) : Int) := by rw [IntKind.wrap_i64]; omega
      have w2 : IntKind.i64.wrap (((S + key.size : Nat) : Int) + (pz.size : Int)) = ((S + key.size + pz.size : Nat) : Int) := by rw [IntKind.wrap_i64]; omega
      have HT : Hid (S + key.size + pz.size = Q + sumP ps1 (k + 1)) := Lib.hid (by omega)
      have hgd := Lib.hid (GH.out.keep HBL.out.drew)
      generalize S + key.size + pz.size = S2 at *
      generalize S + key.size = S1 at *
      clear hsu hle hkl hgr hS2
      go_upto_region 5 with fail
      clear k7
      refine wp_region_extall (by kernel_rfl) (by kernel_rfl) ?_
      have e7 : ∀ q : Ext wr.drew, _ := fun q => (hgd.out.keep q.bl).cell 7 _ rfl
      have e0 : ∀ q : Ext wr.drew, _ := fun q => (HPC.out.keep q.bl).c0
      have e4 : ∀ q : Ext wr.drew, _ := fun q => (HPC.out.keep q.bl).c4
      dsimp only at e0 e4
      repeat (refine wpE_step (fun K hK => ?_); go_simp; first | (refine hK _ ?_; clear hK K) | (apply Exists.intro; refine ⟨fun m => ?_, hK _ ?_⟩; (fail); clear hK K))
      refine wpE_nil ?_
      intro q1
      have HBN := Lib.hid ((HBL.out.drew).trans q1.bl)
      clear e7 e0 e4 w1 w2 hgd
      generalize ExtC.at q1 = Y at *
      go_wp2_with fail
      go_roundw
      case rel => exact ⟨k + 1, S2, by omega, by go_num, rfl, HT.out, HBN.out⟩
      case measure => simp [intOf]; omega
    · have hkp : k = pn1 := by omega
      subst hkp
      go_wp2_with fail
      go_ret
      exact ⟨ret_int (congrArg Nat.cast (by rw [hQ, HL.out, ← HS.out])), HB.out.trans HBL.out⟩
set_option maxHeartbeats 3200000 in
set_option maxRecDepth 100000 in
theorem rright_any (c1 n1 : Int) (ad1 : Option Addr) (an1 ac1 : Nat) (xs1 : List Int) (t1 : Bool) (x1 : Nat) (m1 : Int) (s1 : ByteArray) (pd1 : Option Addr) (pn1 pc1 : Nat) (ps1 : List (ByteArray × ValL)) (z1 : ByteArray) (w : World) (hx : IA w ad1 an1 xs1) (hp : PP w pd1 pn1 ps1) (hz : z1.size ≤ 65536) (hs : s1.size ≤ 65536) (hn : pn1 ≤ 400) (hps : Hid (∀ p ∈ ps1, p.1.size ≤ 65536 ∧ p.2.s.size ≤ 65536)) :
    Calls Tryz.prog 8 #[.agg #[.int .i64 c1, .int .i64 n1, .slice ad1 an1 ac1, .bool t1, .float .f64 x1, .int .i64 m1, .string s1, .slice pd1 pn1 pc1, .string z1]] w fun e w' => e = .returned (.bool (rightN ⟨c1, n1, xs1, ⟨t1, x1, m1, s1⟩, ps1, z1⟩)) ∧ Bl w w' := by
  have hsf := store_float
  have G := AC.new w _ rfl (repCs c1 n1 ad1 an1 ac1 t1 x1 m1 s1 pd1 pn1 pc1 z1) 30
  have hb := (Bl.refl w).alloc (.cells (repCs c1 n1 ad1 an1 ac1 t1 x1 m1 s1 pd1 pn1 pc1 z1).toArray 30)
  unfold repCs at G hb
  have HL := Lib.hid hp.len
  have HP := Lib.hid hp
  have HX := Lib.hid hx
  have hxc := hx.cap
  have F0 : Hid (¬ (0 ≤ c1 ∧ c1 ≤ 281474976710655) → rightN ⟨c1, n1, xs1, ⟨t1, x1, m1, s1⟩, ps1, z1⟩ = false) := Lib.hid (fun h => by unfold rightN; simp only [decide_eq_false h, Bool.false_and])
  have F1 : Hid (¬ (0 ≤ n1 ∧ n1 ≤ 281474976710655) → rightN ⟨c1, n1, xs1, ⟨t1, x1, m1, s1⟩, ps1, z1⟩ = false) := Lib.hid (fun h => by unfold rightN; simp only [decide_eq_false h, Bool.false_and, Bool.and_false])
  have F2 : Hid (0 < an1 → validL xs1 = false → rightN ⟨c1, n1, xs1, ⟨t1, x1, m1, s1⟩, ps1, z1⟩ = false) := Lib.hid (fun h0 h => by
    have : ¬ xs1 = [] := fun e => by have := HX.out.len; rw [e] at this; simp at this; omega
    unfold rightN; simp only [decide_eq_false this, h, Bool.or_self, Bool.and_false])
  have F3 : Hid ((0 ≤ c1 ∧ c1 ≤ 281474976710655) → (0 ≤ n1 ∧ n1 ≤ 281474976710655) → (an1 = 0 ∨ validL xs1 = true) → rightN ⟨c1, n1, xs1, ⟨t1, x1, m1, s1⟩, ps1, z1⟩ = true) := Lib.hid (fun h0 h1 h2 => rightN_iff.2 ⟨h0, h1, h2.imp_left (fun e => List.eq_nil_of_length_eq_zero (by rw [HX.out.len, e]))⟩)
  generalize rightN ⟨c1, n1, xs1, ⟨t1, x1, m1, s1⟩, ps1, z1⟩ = R at *
  obtain ⟨k0, k1, k2, k3, k4, k5, k6, k7, k8⟩ := AC.rep (code := c1) (num := n1) (ad := ad1) (n := an1) (ca := ac1) (t := t1) (x := x1) (m := m1) (s := s1) (pd := pd1) (pn := pn1) (pc := pc1) (text := z1) G
  have g5 : decide ((65536 : Int) < (z1.size : Int)) = false := decide_eq_false (by omega)
  have g5b : decide (65536 < z1.size) = false := decide_eq_false (by omega)
  have g6 : decide ((65536 : Int) < (s1.size : Int)) = false := decide_eq_false (by omega)
  have g6b : decide (65536 < s1.size) = false := decide_eq_false (by omega)
  have g7 : decide ((10000 : Int) < (pn1 : Int)) = false := decide_eq_false (by omega)
  have g7b : decide (10000 < pn1) = false := decide_eq_false (by omega)
  clear hx hp
  by_cases h0 : c1 < 0
  · have q0 : decide (c1 < 0) = true := decide_eq_true h0
    have HR := Lib.hid (F0.out (by omega))
    clear h0
    go_enter Tryz.func8, Tryz.ntmps8
    go_wp2_with fail
    go_ret
    exact ⟨ret_bool HR.out.symm, hb⟩
  have q0 : decide (c1 < 0) = false := decide_eq_false h0
  by_cases h1 : 281474976710656 ≤ c1
  · have q1 : decide (281474976710656 ≤ c1) = true := decide_eq_true h1
    have HR := Lib.hid (F0.out (by omega))
    clear h1
    go_enter Tryz.func8, Tryz.ntmps8
    go_wp2_with fail
    go_ret
    exact ⟨ret_bool HR.out.symm, hb⟩
  have q1 : decide (281474976710656 ≤ c1) = false := decide_eq_false h1
  by_cases h2 : n1 < 0
  · have q2 : decide (n1 < 0) = true := decide_eq_true h2
    have HR := Lib.hid (F1.out (by omega))
    clear h2
    go_enter Tryz.func8, Tryz.ntmps8
    go_wp2_with fail
    go_ret
    exact ⟨ret_bool HR.out.symm, hb⟩
  have q2 : decide (n1 < 0) = false := decide_eq_false h2
  by_cases h3 : 281474976710656 ≤ n1
  · have q3 : decide (281474976710656 ≤ n1) = true := decide_eq_true h3
    have HR := Lib.hid (F1.out (by omega))
    clear h3
    go_enter Tryz.func8, Tryz.ntmps8
    go_wp2_with fail
    go_ret
    exact ⟨ret_bool HR.out.symm, hb⟩
  have q3 : decide (281474976710656 ≤ n1) = false := decide_eq_false h3
  have hc : 0 ≤ c1 ∧ c1 ≤ 281474976710655 := by omega
  have hnn : 0 ≤ n1 ∧ n1 ≤ 281474976710655 := by omega
  clear h0 h1 h2 h3
  by_cases hz0 : an1 = 0
  · subst hz0
    have HR := Lib.hid (F3.out hc hnn (.inl rfl))
    clear hc hnn
    go_enter Tryz.func8, Tryz.ntmps8
    go_wp2_with fail
    have HB := Lib.hid (hb)
    have GH := Lib.hid G
    clear hb G k0 k1 k2 k3 k4 k5 k6 k7 k8 g5 g5b g6 g6b g7 g7b q0 q1 q2 q3
    generalize w.alloc _ = W at *
    generalize w.heap.size = g at *
    go_loopw [3] (fun iv wr => ∃ k : Nat, k ≤ pn1 ∧ iv = .int .i64 k ∧ Bl W wr) (fun iv _ => pn1 - (intOf iv).toNat)
    case atStart => exact ⟨0, Nat.zero_le _, rfl, Bl.refl _⟩
    case round =>
      obtain ⟨k, hk, rfl, hbl⟩ := hrel
      have HBL := Lib.hid hbl
      clear hbl
      have k7 := (GH.out.keep HBL.out).cell 7 _ rfl
      by_cases hlt : k < pn1
      · have hkl : k < ps1.length := by rw [HL.out]; exact hlt
        obtain ⟨ba, oa, rfl, _⟩ := HP.out.cells k hlt
        have HPC := Lib.hid (HP.out.get (HB.out.trans HBL.out) hlt)
        have HM := Lib.hid (hps.out _ (nthQ_mem hkl))
        clear hkl
        generalize nthQ ps1 k = p at *
        obtain ⟨key, ⟨pt, px, pm, pz⟩⟩ := p
        have e0 := HPC.out.c0
        have e4 := HPC.out.c4
        dsimp only at e0 e4
        have hm1 : key.size ≤ 65536 := HM.out.1
        have hm2 : pz.size ≤ 65536 := HM.out.2
        have g1 : decide ((65536 : Int) < (key.size : Int)) = false := decide_eq_false (by omega)
        have g1b : decide (65536 < key.size) = false := decide_eq_false (by omega)
        have g2 : decide ((65536 : Int) < (pz.size : Int)) = false := decide_eq_false (by omega)
        have g2b : decide (65536 < pz.size) = false := decide_eq_false (by omega)
        go_wp2_with fail
        go_roundw
        case rel => exact ⟨k + 1, by omega, by go_num, HBL.out⟩
        case measure => simp [intOf]; omega
      · go_wp2_with fail
        go_ret
        exact ⟨ret_bool HR.out.symm, HB.out.trans HBL.out⟩
  have hn1 : 0 < an1 := by omega
  cases hv : validL xs1
  · have HV := Lib.hid hv
    have HR := Lib.hid (F2.out hn1 hv)
    clear hv hc hnn
    go_enter Tryz.func8, Tryz.ntmps8
    go_wp2_with fail
    refine (rvalid_any ad1 an1 ac1 xs1 _ (HX.out.keep hb)).mono ?_
    rintro e w' ⟨rfl, rfl⟩
    rw [HV.out]
    go_wp2_with fail
    go_ret
    exact ⟨ret_bool HR.out.symm, hb⟩
  · have HV := Lib.hid hv
    have HR := Lib.hid (F3.out hc hnn (.inr hv))
    clear hv hc hnn
    go_enter Tryz.func8, Tryz.ntmps8
    go_wp2_with fail
    refine (rvalid_any ad1 an1 ac1 xs1 _ (HX.out.keep hb)).mono ?_
    rintro e w' ⟨rfl, rfl⟩
    rw [HV.out]
    go_wp2_with fail
    have HB := Lib.hid (hb)
    have GH := Lib.hid G
    clear hb G k0 k1 k2 k3 k4 k5 k6 k7 k8 g5 g5b g6 g6b g7 g7b q0 q1 q2 q3
    generalize w.alloc _ = W at *
    generalize w.heap.size = g at *
    go_loopw [3] (fun iv wr => ∃ k : Nat, k ≤ pn1 ∧ iv = .int .i64 k ∧ Bl W wr) (fun iv _ => pn1 - (intOf iv).toNat)
    case atStart => exact ⟨0, Nat.zero_le _, rfl, Bl.refl _⟩
    case round =>
      obtain ⟨k, hk, rfl, hbl⟩ := hrel
      have HBL := Lib.hid hbl
      clear hbl
      have k7 := (GH.out.keep HBL.out).cell 7 _ rfl
      by_cases hlt : k < pn1
      · have hkl : k < ps1.length := by rw [HL.out]; exact hlt
        obtain ⟨ba, oa, rfl, _⟩ := HP.out.cells k hlt
        have HPC := Lib.hid (HP.out.get (HB.out.trans HBL.out) hlt)
        have HM := Lib.hid (hps.out _ (nthQ_mem hkl))
        clear hkl
        generalize nthQ ps1 k = p at *
        obtain ⟨key, ⟨pt, px, pm, pz⟩⟩ := p
        have e0 := HPC.out.c0
        have e4 := HPC.out.c4
        dsimp only at e0 e4
        have hm1 : key.size ≤ 65536 := HM.out.1
        have hm2 : pz.size ≤ 65536 := HM.out.2
        have g1 : decide ((65536 : Int) < (key.size : Int)) = false := decide_eq_false (by omega)
        have g1b : decide (65536 < key.size) = false := decide_eq_false (by omega)
        have g2 : decide ((65536 : Int) < (pz.size : Int)) = false := decide_eq_false (by omega)
        have g2b : decide (65536 < pz.size) = false := decide_eq_false (by omega)
        go_wp2_with fail
        go_roundw
        case rel => exact ⟨k + 1, by omega, by go_num, HBL.out⟩
        case measure => simp [intOf]; omega
      · go_wp2_with fail
        go_ret
        exact ⟨ret_bool HR.out.symm, HB.out.trans HBL.out⟩
set_option maxHeartbeats 3200000 in
set_option maxRecDepth 100000 in
theorem rsameR_any (c1 n1 : Int) (ad1 : Option Addr) (an1 ac1 : Nat) (xs1 : List Int) (t1 : Bool) (x1 : Nat) (m1 : Int) (s1 : ByteArray) (pd1 : Option Addr) (pn1 pc1 : Nat) (ps1 : List (ByteArray × ValL)) (z1 : ByteArray) (c2 n2 : Int) (ad2 : Option Addr) (an2 ac2 : Nat) (xs2 : List Int) (t2 : Bool) (x2 : Nat) (m2 : Int) (s2 : ByteArray) (pd2 : Option Addr) (pn2 pc2 : Nat) (ps2 : List (ByteArray × ValL)) (z2 : ByteArray) (w : World) (hx1 : IA w ad1 an1 xs1) (hx2 : IA w ad2 an2 xs2) (hp1 : PP w pd1 pn1 ps1) (hp2 : PP w pd2 pn2 ps2) (ov1 : ValL.Ok ⟨t1, x1, m1, s1⟩) (ov2 : ValL.Ok ⟨t2, x2, m2, s2⟩) :
    Calls Tryz.prog 10 #[.agg #[.int .i64 c1, .int .i64 n1, .slice ad1 an1 ac1, .bool t1, .float .f64 x1, .int .i64 m1, .string s1, .slice pd1 pn1 pc1, .string z1], .agg #[.int .i64 c2, .int .i64 n2, .slice ad2 an2 ac2, .bool t2, .float .f64 x2, .int .i64 m2, .string s2, .slice pd2 pn2 pc2, .string z2]] w fun e w' => e = .returned (.bool (sameR ⟨c1, n1, xs1, ⟨t1, x1, m1, s1⟩, ps1, z1⟩ ⟨c2, n2, xs2, ⟨t2, x2, m2, s2⟩, ps2, z2⟩)) ∧ Bl w w' := by
  have hsf := store_float
  have G := AB.new w 30 30 (repCs c1 n1 ad1 an1 ac1 t1 x1 m1 s1 pd1 pn1 pc1 z1) (repCs c2 n2 ad2 an2 ac2 t2 x2 m2 s2 pd2 pn2 pc2 z2)
  unfold repCs at G
  have HX1 := Lib.hid hx1
  have HX2 := Lib.hid hx2
  have HP1 := Lib.hid hp1
  have HP2 := Lib.hid hp2
  have OV1 := Lib.hid ov1
  have OV2 := Lib.hid ov2
  have F1 : Hid (c1 ≠ c2 → sameR ⟨c1, n1, xs1, ⟨t1, x1, m1, s1⟩, ps1, z1⟩ ⟨c2, n2, xs2, ⟨t2, x2, m2, s2⟩, ps2, z2⟩ = false) := Lib.hid (fun h => by unfold sameR; simp [h])
  have F2 : Hid (n1 ≠ n2 → sameR ⟨c1, n1, xs1, ⟨t1, x1, m1, s1⟩, ps1, z1⟩ ⟨c2, n2, xs2, ⟨t2, x2, m2, s2⟩, ps2, z2⟩ = false) := Lib.hid (fun h => by unfold sameR; simp [h])
  have F3 : Hid (decide (xs1 = xs2) = false → sameR ⟨c1, n1, xs1, ⟨t1, x1, m1, s1⟩, ps1, z1⟩ ⟨c2, n2, xs2, ⟨t2, x2, m2, s2⟩, ps2, z2⟩ = false) := Lib.hid (fun h => by unfold sameR; simp only [h, Bool.false_and, Bool.and_false])
  have F4 : Hid (sameV ⟨t1, x1, m1, s1⟩ ⟨t2, x2, m2, s2⟩ = false → sameR ⟨c1, n1, xs1, ⟨t1, x1, m1, s1⟩, ps1, z1⟩ ⟨c2, n2, xs2, ⟨t2, x2, m2, s2⟩, ps2, z2⟩ = false) := Lib.hid (fun h => by unfold sameR; simp only [h, Bool.false_and, Bool.and_false])
  have F5 : Hid (samePs ps1 ps2 = false → sameR ⟨c1, n1, xs1, ⟨t1, x1, m1, s1⟩, ps1, z1⟩ ⟨c2, n2, xs2, ⟨t2, x2, m2, s2⟩, ps2, z2⟩ = false) := Lib.hid (fun h => by unfold sameR; simp only [h, Bool.false_and, Bool.and_false])
  have F6 : Hid (z1 ≠ z2 → sameR ⟨c1, n1, xs1, ⟨t1, x1, m1, s1⟩, ps1, z1⟩ ⟨c2, n2, xs2, ⟨t2, x2, m2, s2⟩, ps2, z2⟩ = false) := Lib.hid (fun h => by unfold sameR; simp [h])
  have F7 : Hid (c1 = c2 → n1 = n2 → decide (xs1 = xs2) = true → sameV ⟨t1, x1, m1, s1⟩ ⟨t2, x2, m2, s2⟩ = true → samePs ps1 ps2 = true → z1 = z2 → sameR ⟨c1, n1, xs1, ⟨t1, x1, m1, s1⟩, ps1, z1⟩ ⟨c2, n2, xs2, ⟨t2, x2, m2, s2⟩, ps2, z2⟩ = true) := Lib.hid (fun h1 h2 h3 h4 h5 h6 => by unfold sameR; simp only [h1, h2, h3, h4, h5, h6, decide_true, Bool.and_self])
  generalize sameR ⟨c1, n1, xs1, ⟨t1, x1, m1, s1⟩, ps1, z1⟩ ⟨c2, n2, xs2, ⟨t2, x2, m2, s2⟩, ps2, z2⟩ = R at *
  clear hx1 hx2 hp1 hp2 ov1 ov2
  obtain ⟨k0, k1, k2, k3, k4, k5, k6, k7, k8⟩ := AC.rep (code := c1) (num := n1) (ad := ad1) (n := an1) (ca := ac1) (t := t1) (x := x1) (m := m1) (s := s1) (pd := pd1) (pn := pn1) (pc := pc1) (text := z1) G.a
  obtain ⟨l0, l1, l2, l3, l4, l5, l6, l7, l8⟩ := AC.rep (code := c2) (num := n2) (ad := ad2) (n := an2) (ca := ac2) (t := t2) (x := x2) (m := m2) (s := s2) (pd := pd2) (pn := pn2) (pc := pc2) (text := z2) G.b
  by_cases h1 : c1 = c2
  case neg =>
    have q1 : (c1 == c2) = false := by rw [beq_eq_false_iff_ne]; exact h1
    have HR := Lib.hid (F1.out h1)
    clear h1
    go_enter Tryz.func10, Tryz.ntmps10
    go_wp2_with fail
    go_ret
    exact ⟨ret_bool HR.out.symm, G.bl⟩
  by_cases h2 : n1 = n2
  case neg =>
    have q1 : (c1 == c2) = true := by rw [beq_iff_eq]; exact h1
    have q2 : (n1 == n2) = false := by rw [beq_eq_false_iff_ne]; exact h2
    have HR := Lib.hid (F2.out h2)
    clear h2 h1
    go_enter Tryz.func10, Tryz.ntmps10
    go_wp2_with fail
    go_ret
    exact ⟨ret_bool HR.out.symm, G.bl⟩
  have HC := Lib.hid h1
  have HN := Lib.hid h2
  have q1 : (c1 == c2) = true := by rw [beq_iff_eq]; exact h1
  have q2 : (n1 == n2) = true := by rw [beq_iff_eq]; exact h2
  clear h1 h2
  have GH := Lib.hid G
  clear G
  go_enter Tryz.func10, Tryz.ntmps10
  go_wp2_with fail
  generalize (w.alloc _).alloc _ = W at *
  have gl : Hid (GH = GH) := Lib.hid rfl
  clear gl
  refine (rsame_any ad1 ad2 an1 an2 ac1 ac2 xs1 xs2 _ (HX1.out.keep GH.out.bl) (HX2.out.keep GH.out.bl)).mono ?_
  rintro e Wa ⟨rfl, hb⟩
  replace GH := Lib.hid (GH.out.keep hb)
  clear hb k0 k1 k2 k3 k4 k5 k6 k7 k8 l0 l1 l2 l3 l4 l5 l6 l7 l8
  obtain ⟨k0, k1, k2, k3, k4, k5, k6, k7, k8⟩ := AC.rep (code := c1) (num := n1) (ad := ad1) (n := an1) (ca := ac1) (t := t1) (x := x1) (m := m1) (s := s1) (pd := pd1) (pn := pn1) (pc := pc1) (text := z1) GH.out.a
  obtain ⟨l0, l1, l2, l3, l4, l5, l6, l7, l8⟩ := AC.rep (code := c2) (num := n2) (ad := ad2) (n := an2) (ca := ac2) (t := t2) (x := x2) (m := m2) (s := s2) (pd := pd2) (pn := pn2) (pc := pc2) (text := z2) GH.out.b
  cases hq : decide (xs1 = xs2)
  · have HR := Lib.hid (F3.out hq)
    clear hq
    go_wp2_with fail
    go_ret
    exact ⟨ret_bool HR.out.symm, GH.out.bl⟩
  have H_at := Lib.hid hq
  clear hq
  go_wp2_with fail
  refine (refSameV_agg t1 x1 m1 s1 t2 x2 m2 s2 _ _ (Lib.hid rfl) OV1 OV2).mono ?_
  rintro e Wa ⟨rfl, hb⟩
  replace GH := Lib.hid (GH.out.keep hb)
  clear hb k0 k1 k2 k3 k4 k5 k6 k7 k8 l0 l1 l2 l3 l4 l5 l6 l7 l8
  obtain ⟨k0, k1, k2, k3, k4, k5, k6, k7, k8⟩ := AC.rep (code := c1) (num := n1) (ad := ad1) (n := an1) (ca := ac1) (t := t1) (x := x1) (m := m1) (s := s1) (pd := pd1) (pn := pn1) (pc := pc1) (text := z1) GH.out.a
  obtain ⟨l0, l1, l2, l3, l4, l5, l6, l7, l8⟩ := AC.rep (code := c2) (num := n2) (ad := ad2) (n := an2) (ca := ac2) (t := t2) (x := x2) (m := m2) (s := s2) (pd := pd2) (pn := pn2) (pc := pc2) (text := z2) GH.out.b
  cases hq : sameV ⟨t1, x1, m1, s1⟩ ⟨t2, x2, m2, s2⟩
  · have HR := Lib.hid (F4.out hq)
    clear hq
    go_wp2_with fail
    go_ret
    exact ⟨ret_bool HR.out.symm, GH.out.bl⟩
  have H_val := Lib.hid hq
  clear hq
  go_wp2_with fail
  refine (rsamePs_any pd1 pn1 pc1 ps1 pd2 pn2 pc2 ps2 _ (HP1.out.keep GH.out.bl) (HP2.out.keep GH.out.bl)).mono ?_
  rintro e Wa ⟨rfl, hb⟩
  replace GH := Lib.hid (GH.out.keep hb)
  clear hb k0 k1 k2 k3 k4 k5 k6 k7 k8 l0 l1 l2 l3 l4 l5 l6 l7 l8
  obtain ⟨k0, k1, k2, k3, k4, k5, k6, k7, k8⟩ := AC.rep (code := c1) (num := n1) (ad := ad1) (n := an1) (ca := ac1) (t := t1) (x := x1) (m := m1) (s := s1) (pd := pd1) (pn := pn1) (pc := pc1) (text := z1) GH.out.a
  obtain ⟨l0, l1, l2, l3, l4, l5, l6, l7, l8⟩ := AC.rep (code := c2) (num := n2) (ad := ad2) (n := an2) (ca := ac2) (t := t2) (x := x2) (m := m2) (s := s2) (pd := pd2) (pn := pn2) (pc := pc2) (text := z2) GH.out.b
  cases hq : samePs ps1 ps2
  · have HR := Lib.hid (F5.out hq)
    clear hq
    go_wp2_with fail
    go_ret
    exact ⟨ret_bool HR.out.symm, GH.out.bl⟩
  have H_pairs := Lib.hid hq
  clear hq
  by_cases hz : z1 = z2
  case neg =>
    have q3 : (z1.toList == z2.toList) = false := by rw [beq_keyP]; exact decide_eq_false hz
    have HR := Lib.hid (F6.out hz)
    clear hz
    go_wp2_with fail
    go_ret
    exact ⟨ret_bool HR.out.symm, GH.out.bl⟩
  have q3 : (z1.toList == z2.toList) = true := by rw [beq_keyP]; exact decide_eq_true hz
  have H_text := Lib.hid hz
  clear hz
  go_wp2_with fail
  go_ret
  exact ⟨ret_bool (F7.out HC.out HN.out H_at.out H_val.out H_pairs.out H_text.out).symm, GH.out.bl⟩
end Go.Proofs.YtaelghbjbopilaaGreat
end

/- parts of other texts. By an AI agent. -/
section
set_option linter.unusedVariables false
set_option linter.unusedSimpArgs false
namespace Go.Proofs.YtaelghbjbopilaaGreat
open Go.RowKit

/-- two boxes -/
structure V2 (w W : World) (b : Bool) (x : Nat) (n : Int) (s : ByteArray) (c : Bool) (y : Nat) (m : Int) (t : ByteArray) : Prop where
  bl : Bl w W
  a : AC W w.heap.size [.bool b, .float .f64 x, .int .i64 n, .string s]
  b : AC W (w.heap.size + 1) [.bool c, .float .f64 y, .int .i64 m, .string t]
theorem V2.new (w : World) (b : Bool) (x : Nat) (n : Int) (s : ByteArray) (c : Bool) (y : Nat) (m : Int) (t : ByteArray) (T U : TypeId) {W : World}
    (hb : Bl ((w.alloc (.cells #[.bool b, .float .f64 x, .int .i64 n, .string s] T)).alloc (.cells #[.bool c, .float .f64 y, .int .i64 m, .string t] U)) W) : V2 w W b x n s c y m t := by
  have h1 := (AC.new w _ rfl [.bool b, .float .f64 x, .int .i64 n, .string s] T).keep ((Bl.refl _).alloc (.cells #[.bool c, .float .f64 y, .int .i64 m, .string t] U))
  have h2 := AC.new (w.alloc (.cells #[.bool b, .float .f64 x, .int .i64 n, .string s] T)) (w.heap.size + 1) (by simp) [.bool c, .float .f64 y, .int .i64 m, .string t] U
  exact ⟨(((Bl.refl w).alloc _).alloc _).trans hb, h1.keep hb, h2.keep hb⟩
end Go.Proofs.YtaelghbjbopilaaGreat
end

/- op.SameValue, Same. By an AI agent. -/
section
namespace Go.Proofs.YtaelghbjbopilaaGreat
open Go.RowKit


set_option maxHeartbeats 1600000 in
set_option maxRecDepth 100000 in
theorem sameV_any (a d : ValL) (w : World) (oa : a.Ok) (ob : d.Ok) :
    Calls Tryz.prog 32 #[a.v, d.v] w fun e w' => e = .returned (.bool (sameV a d)) ∧ Bl w w' := by
  obtain ⟨b, x, n, s⟩ := a
  obtain ⟨c, y, m, t⟩ := d
  obtain ⟨hx, _, _⟩ := oa
  obtain ⟨hy, _, _⟩ := ob
  simp only at hx hy
  show Calls Tryz.prog 32 #[.agg #[.bool b, .float .f64 x, .int .i64 n, .string s], .agg #[.bool c, .float .f64 y, .int .i64 m, .string t]] w _
  cases b <;> cases c
  case false.true =>
    go_enter Tryz.func32, Tryz.ntmps32
    go_wp2_with fail
    go_ret
    exact ⟨ret_bool (by simp [sameV]), ((Bl.refl w).alloc _).alloc _⟩
  case true.false =>
    go_enter Tryz.func32, Tryz.ntmps32
    go_wp2_with fail
    go_ret
    exact ⟨ret_bool (by simp [sameV]), ((Bl.refl w).alloc _).alloc _⟩
  all_goals
    go_enter Tryz.func32, Tryz.ntmps32
    go_wp2_with fail
    refine (rsameF_any x y _ hx hy).mono ?_
    rintro e w1 ⟨rfl, hb1⟩
    have G := V2.new w _ x n s _ y m t _ _ hb1
    clear hb1
    obtain ⟨a0, a1, a2, a3⟩ := G.a.val
    obtain ⟨b0, b1, b2, b3⟩ := G.b.val
    by_cases hf : fkey x = fkey y
    · have HF := Lib.hid hf
      rw [decide_eq_true hf]
      clear hf
      go_wp2_with fail
      all_goals (go_ret; refine ⟨ret_bool ?_, G.bl⟩)
      all_goals (have h1 := HF.out; simp_all [sameV])
    · have HF := Lib.hid hf
      rw [decide_eq_false hf]
      clear hf
      go_wp2_with fail
      all_goals (go_ret; refine ⟨ret_bool ?_, G.bl⟩)
      all_goals (have h1 := HF.out; simp [sameV, h1])
end Go.Proofs.YtaelghbjbopilaaGreat
end

/- op.SameValue with structs taken apart. By an AI agent. -/
section
namespace Go.Proofs.YtaelghbjbopilaaGreat
open Go.RowKit

theorem same_agg (vb : Bool) (vx : Nat) (vn : Int) (vs : ByteArray) (rb : Bool) (rx : Nat) (rn : Int) (rs : ByteArray) (r : Bool) (w : World)
    (h : Hid (sameV ⟨vb, vx, vn, vs⟩ ⟨rb, rx, rn, rs⟩ = r)) (ov : Hid (ValL.Ok ⟨vb, vx, vn, vs⟩)) (oa : Hid (ValL.Ok ⟨rb, rx, rn, rs⟩)) :
    Calls Tryz.prog 32 #[.agg #[.bool vb, .float .f64 vx, .int .i64 vn, .string vs], .agg #[.bool rb, .float .f64 rx, .int .i64 rn, .string rs]] w fun e w' => e = .returned (.bool r) ∧ Bl w w' := by
  refine (sameV_any ⟨vb, vx, vn, vs⟩ ⟨rb, rx, rn, rs⟩ w ov.out oa.out).mono ?_
  rintro e w' ⟨rfl, hb⟩
  rw [h.out]
  exact ⟨rfl, hb⟩
end Go.Proofs.YtaelghbjbopilaaGreat
end
