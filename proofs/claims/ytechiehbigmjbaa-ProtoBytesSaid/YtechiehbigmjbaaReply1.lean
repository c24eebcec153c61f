/- proto.value. By an AI agent. -/
import Derived.Test.YtechiehbigmjbaaReply0
import Derived.Test.YtechiehbigmjbaaExt2
import Derived.Deep.DeepCutAuto
set_option linter.unusedVariables false
set_option linter.unusedSimpArgs false
namespace Go.Proofs.Ytechiehbigmjbaa
open Go.RowKit
attribute [local go_sem] eOp eOper eUpon

theorem ob_keepR {B : Nat} {w w' : World} {v : Value} {xs : List Int} (h : OB B w v xs) (hb : Bl w w') : OB B w' v xs := ownsRow_bl h hb
set_option maxHeartbeats 3200000 in
set_option maxRecDepth 100000 in
theorem value_hid (b : Bool) (x : Nat) (n : Int) (s : ByteArray) (w : World) (hx : x < two64) (hz : s.size ≤ 70000) (T : Int) (HT : Hid (thereN b = T)) (U : Nat) (HU : Hid ((n % 18446744073709551616).toNat = U)) (hU64 : U < 18446744073709551616) (hwr : IntKind.u64.wrap n = (U : Int))
    (q1 q2 q3 q4 p2 p3 p4 : ByteArray) (e2 : q1 ++ q2 = p2) (e3 : p2 ++ q3 = p3) (e4 : p3 ++ q4 = p4) (s2 : (9223372036854775807 < q1.size + q2.size) = False) (s3 : (9223372036854775807 < p2.size + q3.size) = False) (s4 : (9223372036854775807 < p3.size + q4.size) = False)
    (C1 : Hid (∀ w, Calls Try.prog 84 #[.int .i64 T, .int .i64 1] w fun e w' => e = .returned (.string q1) ∧ Bl w w'))
    (C2 : Hid (∀ w, Calls Try.prog 151 #[.float .f64 x] w fun e w' => e = .returned (.string q2) ∧ Bl w w'))
    (C3 : Hid (strOfNums (putN U 8 8) = q3))
    (C4 : Hid (∀ w, Calls Try.prog 93 #[.string s] w fun e w' => e = .returned (.string q4) ∧ Bl w w')) :
    Calls Try.prog 123 #[.agg #[.bool b, .float .f64 x, .int .i64 n, .string s]] w fun e w' => e = .returned (.string p4) ∧ Bl w w' := by
  have hsf := store_float
  obtain ⟨i0, hi, hz0, hz1, hz2⟩ := info_parts info_byte
  have hb0 := (Bl.refl w).alloc (.cells #[.bool b, .float .f64 x, .int .i64 n, .string s] 85)
  have hg := AC.new w _ rfl [.bool b, .float .f64 x, .int .i64 n, .string s] 85
  obtain ⟨c0, c1, c2, c3⟩ := hg.val
  go_enter Try.func123, Try.ntmps123
  go_upto_if 7 with fail
  generalize hgv : w.heap.size = gv at *
  generalize w.alloc _ = W at *
  have HV := Lib.hid hgv
  clear hgv
  go_cut [3] (fun s3 X => s3 = .int .i64 T ∧ W = X)
  case first =>
    cases b
    · go_wp2_with fail
      go_meet
      case rel => exact ⟨by rw [← HT.out]; rfl, rfl⟩
    · go_wp2_with fail
      go_meet
      case rel => exact ⟨by rw [← HT.out]; rfl, rfl⟩
  case rest =>
    obtain ⟨rfl, rfl⟩ := hcut
    have HG := Lib.hid hg
    have HB0 := Lib.hid hb0
    clear hg hb0
    go_wp2_with (at_make; refine wpList_make_full _ rfl _ _ 61 rfl W.heap.size 5 i0 (.int .u8 0) 1 Try.underlying61 hi hz0 hz1 .i64 .i64 _ _ 8 rfl rfl rfl rfl ?b1 ?b2 ?b3 ?_)
    case b1 => rw [hz2]; omega
    case b2 => unfold maxLen; omega
    case b3 => exact Nat.le_refl _
    intro w1 hown hgrow
    have hb : Bl W w1 := Below.grown (Bl.refl W) hgrow (Nat.le_refl _) (by simp)
    have hob : OB W.heap.size w1 (.slice (some ⟨W.heap.size, 0, none⟩) 8 8) (putN U 8 0) := by
      rw [OB, putN_len, putN_zero]
      have e : (madeCells #[Value.int .u8 0] 8).toList = List.map (Value.int .u8) (List.replicate 8 0) := by
        rw [List.map_replicate]
        exact toList_madeCells_one _ _
      rw [e] at hown
      exact hown
    clear hown hgrow c0 c1 c2 c3
    go_wp2
    go_loopw [11] (fun i wr => ∃ k : Nat, k ≤ 8 ∧ i = .int .i64 k ∧ Bl W wr ∧ OB W.heap.size wr (.slice (some ⟨W.heap.size, 0, none⟩) 8 8) (putN U 8 k)) (fun i _ => 8 - (intOf i).toNat)
    case atStart => exact ⟨0, Nat.zero_le _, rfl, hb, hob⟩
    case round =>
      clear hb hob
      obtain ⟨k, hk, rfl, hb, hob⟩ := hrel
      obtain ⟨c0, c1, c2, c3⟩ := (HG.out.keep hb).val
      by_cases hlt : k < 8
      · have hc := hob.cell (putN_len U 8 k) (8 - 1 - k) (by omega)
        have hfz := hob.frozen (putN_len U 8 k) (8 - 1 - k)
        generalize nth (putN U 8 k) (8 - 1 - k) = old at hc
        have HOB := Lib.hid hob
        clear hob
        have hidx : (7 : Int) - (k : Int) = ((8 - 1 - k : Nat) : Int) := by omega
        have hKB : 8 - 1 - k < 8 := by omega
        generalize hKx : 8 - 1 - k = kx at *
        have HKX := Lib.hid hKx
        clear hKx
        go_wp2_with fail
        go_roundw
        case rel =>
          refine ⟨k + 1, by omega, by go_num, hb.setCell (p := ⟨W.heap.size, kx, none⟩) (Nat.le_refl _) _, ?_⟩
          have h1 := HOB.out.set (putN_len U 8 k) kx ((U : Int) / 2 ^ (8 * k) % 256)
          have e : (U : Int) / 2 ^ (8 * k) % 256 = byteAt U 8 (8 - 1 - k) := by unfold byteAt; rw [show 8 - 1 - (8 - 1 - k) = k by omega]
          have h2 := putN_set U 8 k hlt
          rw [← e, HKX.out] at h2
          rw [h2] at h1
          exact h1
        case measure => simp [intOf]; omega
      · have e8 : k = 8 := by omega
        subst e8
        have HOB := Lib.hid hob
        have HBW := Lib.hid hb
        clear hob hb c0 c1 c2 c3 hlt hk
        go_upto_region 10 with fail
        refine wp_region_extall (by kernel_rfl) (by kernel_rfl) ?_
        have hbD : Bl W wr.drew := HBW.out.drew
        have HO2 := Lib.hid (ob_keepR HOB.out (Bl.refl wr).drew)
        have HG2 := Lib.hid (HG.out.keep hbD)
        have HB2 := Lib.hid (HB0.out.trans hbD)
        clear hbD
        generalize wr.drew = WD at *
        have x1 : ∀ q : Ext WD, _ := fun q => (HG2.out.keep q.bl).val.2.1
        have x3 : ∀ q : Ext WD, _ := fun q => (HG2.out.keep q.bl).val.2.2.2
        have hst : ∀ q : Ext WD, (convert 61 9 (.slice (some ⟨W.heap.size, 0, none⟩) 8 8)).run Try.prog q.at = .ok (.string q3) q.at := fun q => by
          have := (ob_keepR HO2.out q.bl).string (putN_len U 8 8)
          rw [C3.out] at this
          exact this
        clear HO2 HOB
        repeat (refine wpE_step (fun K hK => ?_); go_simp; first | (refine hK _ ?_; clear hK K) | (apply Exists.intro; refine ⟨fun q => ?_, hK _ ?_⟩; (first | with_reducible exact C1.out _ | with_reducible exact C2.out _ | with_reducible exact C4.out _); clear hK K))
        refine wpE_nil ?_
        intro q
        go_wp2_with fail
        go_ret
        exact ⟨rfl, HB2.out.trans q.bl⟩
theorem value_any (v : ValL) (w : World) (hx : v.x < two64) (hn : -9223372036854775808 ≤ v.n ∧ v.n ≤ 9223372036854775807) (hz : v.s.size ≤ 70000) :
    Calls Try.prog 123 #[.agg #[.bool v.there, .float .f64 v.x, .int .i64 v.n, .string v.s]] w fun e w' => e = .returned (.string (strL (putVal v))) ∧ Bl w w' := by
  have hT : 0 ≤ thereN v.there ∧ thereN v.there ≤ 255 := by unfold thereN; split <;> omega
  have hU : (n : Int) → IntKind.u64.wrap n = (((n % 18446744073709551616).toNat : Nat) : Int) := fun n => by rw [IntKind.wrap_u64]; omega
  have e : putVal v = ((numB (thereN v.there) 1 ++ bytesN8 (fkey v.x)) ++ bytesN8 (v.n % 18446744073709551616).toNat) ++ textB v.s.data.toList := by unfold putVal; simp only [List.append_assoc]
  have hsl : v.s.data.toList.length = v.s.size := by simp
  have z4 := textB_len v.s.data.toList
  rw [e]
  refine value_hid v.there v.x v.n v.s w hx hz _ (Lib.hid rfl) _ (Lib.hid rfl) (by omega) (hU v.n) (strL (numB (thereN v.there) 1)) (strL (bytesN8 (fkey v.x))) (strL (bytesN8 (v.n % 18446744073709551616).toNat)) (strL (textB v.s.data.toList)) _ _ _ (strL_app _ _) (strL_app _ _) (strL_app _ _) (eq_false ?_) (eq_false ?_) (eq_false ?_)
    (Lib.hid fun w => num1_any _ w hT) (Lib.hid fun w => rput_any v.x w hx) (Lib.hid rfl) (Lib.hid fun w => text_any v.s.data.toList w (by omega))
  all_goals (simp only [strL_size, List.length_append, numB_len, bytesN8_len, textB_len]; omega)
end Go.Proofs.Ytechiehbigmjbaa
