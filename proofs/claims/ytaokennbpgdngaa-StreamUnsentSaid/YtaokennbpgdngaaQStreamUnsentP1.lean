import Derived.Test.YtaokennbpgdngaaCore12
import Derived.Test.YtaokennbpgdngaaCore19
import Derived.Test.YtaokennbpgdngaaCore23
import Derived.Test.YtaokennbpgdngaaCore15
import Derived.Deep.DeepCutAuto
import Derived.Test.YtaokennbpgdngaaCore16

/- stream.PutRow; a row read. By an AI agent. -/
section
set_option linter.unusedVariables false
set_option linter.unusedSimpArgs false
namespace Go.Proofs.Ytaokennbpgdngaa
open Go.RowKit
attribute [local go_sem] eOp eOper eUpon pOp pOper pUpon

theorem swant_yes (w : World) : Calls Try.prog 78 #[.bool true] w fun e w' => e = .returned (.tuple #[]) ∧ w = w' := by
  go_enter Try.func78, Try.ntmps78
  go_wp2_with fail
  go_end0
  exact ⟨rfl, rfl⟩
theorem swant_no (w : World) : Calls Try.prog 78 #[.bool false] w fun e w' => e = panE ∧ w = w' := by
  go_enter Try.func78, Try.ntmps78
  go_wp2_with fail
  exact ⟨rfl, rfl, rfl⟩
/-- what PutRow tells -/
def rowL (from_ : Int) (row : List Int) : List UInt8 := if validL row = true ∧ 0 ≤ from_ ∧ from_ < row.length then 82 :: (numB from_ 1 ++ putL row) else []
def rowC (from_ : Int) (row : List Int) : Int := if validL row = true ∧ 0 ≤ from_ ∧ from_ < row.length then 0 else 1
set_option maxHeartbeats 1600000 in
set_option maxRecDepth 100000 in
theorem putRow_any (from_ : Int) (a : Option Addr) (n c : Nat) (row : List Int) (w : World) (hx : IA w a n row) :
    Calls Try.prog 18 #[.int .i64 from_, .slice a n c] w fun e w' => e = .returned (.tuple #[.string (strL (rowL from_ row)), .int .i64 (rowC from_ row)]) ∧ Bl w w' := by
  have HL := Lib.hid hx.len
  have hcap := hx.cap
  have HX := Lib.hid hx
  have hnil : (strL [] : ByteArray) = ⟨#[]⟩ := rfl
  cases hv : validL row
  · have HF : Hid (rowL from_ row = [] ∧ rowC from_ row = 1) := Lib.hid (by unfold rowL rowC; rw [hv]; simp)
    have HV := Lib.hid hv
    clear hv hx
    go_enter Try.func18, Try.ntmps18
    go_wp2_with fail
    refine (vput_no a n c row _ HX.out HV.out).mono ?_
    rintro e w' ⟨rfl, rfl⟩
    go_wp2_with fail
    go_ret2
    rw [HF.out.1, HF.out.2]
    exact ⟨rfl, Bl.refl _⟩
  have HV := Lib.hid hv
  by_cases h0 : from_ < 0
  · have HF : Hid (rowL from_ row = [] ∧ rowC from_ row = 1) := Lib.hid (by unfold rowL rowC; rw [if_neg (by omega), if_neg (by omega)]; exact ⟨rfl, rfl⟩)
    have d1 : decide (from_ < 0) = true := decide_eq_true h0
    clear hv hx
    go_enter Try.func18, Try.ntmps18
    go_wp2_with fail
    refine (vput_yes a n c row _ HX.out HV.out).mono ?_
    rintro e w' ⟨rfl, hb⟩
    go_wp2_with fail
    go_ret2
    rw [HF.out.1, HF.out.2]
    exact ⟨rfl, hb⟩
  obtain ⟨fi, rfl⟩ := Int.eq_ofNat_of_zero_le (show 0 ≤ from_ by omega)
  have d1 : decide ((fi : Int) < 0) = false := decide_eq_false h0
  by_cases h1 : n ≤ fi
  · have HF : Hid (rowL (fi : Int) row = [] ∧ rowC (fi : Int) row = 1) := Lib.hid (by have := HL.out; unfold rowL rowC; rw [if_neg (by omega), if_neg (by omega)]; exact ⟨rfl, rfl⟩)
    have d2 : decide ((n : Int) ≤ (fi : Int)) = true := decide_eq_true (by omega)
    have d3 : decide (n ≤ fi) = true := decide_eq_true h1
    clear hv hx
    go_enter Try.func18, Try.ntmps18
    go_wp2_with fail
    refine (vput_yes a n c row _ HX.out HV.out).mono ?_
    rintro e w' ⟨rfl, hb⟩
    go_wp2_with fail
    go_ret2
    rw [HF.out.1, HF.out.2]
    exact ⟨rfl, hb⟩
  have d2 : decide ((n : Int) ≤ (fi : Int)) = false := decide_eq_false (by omega)
  have d3 : decide (n ≤ fi) = false := decide_eq_false h1
  have hn8 : n ≤ 8 := by rw [← HL.out]; exact (valid_parts hv).2.1
  have HF : Hid (rowL (fi : Int) row = 82 :: (numB (fi : Int) 1 ++ putL row) ∧ rowC (fi : Int) row = 0) := Lib.hid (by have := HL.out; unfold rowL rowC; rw [if_pos ⟨hv, by omega, by omega⟩, if_pos ⟨hv, by omega, by omega⟩]; exact ⟨rfl, rfl⟩)
  have HP := Lib.hid (fun w => put_any (fi : Int) 1 w (by omega) (by decide) (by decide) (by rw [show (2 : Int) ^ (8 * 1) = 256 by decide]; omega))
  have e1 : (⟨#[82]⟩ : ByteArray) ++ strL (numB (fi : Int) 1) = strL (82 :: numB (fi : Int) 1) := strL_app [82] (numB (fi : Int) 1)
  have e2 : strL (82 :: numB (fi : Int) 1) ++ strL (putL row) = strL (82 :: (numB (fi : Int) 1 ++ putL row)) := strL_app _ _
  have z1 : (strL (numB (fi : Int) 1)).size = 1 := by rw [strL_size, numB_len]
  have z2 : (strL (putL row)).size ≤ 49 := by rw [strL_size]; exact putL_small hv
  have z3 : (strL (82 :: numB (fi : Int) 1)).size = 2 := by rw [strL_size, List.length_cons, numB_len]
  have hpe : (⟨(putL row).toArray⟩ : ByteArray) = strL (putL row) := rfl
  have HPE := Lib.hid hpe
  rw [HF.out.1, HF.out.2]
  clear hv hx hpe
  generalize strL (82 :: (numB (fi : Int) 1 ++ putL row)) = s3 at *
  generalize strL (82 :: numB (fi : Int) 1) = s2 at *
  generalize strL (putL row) = s1 at *
  go_enter Try.func18, Try.ntmps18
  go_wp2_with fail
  refine (vput_yes a n c row _ HX.out HV.out).mono ?_
  rintro e w' ⟨rfl, hb⟩
  rw [HPE.out]
  go_wp2_with fail
  refine (HP.out _).mono ?_
  rintro e w2 ⟨rfl, hb2⟩
  rw [strL_nums]
  generalize strL (numB (fi : Int) 1) = s0 at *
  have hb3 := (hb.trans hb2).alloc (.cells #[.int .u8 82] 5)
  have hob : OB w2.heap.size (w2.alloc (.cells #[.int .u8 82] 5)) (.slice (some ⟨w2.heap.size, 0, none⟩) 1 1) [82] := ⟨by simp, .inr ⟨w2.heap.size, 1, #[.int .u8 82], rfl, Nat.le_refl _, heap_alloc_new w2 _, Nat.le_refl _, by decide, by simp, by simp⟩⟩
  have hcv := hob.string rfl
  rw [show strOfNums [82] = (⟨#[82]⟩ : ByteArray) from rfl] at hcv
  have s_1 : (9223372036854775807 < 1 + s0.size) = False := eq_false (by omega)
  have s_2 : (9223372036854775807 < s2.size + s1.size) = False := eq_false (by omega)
  go_wp2_with fail
  go_ret2
  exact ⟨rfl, hb3⟩
end Go.Proofs.Ytaokennbpgdngaa
end

/- stream.read and Get of a row. By an AI agent. -/
section
set_option linter.unusedVariables false
set_option linter.unusedSimpArgs false
namespace Go.Proofs.Ytaokennbpgdngaa
open Go.RowKit
attribute [local go_sem] eOp eOper eUpon pOp pOper pUpon

def zTxV : Value := .agg #[.int .i64 0, .int .i64 0, .int .i64 0, .slice none 0 0, .slice none 0 0, .slice none 0 0]
def zTxC : List Value := [.int .i64 0, .int .i64 0, .int .i64 0, .slice none 0 0, .slice none 0 0, .slice none 0 0]
theorem own_less6 {B B' : Nat} {W : World} {E : TypeId} {z n : Nat} {v : Value} {cs : List Value} (h : W.ownsRow B E z v n cs) (hb : B' ≤ B) : W.ownsRow B' E z v n cs := by
  obtain ⟨h1, h2 | ⟨g, cap, cur, hv, hB, r⟩⟩ := h
  · exact ⟨h1, .inl h2⟩
  · exact ⟨h1, .inr ⟨g, cap, cur, hv, Nat.le_trans hb hB, r⟩⟩
theorem own_set6 {B : Nat} {W : World} {E : TypeId} {z n : Nat} {v : Value} {cs : List Value} (h : W.ownsRow B E z v n cs) {q : Nat} (hq : q < B) (j : Nat) (u : Value) : (W.setCell ⟨q, j, none⟩ u).ownsRow B E z v n cs := by
  obtain ⟨h1, h2 | ⟨g, cap, cur, hv, hB, hg, r⟩⟩ := h
  · exact ⟨h1, .inl h2⟩
  · exact ⟨h1, .inr ⟨g, cap, cur, hv, hB, by rw [Below.heap_setCell _ _ _ _ (show g ≠ q by omega)]; exact hg, r⟩⟩
theorem own_fill6 {B : Nat} {E : TypeId} {z n : Nat} {v : Value} {cs : List Value} {q : Nat} (hq : q < B) (vs : List Value) : ∀ (W : World) (j : Nat), W.ownsRow B E z v n cs → (fill W q j vs).ownsRow B E z v n cs := by
  induction vs with
  | nil => intro W j h; exact h
  | cons u vs ih => intro W j h; exact ih _ _ (own_set6 h hq j u)
theorem sread_results {tmps : Array Value} {W : World} {g : Nat} {x : Int} {v : Value} {o num prev : Int} {dv av wv : Value} (h : tmps.getD 2 undef = .pointer (some ⟨g, 0, none⟩)) (h3 : tmps.getD 3 undef = .int .i64 x) (h4 : tmps.getD 4 undef = v) (hc : AC W g [.int .i64 o, .int .i64 num, .int .i64 prev, dv, av, wv]) :
    (results Try.f48 tmps).run Try.prog W = .ok (.tuple #[.agg #[.int .i64 o, .int .i64 num, .int .i64 prev, dv, av, wv], .int .i64 x, v]) W := by
  rw [Array.getD_eq_getD_getElem?] at h h3 h4
  have c0 := hc.cell 0 _ rfl
  have c1 := hc.cell 1 _ rfl
  have c2 := hc.cell 2 _ rfl
  have c3 := hc.cell 3 _ rfl
  have c4 := hc.cell 4 _ rfl
  have c5 := hc.cell 5 _ rfl
  simp [results, Try.results48, go_sem, h, h3, h4, c0, c1, c2, c3, c4, c5]
set_option maxHeartbeats 3200000 in
set_option maxRecDepth 100000 in
theorem sread_row (fb : UInt8) (fn : Nat) (hfn : fb.toNat = fn) (m : List UInt8) (xs : List Int) (w : World) (hr : rdV m = some (xs, [])) (hlt : fn < xs.length) :
    Calls Try.prog 48 #[.string (strL (82 :: fb :: m))] w fun e w' => ∃ v, e = .returned (.tuple #[zTxV, .int .i64 fn, v]) ∧ FI w.heap.size w' v xs ∧ Bl w w' := by
  unfold zTxV
  have hsf := store_float
  obtain ⟨s, hs⟩ : ∃ s, strL (82 :: fb :: m) = s := ⟨_, rfl⟩
  have hml : m.length = 1 + 6 * xs.length := by have := rdV_len hr; simpa using this
  have hv8 : xs.length ≤ 8 := (valid_parts (rdV_back hr).2).2.1
  have hsz : s.size = m.length + 2 := by rw [← hs, strL_size]; simp
  have hp0 : 0 < s.size := by omega
  have hp1 : 1 < s.size := by omega
  have h0 : (s[0]'hp0).toNat = 82 := by subst hs; rfl
  have h1 : (s[1]'hp1).toNat = fn := by subst hs; exact hfn
  have hex : s.extract 2 s.size = strL m := by
    rw [hsz, ← hs, strL_ext]
    congr 1
    rw [List.drop_succ_cons, List.drop_succ_cons, List.drop_zero, List.take_of_length_le (by simp)]
  have hne : s.toList.isEmpty = false := by subst hs; rw [ByteArray.toList_eq]; rfl
  have HG := Lib.hid (fun w => vget_rd (strL m) m w (strL_SB m) (by omega))
  have HR := Lib.hid hr
  have hfb : fn ≤ 255 := by have := UInt8.toNat_lt fb; omega
  rw [hs]
  rw [hsz] at hex
  clear hs hr hfn
  generalize strL m = q at *
  have hw2 : IntKind.i64.wrap (((m.length + 2 : Nat) : Int) - 2) = (m.length : Int) := by rw [IntKind.wrap_i64]; omega
  have hb := (Bl.refl w).alloc (.cells zTxC.toArray 29)
  have hg := AC.new w _ rfl zTxC 29
  unfold zTxC at hb hg
  obtain ⟨N, hN⟩ : ∃ N, m.length + 2 = N := ⟨_, rfl⟩
  rw [hN] at hsz hex hw2
  have hN3 : 3 ≤ N := by omega
  have hN9 : N ≤ 1000 := by omega
  have HML := Lib.hid hml
  clear hN hml
  generalize m.length = ml at *
  have d1 : decide ((1 : Int) < (N : Int)) = true := decide_eq_true (by omega)
  have d2 : decide (1 < N) = true := decide_eq_true (by omega)
  go_enter Try.func48, Try.ntmps48
  go_wp2_with fail
  refine (swant_yes _).mono ?_
  rintro e W1 ⟨rfl, rfl⟩
  go_wp2_with fail
  refine (swant_yes _).mono ?_
  rintro e W1 ⟨rfl, rfl⟩
  generalize w.alloc _ = W at *
  go_wp2_with fail
  refine (HG.out _).mono ?_
  rintro e W2 (⟨ys, m', v, hy, rfl, hfi, hb2⟩ | ⟨hy, _⟩)
  case inr => rw [HR.out] at hy; cases hy
  rw [HR.out] at hy
  simp only [Option.some.injEq, Prod.mk.injEq] at hy
  obtain ⟨rfl, rfl⟩ := hy
  obtain ⟨va, vn, vc, rfl, hI⟩ := hfi.si
  have hvn : vn = xs.length := hI.len.symm
  subst hvn
  have HF := Lib.hid hfi
  have HB := Lib.hid (hb.trans hb2)
  have HGB := Lib.hid (hg.keep hb2)
  have HMS := Lib.hid hb.size
  have hgl := hg.lt
  clear hfi hI hb hg hb2
  have q1 : (((1 + 6 * xs.length : Nat) : Int) == (ml : Int)) = true := by rw [beq_iff_eq]; have := HML.out; omega
  have q0 : 1 + 6 * xs.length = ml := by have := HML.out; omega
  have q00 : (1 : Int) + 6 * (xs.length : Int) = (ml : Int) := by have := HML.out; omega
  have q2 : decide ((fn : Int) < (xs.length : Int)) = true := decide_eq_true (by omega)
  have q3 : decide (fn < xs.length) = true := decide_eq_true hlt
  go_wp2_with fail
  refine (swant_yes _).mono ?_
  rintro e W3 ⟨rfl, rfl⟩
  go_upto_region 11 with fail
  have hwf : IntKind.i64.wrap (fn : Int) = (fn : Int) := by rw [IntKind.wrap_i64]; omega
  have d5 : ((1 : Int) < (N : Int)) := by omega
  have d6 : 1 < N := by omega
  refine wp_region_panicsT [0, 1, 2, 3, 4] 3 (fun _ => True) (fun _ _ _ _ => trivial) trivial [] (fun c W' => False) ?hR (by kernel_rfl) rfl (by kernel_rfl) (by kernel_rfl) (by kernel_rfl) ?_
  case hR => intro c tt W' h; exact h.elim
  haveI : Nonempty (ExtC (fun _ : World => True)) := ⟨⟨W2, trivial⟩⟩
  repeat (refine wpI_step rfl (fun K hK => ?_); go_simp; first | (refine hK _ ?_; clear hK K) | (apply Exists.intro; refine ⟨fun q => ?_, hK _ ?_⟩; fail; clear hK K))
  refine wpI_nil ?_
  clear this
  clear d1 d2 d5 d6
  refine wpAnyP_one (i := 5) (by kernel_rfl) ?_
  intro Y1 hy1
  have HG1 := Lib.hid (HGB.out.keep ((Bl.refl W2).drew.trans hy1))
  have fr := HG1.out.frozen
  have r0 := HG1.out.cell 0 _ rfl
  have r1 := HG1.out.cell 1 _ rfl
  have r2 := HG1.out.cell 2 _ rfl
  have r3 := HG1.out.cell 3 _ rfl
  have r4 := HG1.out.cell 4 _ rfl
  have r5 := HG1.out.cell 5 _ rfl
  go_simp
  clear fr r0 r1 r2 r3 r4 r5
  refine wpAnyP_one (i := 6) (by kernel_rfl) ?_
  intro Y2 hy2
  have HG2 := Lib.hid (AC.keep (HG1.out.fill [.int .i64 0, .int .i64 0, .int .i64 0, .slice none 0 0, .slice none 0 0, .slice none 0 0] rfl) hy2)
  have HO2 : Hid (Y2.ownsRow W.heap.size 3 1 (.slice va xs.length vc) xs.length (xs.map (Value.int .i64))) := Lib.hid (ownsRow_bl (own_fill6 (by have := HMS.out; have := hgl; omega) [.int .i64 0, .int .i64 0, .int .i64 0, .slice none 0 0, .slice none 0 0, .slice none 0 0] _ 0 (ownsRow_bl HF.out.own ((Bl.refl W2).drew.trans hy1))) hy2)
  have HB2 := Lib.hid ((Bl.fill (Nat.le_refl _) [.int .i64 0, .int .i64 0, .int .i64 0, .slice none 0 0, .slice none 0 0, .slice none 0 0] _ 0 (HB.out.trans ((Bl.refl W2).drew.trans hy1))).trans hy2)
  have HFC := Lib.hid (And.intro HF.out.cap HF.out.wf)
  clear hy1 hy2 HG1 HGB HB HF
  go_simp
  refine wpAnyP_one (i := 7) (by kernel_rfl) ?_
  intro Y3 hy3
  go_simp
  refine wpAnyP_done (by kernel_rfl) ?_
  intro Y4 hy4
  have hb4 := hy3.trans hy4
  go_wp2_with fail
  refine bodyPost_ret (sread_results rfl rfl rfl (HG2.out.keep hb4)) rfl ⟨_, rfl, ⟨own_less6 (ownsRow_bl HO2.out hb4) (by have := HMS.out; omega), HFC.out.1, HFC.out.2⟩, HB2.out.trans hb4⟩
end Go.Proofs.Ytaokennbpgdngaa
end
