import Derived.Test.YtaelghbjbopilaaGreatQProtoRepliesUptoP14
import Derived.Test.YtaelghbjbopilaaGreatQProtoRepliesUptoP12
import Derived.Test.YtaelghbjbopilaaGreatQProtoRepliesUptoP11
import Derived.Test.YtaelghbjbopilaaGreatQProtoRepliesUptoP10

/- proto.Valid, all requests; proto.PutAsk. By an AI agent. -/
section
set_option linter.unusedVariables false
set_option linter.unusedSimpArgs false
namespace Go.Proofs.YtaelghbjbopilaaGreat
open Go.RowKit
attribute [local go_sem] eOp eOper eUpon

/-- a request as a value -/
def askV (k s t i m : Int) (ad : Option Addr) (n ca : Nat) (key text : ByteArray) (ak : Int) (ax : Nat) (an : Int) (az : ByteArray) : Value :=
  .agg #[.int .i64 k, .int .i64 s, .int .i64 t, .int .i64 i, .int .i64 m, .slice ad n ca, .string key, .string text, .int .i64 ak, .float .f64 ax, .int .i64 an, .string az]
/-- what is asked of a request that is an argument -/
structure AskOk (w : World) (a : AskL) (ad : Option Addr) (n : Nat) : Prop where
  x : IA w ad n a.at_
  key : a.key.size ≤ 140737488351232
  text : a.text.size ≤ 140737488351232
  act : a.act.Ok
theorem AskOk.keep {w w' : World} {a : AskL} {ad : Option Addr} {n : Nat} (h : AskOk w a ad n) (hb : Bl w w') : AskOk w' a ad n := ⟨h.x.keep hb, h.key, h.text, h.act⟩
theorem putC_zero (a : ActL) : decide (putC a = 0) = rightB a := by
  unfold putC
  cases rightB a <;> simp
theorem validA_eq (a : AskL) : validA a = (decide (0 ≤ a.kind ∧ a.kind ≤ 15) && (!frontN (uAt a.kind) a.at_.length a.key a.text (validL a.at_) && (!secondN (uKey a.kind) (uAct a.kind) (uText a.kind) a.key a.text (putC a.act) (sameA a.act zeroAct) &&
    (rangeB a.ses (uSes a.kind) && (rangeB a.tx (uTx a.kind) && (rangeB a.id (uId a.kind) && rangeB a.num (uNum a.kind))))))) := by
  unfold validA askFrontB askActB askTextsB askNumsB frontN secondN
  rw [putC_zero, Bool.not_not, Bool.not_not]
  simp only [Bool.and_assoc]
theorem pvalid_any (a : AskL) (ad : Option Addr) (n ca : Nat) (w : World) (ok : AskOk w a ad n) :
    Calls Tryz.prog 110 #[askV a.kind a.ses a.tx a.id a.num ad n ca a.key a.text a.act.k a.act.x a.act.n a.act.s] w fun e w' => e = .returned (.bool (validA a)) ∧ Bl w w' := by
  obtain ⟨k, s, t, i, m, xs, key, text, ⟨ak, ax, an, az⟩⟩ := a
  obtain ⟨hx, hkey, htext, oa⟩ := ok
  dsimp only at hx hkey htext oa ⊢
  rw [validA_eq]
  dsimp only
  by_cases hk : 0 ≤ k ∧ k ≤ 15
  · obtain ⟨q, rfl⟩ := Int.eq_ofNat_of_zero_le hk.1
    rw [decide_eq_true hk, Bool.true_and, hx.len]
    exact pvalid_in q s t i m ad n ca xs key text ak ax an az w (by omega) hx hkey htext (Lib.hid oa) _ _ _ _ _ _ _ _ (Lib.hid rfl) _ (Lib.hid rfl) _ _ (Lib.hid ⟨rfl, rfl⟩) _ (Lib.hid rfl)
  · rw [decide_eq_false hk, Bool.false_and]
    exact pvalid_out k s t i m ad n ca key text ak ax an az w (by omega)
theorem pvalid_hid (k s t i m : Int) (ad : Option Addr) (n ca : Nat) (xs : List Int) (key text : ByteArray) (ak : Int) (ax : Nat) (an : Int) (az : ByteArray) (r : Bool) (w : World) (ok : AskOk w ⟨k, s, t, i, m, xs, key, text, ⟨ak, ax, an, az⟩⟩ ad n)
    (hr : Hid (validA ⟨k, s, t, i, m, xs, key, text, ⟨ak, ax, an, az⟩⟩ = r)) :
    Calls Tryz.prog 110 #[.agg #[.int .i64 k, .int .i64 s, .int .i64 t, .int .i64 i, .int .i64 m, .slice ad n ca, .string key, .string text, .int .i64 ak, .float .f64 ax, .int .i64 an, .string az]] w fun e w' => e = .returned (.bool r) ∧ Bl w w' := by
  have := pvalid_any ⟨k, s, t, i, m, xs, key, text, ⟨ak, ax, an, az⟩⟩ ad n ca w ok
  rw [hr.out] at this
  exact this

theorem num6_any (v : Int) (w : World) (h : 0 ≤ v ∧ v ≤ 281474976710655) :
    Calls Tryz.prog 24 #[.int .i64 v, .int .i64 6] w fun e w' => e = .returned (.string (strL (numB v 6))) ∧ Bl w w' :=
  num_any v 6 w h.1 (by decide) (by decide) (by omega)
theorem num1_any (v : Int) (w : World) (h : 0 ≤ v ∧ v ≤ 255) :
    Calls Tryz.prog 24 #[.int .i64 v, .int .i64 1] w fun e w' => e = .returned (.string (strL (numB v 1))) ∧ Bl w w' :=
  num_any v 1 w h.1 (by decide) (by decide) (by omega)
/-- nine texts, one behind the other -/
structure Nine (q1 q2 q3 q4 q5 q6 q7 q8 q9 p2 p3 p4 p5 p6 p7 p8 p9 : ByteArray) : Prop where
  e2 : q1 ++ q2 = p2
  z2 : p2.size ≤ 40000
  y2 : q2.size ≤ 40000
  e3 : p2 ++ q3 = p3
  z3 : p3.size ≤ 40000
  y3 : q3.size ≤ 40000
  e4 : p3 ++ q4 = p4
  z4 : p4.size ≤ 40000
  y4 : q4.size ≤ 40000
  e5 : p4 ++ q5 = p5
  z5 : p5.size ≤ 40000
  y5 : q5.size ≤ 40000
  e6 : p5 ++ q6 = p6
  z6 : p6.size ≤ 40000
  y6 : q6.size ≤ 40000
  e7 : p6 ++ q7 = p7
  z7 : p7.size ≤ 40000
  y7 : q7.size ≤ 40000
  e8 : p7 ++ q8 = p8
  z8 : p8.size ≤ 40000
  y8 : q8.size ≤ 40000
  e9 : p8 ++ q9 = p9
  z9 : p9.size ≤ 40000
  y9 : q9.size ≤ 40000
  y1 : q1.size ≤ 40000

set_option maxHeartbeats 1600000 in
set_option maxRecDepth 100000 in
theorem putAsk_no (k s t i m : Int) (ad : Option Addr) (n ca : Nat) (xs : List Int) (key text : ByteArray) (ak : Int) (ax : Nat) (an : Int) (az : ByteArray) (w : World) (ok : Hid (AskOk w ⟨k, s, t, i, m, xs, key, text, ⟨ak, ax, an, az⟩⟩ ad n))
    (hr : Hid (validA ⟨k, s, t, i, m, xs, key, text, ⟨ak, ax, an, az⟩⟩ = false)) :
    Calls Tryz.prog 19 #[.agg #[.int .i64 k, .int .i64 s, .int .i64 t, .int .i64 i, .int .i64 m, .slice ad n ca, .string key, .string text, .int .i64 ak, .float .f64 ax, .int .i64 an, .string az]] w fun e w' => e = .returned (.tuple #[.string ⟨#[]⟩, .int .i64 1]) ∧ Bl w w' := by
  go_enter Tryz.func19, Tryz.ntmps19
  go_wp2_with fail
  have hb := (Bl.refl w).alloc (.cells (askCs k s t i m ad n ca key text ak ax an az).toArray 73)
  refine (pvalid_hid k s t i m ad n ca xs key text ak ax an az false _ (ok.out.keep hb) hr).mono ?_
  rintro e w1 ⟨rfl, hb1⟩
  go_wp2_with fail
  go_ret2
  exact ⟨rfl, hb.trans hb1⟩
set_option maxHeartbeats 3200000 in
set_option maxRecDepth 100000 in
theorem putAsk_yes (k s t i m : Int) (ad : Option Addr) (n ca : Nat) (xs : List Int) (key text : ByteArray) (ak : Int) (ax : Nat) (an : Int) (az : ByteArray) (b : ByteArray) (c : Int) (w : World) (ok : Hid (AskOk w ⟨k, s, t, i, m, xs, key, text, ⟨ak, ax, an, az⟩⟩ ad n))
    (hr : Hid (validA ⟨k, s, t, i, m, xs, key, text, ⟨ak, ax, an, az⟩⟩ = true)) (HP : Hid (b = strL (putS ⟨ak, ax, an, az⟩) ∧ putC ⟨ak, ax, an, az⟩ = c))
    (q1 q2 q3 q4 q5 q6 q7 q8 q9 p2 p3 p4 p5 p6 p7 p8 p9 : ByteArray) (N : Hid (Nine q1 q2 q3 q4 q5 q6 q7 q8 q9 p2 p3 p4 p5 p6 p7 p8 p9))
    (C1 : Hid (∀ w, Calls Tryz.prog 24 #[.int .i64 k, .int .i64 1] w fun e w' => e = .returned (.string q1) ∧ Bl w w'))
    (C2 : Hid (∀ w, Calls Tryz.prog 24 #[.int .i64 s, .int .i64 6] w fun e w' => e = .returned (.string q2) ∧ Bl w w'))
    (C3 : Hid (∀ w, Calls Tryz.prog 24 #[.int .i64 t, .int .i64 6] w fun e w' => e = .returned (.string q3) ∧ Bl w w'))
    (C4 : Hid (∀ w, Calls Tryz.prog 24 #[.int .i64 i, .int .i64 6] w fun e w' => e = .returned (.string q4) ∧ Bl w w'))
    (C5 : Hid (∀ w, Calls Tryz.prog 24 #[.int .i64 m, .int .i64 6] w fun e w' => e = .returned (.string q5) ∧ Bl w w'))
    (C6 : Hid (∀ w, IA w ad n xs → Calls Tryz.prog 25 #[.slice ad n ca] w fun e w' => e = .returned (.string q6) ∧ Bl w w'))
    (C7 : Hid (∀ w, Calls Tryz.prog 27 #[.string key] w fun e w' => e = .returned (.string q7) ∧ Bl w w'))
    (C8 : Hid (∀ w, Calls Tryz.prog 27 #[.string text] w fun e w' => e = .returned (.string q8) ∧ Bl w w'))
    (C9 : Hid (∀ w, Calls Tryz.prog 27 #[.string b] w fun e w' => e = .returned (.string q9) ∧ Bl w w')) :
    Calls Tryz.prog 19 #[.agg #[.int .i64 k, .int .i64 s, .int .i64 t, .int .i64 i, .int .i64 m, .slice ad n ca, .string key, .string text, .int .i64 ak, .float .f64 ax, .int .i64 an, .string az]] w fun e w' => e = .returned (.tuple #[.string p9, .int .i64 0]) ∧ Bl w w' := by
  go_enter Tryz.func19, Tryz.ntmps19
  go_wp2_with fail
  have hb := (Bl.refl w).alloc (.cells (askCs k s t i m ad n ca key text ak ax an az).toArray 73)
  have hg := AC.new w _ rfl (askCs k s t i m ad n ca key text ak ax an az) 73
  refine (pvalid_hid k s t i m ad n ca xs key text ak ax an az true _ (ok.out.keep hb) hr).mono ?_
  rintro e w1 ⟨rfl, hb1⟩
  have hb2 := hb.trans hb1
  have hg1 := hg.keep hb1
  clear hb hg hb1
  obtain ⟨c0, c1, c2, c3, c4, c5, c6, c7, c8, c9, c10, c11⟩ := hg1.ask
  go_wp2_with fail
  refine (opPut_hid ak ax an az b c _ ok.out.act HP).mono ?_
  rintro e w2 ⟨rfl, hb3⟩
  have hb4 := hb2.trans hb3
  have hg2 := hg1.keep hb3
  clear hb2 hb3 hg1 c0 c1 c2 c3 c4 c5 c6 c7 c8 c9 c10 c11
  have HX := Lib.hid (ok.out.x.keep hb4.drew)
  have hg3 : AC w2.drew w.heap.size (askCs k s t i m ad n ca key text ak ax an az) := hg2.keep ((Bl.refl w2).drew)
  have HB := Lib.hid hb4.drew
  clear hg2 hb4
  go_upto_region 4 with fail
  refine wp_region_extall (by kernel_rfl) (by kernel_rfl) ?_
  generalize w2.drew = W at *
  have c0 : ∀ n : Ext W, _ := fun n => (hg3.keep n.bl).ask.1
  have c1 : ∀ n : Ext W, _ := fun n => (hg3.keep n.bl).ask.2.1
  have c2 : ∀ n : Ext W, _ := fun n => (hg3.keep n.bl).ask.2.2.1
  have c3 : ∀ n : Ext W, _ := fun n => (hg3.keep n.bl).ask.2.2.2.1
  have c4 : ∀ n : Ext W, _ := fun n => (hg3.keep n.bl).ask.2.2.2.2.1
  have c5 : ∀ n : Ext W, _ := fun n => (hg3.keep n.bl).ask.2.2.2.2.2.1
  have c6 : ∀ n : Ext W, _ := fun n => (hg3.keep n.bl).ask.2.2.2.2.2.2.1
  have c7 : ∀ n : Ext W, _ := fun n => (hg3.keep n.bl).ask.2.2.2.2.2.2.2.1
  have c8 : ∀ n : Ext W, _ := fun n => (hg3.keep n.bl).ask.2.2.2.2.2.2.2.2.1
  have hX : ∀ n : Ext W, IA n.at ad _ xs := fun n => HX.out.keep n.bl
  have C6' := Lib.hid (fun n : Ext W => C6.out n.at (hX n))
  clear hX hg3 C6
  have e2 := N.out.e2
  have z2 := N.out.z2
  have y2 := N.out.y2
  have e3 := N.out.e3
  have z3 := N.out.z3
  have y3 := N.out.y3
  have e4 := N.out.e4
  have z4 := N.out.z4
  have y4 := N.out.y4
  have e5 := N.out.e5
  have z5 := N.out.z5
  have y5 := N.out.y5
  have e6 := N.out.e6
  have z6 := N.out.z6
  have y6 := N.out.y6
  have e7 := N.out.e7
  have z7 := N.out.z7
  have y7 := N.out.y7
  have e8 := N.out.e8
  have z8 := N.out.z8
  have y8 := N.out.y8
  have e9 := N.out.e9
  have z9 := N.out.z9
  have y9 := N.out.y9
  have y1 := N.out.y1
  have s2_ : (9223372036854775807 < q1.size + q2.size) = False := eq_false (by omega)
  have s3_ : (9223372036854775807 < p2.size + q3.size) = False := eq_false (by omega)
  have s4_ : (9223372036854775807 < p3.size + q4.size) = False := eq_false (by omega)
  have s5_ : (9223372036854775807 < p4.size + q5.size) = False := eq_false (by omega)
  have s6_ : (9223372036854775807 < p5.size + q6.size) = False := eq_false (by omega)
  have s7_ : (9223372036854775807 < p6.size + q7.size) = False := eq_false (by omega)
  have s8_ : (9223372036854775807 < p7.size + q8.size) = False := eq_false (by omega)
  have s9_ : (9223372036854775807 < p8.size + q9.size) = False := eq_false (by omega)
  repeat (refine wpE_step (fun K hK => ?_); go_simp; first | (refine hK _ ?_; clear hK K) | (apply Exists.intro; refine ⟨fun n => ?_, hK _ ?_⟩; (first | with_reducible exact C1.out _ | with_reducible exact C2.out _ | with_reducible exact C3.out _ | with_reducible exact C4.out _ | with_reducible exact C5.out _ | with_reducible exact C7.out _ | with_reducible exact C8.out _ | with_reducible exact C9.out _ | with_reducible exact C6'.out n); clear hK K))
  refine wpE_nil ?_
  intro n
  go_wp2_with fail
  go_ret2
  exact ⟨rfl, HB.out.trans n.bl⟩
/-- PutAsk's answer -/
def putAskS (a : AskL) : List UInt8 := if validA a then putAsk a else []
def putAskC (a : AskL) : Int := if validA a then 0 else 1
theorem strL_small {l : List UInt8} (h : l.length ≤ 40000) : (strL l).size ≤ 40000 := by rw [strL_size]; exact h
theorem putAsk_any (a : AskL) (ad : Option Addr) (n ca : Nat) (w : World) (ok : AskOk w a ad n) :
    Calls Tryz.prog 19 #[askV a.kind a.ses a.tx a.id a.num ad n ca a.key a.text a.act.k a.act.x a.act.n a.act.s] w fun e w' => e = .returned (.tuple #[.string (strL (putAskS a)), .int .i64 (putAskC a)]) ∧ Bl w w' := by
  cases hv : validA a
  · rw [show putAskS a = [] by unfold putAskS; rw [hv]; rfl, show putAskC a = 1 by unfold putAskC; rw [hv]; rfl]
    exact putAsk_no a.kind a.ses a.tx a.id a.num ad n ca a.at_ a.key a.text a.act.k a.act.x a.act.n a.act.s w (Lib.hid ok) (Lib.hid hv)
  · have V := validA_parts hv
    have h1 := vecS_len a.at_
    have h2 : (putS a.act).length ≤ 1026 := by unfold putS; rw [V.act, if_pos rfl]; exact putA_len V.act
    have h3 : a.key.data.toList.length ≤ 64 := by simpa using V.key
    have h4 : a.text.data.toList.length ≤ 32768 := by simpa using V.text
    rw [show putAskS a = ((((((((numB a.kind 1 ++ numB a.ses 6) ++ numB a.tx 6) ++ numB a.id 6) ++ numB a.num 6) ++ vecB a.at_) ++ textB a.key.data.toList) ++ textB a.text.data.toList) ++ textB (putS a.act)) by unfold putAskS; rw [hv, if_pos rfl]; unfold putAsk; simp only [List.append_assoc], show putAskC a = 0 by unfold putAskC; rw [hv]; rfl]
    refine putAsk_yes a.kind a.ses a.tx a.id a.num ad n ca a.at_ a.key a.text a.act.k a.act.x a.act.n a.act.s _ _ w (Lib.hid ok) (Lib.hid hv) (Lib.hid ⟨rfl, rfl⟩) (strL (numB a.kind 1)) (strL (numB a.ses 6)) (strL (numB a.tx 6)) (strL (numB a.id 6)) (strL (numB a.num 6)) (strL (vecB a.at_)) (strL (textB a.key.data.toList)) (strL (textB a.text.data.toList)) (strL (textB (putS a.act))) (strL (numB a.kind 1 ++ numB a.ses 6)) (strL ((numB a.kind 1 ++ numB a.ses 6) ++ numB a.tx 6)) (strL (((numB a.kind 1 ++ numB a.ses 6) ++ numB a.tx 6) ++ numB a.id 6)) (strL ((((numB a.kind 1 ++ numB a.ses 6) ++ numB a.tx 6) ++ numB a.id 6) ++ numB a.num 6)) (strL (((((numB a.kind 1 ++ numB a.ses 6) ++ numB a.tx 6) ++ numB a.id 6) ++ numB a.num 6) ++ vecB a.at_)) (strL ((((((numB a.kind 1 ++ numB a.ses 6) ++ numB a.tx 6) ++ numB a.id 6) ++ numB a.num 6) ++ vecB a.at_) ++ textB a.key.data.toList)) (strL (((((((numB a.kind 1 ++ numB a.ses 6) ++ numB a.tx 6) ++ numB a.id 6) ++ numB a.num 6) ++ vecB a.at_) ++ textB a.key.data.toList) ++ textB a.text.data.toList)) _ (Lib.hid ?_) (Lib.hid fun w => num1_any a.kind w ⟨V.k0, by have := V.k1; omega⟩) (Lib.hid fun w => num6_any a.ses w V.ses) (Lib.hid fun w => num6_any a.tx w V.tx) (Lib.hid fun w => num6_any a.id w V.id) (Lib.hid fun w => num6_any a.num w V.num)
      (Lib.hid fun w hx => vector_any ad n ca a.at_ w hx) (Lib.hid fun w => text_any a.key.data.toList w (by omega)) (Lib.hid fun w => text_any a.text.data.toList w (by omega)) (Lib.hid fun w => text_any (putS a.act) w (by omega))
    constructor
    all_goals first | exact strL_app _ _ | (refine strL_small ?_; simp only [List.length_append, numB_len, textB_len, vecB]; omega)
end Go.Proofs.YtaelghbjbopilaaGreat
end

/- proto.Reader.Next: its ways. By an AI agent. -/
section
set_option linter.unusedVariables false
set_option linter.unusedSimpArgs false
namespace Go.Proofs.YtaelghbjbopilaaGreat
open Go.RowKit

theorem get4_any (l : List UInt8) (w : World) (h : 4 ≤ l.length) :
    Calls Tryz.prog 108 #[.string (strL (l.take 4))] w fun e w' => e = .returned (.tuple #[.int .i64 (getN (l.take 4)), .int .i64 0]) ∧ w = w' :=
  get_any (strL (l.take 4)) w (by rw [strL_size, List.length_take]; omega) (by rw [strL_size, List.length_take]; omega)
theorem next_short (g : Nat) (l : List UInt8) (w : World) (h : RB2 w g l false) (hl : l.length < 4) :
    Calls Tryz.prog 18 #[.pointer (some ⟨g, 0, none⟩)] w fun e w' => e = .returned (.tuple #[.string ⟨#[]⟩, .bool false]) ∧ w = w' := by
  have c0 := AC.cell h 0 _ rfl
  have c1 := AC.cell h 1 _ rfl
  have z1 := strL_size l
  generalize strL l = s at *
  go_enter Tryz.func18, Tryz.ntmps18
  go_wp2_with fail
  go_ret2
  exact ⟨rfl, rfl⟩
theorem next_wait (g : Nat) (l : List UInt8) (n : Nat) (w : World) (h : RB2 w g l false) (hl : 4 ≤ l.length) (hz : l.length ≤ 140737488351232) (hn : getN (l.take 4) = n) (hn1 : n ≤ 65536) (hn2 : l.length < 8 + n) :
    Calls Tryz.prog 18 #[.pointer (some ⟨g, 0, none⟩)] w fun e w' => e = .returned (.tuple #[.string ⟨#[]⟩, .bool false]) ∧ w = w' := by
  have c0 := AC.cell h 0 _ rfl
  have c1 := AC.cell h 1 _ rfl
  have z1 := strL_size l
  have hq := strL_ext l 0 4
  rw [List.drop_zero, show 4 - 0 = 4 from rfl] at hq
  have G := Lib.hid (fun w => get4_any l w hl)
  rw [hn] at G
  clear hn
  generalize strL (l.take 4) = q at *
  generalize strL l = s at *
  go_enter Tryz.func18, Tryz.ntmps18
  go_wp2_with fail
  refine (G.out _).mono ?_
  rintro e w' ⟨rfl, rfl⟩
  go_wp2_with fail
  go_ret2
  exact ⟨rfl, rfl⟩
/-- the facts of a whole frame, as the ways ask for them -/
structure Whole (l : List UInt8) (n : Nat) (q p c r : ByteArray) (m : Nat) : Prop where
  g1 : ∀ w, Calls Tryz.prog 108 #[.string q] w fun e w' => e = .returned (.tuple #[.int .i64 (n : Int), .int .i64 0]) ∧ w = w'
  g2 : ∀ w, Calls Tryz.prog 108 #[.string p] w fun e w' => e = .returned (.tuple #[.int .i64 (getN ((l.drop 4).take 4)), .int .i64 0]) ∧ w = w'
  g3 : ∀ w, Calls Tryz.prog 107 #[.string c] w fun e w' => e = .returned (.int .i64 (m : Int)) ∧ w = w'
  g4 : ∀ w, Calls Tryz.prog 109 #[.string c] w fun e w' => e = .returned (.string c) ∧ Bl w w'
theorem whole_of (l : List UInt8) (n : Nat) (hn : getN (l.take 4) = n) (hn1 : n ≤ 65536) (hn2 : 8 + n ≤ l.length) :
    Whole l n (strL (l.take 4)) (strL ((l.drop 4).take 4)) (strL ((l.drop 8).take n)) (strL (l.drop (8 + n))) (sumL ((l.drop 8).take n)) where
  g1 := fun w => by
    have := get4_any l w (by omega)
    rwa [hn] at this
  g2 := fun w => get4_any (l.drop 4) w (by rw [List.length_drop]; omega)
  g3 := fun w => sum_any (strL ((l.drop 8).take n)) w (by rw [strL_size, List.length_take]; omega)
  g4 := fun w => cloneB_any (strL ((l.drop 8).take n)) w (by rw [strL_size, List.length_take]; omega)
theorem next_whole (g : Nat) (l : List UInt8) (n : Nat) (q p c r : ByteArray) (m : Nat) (w : World) (h : RB2 w g l false) (hz : l.length ≤ 140737488351232) (HW : Hid (Whole l n q p c r m)) (hn1 : n ≤ 65536) (hn2 : 8 + n ≤ l.length)
    (hq : (strL l).extract 0 4 = q) (hp : (strL l).extract 4 8 = p) (hc : (strL l).extract 8 (8 + n) = c) (hr : (strL l).extract (8 + n) (strL l).size = r) (hk : getN ((l.drop 4).take 4) = m) :
    Calls Tryz.prog 18 #[.pointer (some ⟨g, 0, none⟩)] w fun e w' => e = .returned (.tuple #[.string c, .bool true]) ∧ Bl (w.setCell ⟨g, 0, none⟩ (.string r)) w' := by
  have c0 := AC.cell h 0 _ rfl
  have c1 := AC.cell h 1 _ rfl
  have f0 := AC.frozen h 0
  have z1 := strL_size l
  have G1 := Lib.hid HW.out.g1
  have G2 := Lib.hid HW.out.g2
  rw [hk] at G2
  have G3 := Lib.hid HW.out.g3
  have G4 := Lib.hid HW.out.g4
  rw [z1] at hr
  clear hk h HW
  generalize strL l = s at *
  go_enter Tryz.func18, Tryz.ntmps18
  go_wp2_with fail
  refine (G1.out _).mono ?_
  rintro e w' ⟨rfl, rfl⟩
  go_wp2_with fail
  refine (G2.out _).mono ?_
  rintro e w' ⟨rfl, rfl⟩
  go_wp2_with fail
  refine (G3.out _).mono ?_
  rintro e w' ⟨rfl, rfl⟩
  go_wp2_with fail
  refine (G4.out _).mono ?_
  rintro e w' ⟨rfl, hb⟩
  go_wp2_with fail
  go_ret2
  exact ⟨rfl, hb⟩
theorem lenF_int (l : List UInt8) : getN (l.take 4) = (lenF l : Int) := by
  unfold lenF
  rw [Int.toNat_of_nonneg (getN4 l).1]
theorem headF_zero {l : List UInt8} (h : headF l = 0) : l.length < 4 ∨ (4 ≤ l.length ∧ lenF l ≤ 65536 ∧ l.length < 8 + lenF l) := by
  unfold headF at h
  rw [lenF_int l] at h
  split at h
  · left; assumption
  · right
    split at h
    · cases h
    · split at h
      · omega
      · split at h <;> cases h
theorem headF_one {l : List UInt8} (h : headF l = 1) : 4 ≤ l.length ∧ lenF l ≤ 65536 ∧ 8 + lenF l ≤ l.length ∧ getN ((l.drop 4).take 4) = (sumL (bodyF l) : Int) := by
  unfold headF at h
  have e : (l.drop 8).take (getN (l.take 4)).toNat = bodyF l := rfl
  rw [e, lenF_int l] at h
  split at h
  · cases h
  · split at h
    · cases h
    · split at h
      · cases h
      · split at h
        · rename_i h1
          exact ⟨by omega, by omega, by omega, h1.symm⟩
        · cases h
theorem next0 (g : Nat) (l : List UInt8) (w : World) (h : RB2 w g l false) (hz : l.length ≤ 140737488351232) (hh : headF l = 0) :
    Calls Tryz.prog 18 #[.pointer (some ⟨g, 0, none⟩)] w fun e w' => e = .returned (.tuple #[.string ⟨#[]⟩, .bool false]) ∧ w = w' := by
  rcases headF_zero hh with h1 | ⟨h1, h2, h3⟩
  · exact next_short g l w h h1
  · exact next_wait g l (lenF l) w h h1 hz (lenF_int l) h2 h3
theorem next1 (g : Nat) (l : List UInt8) (w : World) (h : RB2 w g l false) (hz : l.length ≤ 140737488351232) (hh : headF l = 1) :
    Calls Tryz.prog 18 #[.pointer (some ⟨g, 0, none⟩)] w fun e w' => e = .returned (.tuple #[.string (strL (bodyF l)), .bool true]) ∧ Bl (w.setCell ⟨g, 0, none⟩ (.string (strL (restF l)))) w' := by
  obtain ⟨h1, h2, h3, h4⟩ := headF_one hh
  have HW := whole_of l (lenF l) (lenF_int l) h2 h3
  refine next_whole g l (lenF l) _ _ _ _ _ w h hz (Lib.hid HW) h2 h3 ?_ ?_ ?_ ?_ h4
  · rw [strL_ext, List.drop_zero]
  · rw [strL_ext]
  · rw [strL_ext, show 8 + lenF l - 8 = lenF l by omega]; rfl
  · rw [strL_ext, strL_size, List.take_of_length_le (by rw [List.length_drop]; omega)]; rfl
end Go.Proofs.YtaelghbjbopilaaGreat
end
