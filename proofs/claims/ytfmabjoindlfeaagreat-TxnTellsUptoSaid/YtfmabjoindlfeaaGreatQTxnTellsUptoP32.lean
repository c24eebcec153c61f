import Derived.Test.YtfmabjoindlfeaaGreatQTxnTellsUptoP9
import Derived.Test.YtfmabjoindlfeaaGreatQTxnTellsUptoP31
import Derived.Test.YtfmabjoindlfeaaGreatQTxnTellsUptoP30
import Derived.Test.YtfmabjoindlfeaaGreatQTxn2
import Derived.Test.YtfmabjoindlfeaaGreatQTxnTellsUptoP22
import Derived.Test.YtfmabjoindlfeaaGreatQTxnTellsUptoP23
import Derived.Test.YtfmabjoindlfeaaGreatQTxnTellsUptoP18
import Derived.Test.YtfmabjoindlfeaaGreatQTxnTellsUptoP27
import Derived.Test.YtfmabjoindlfeaaGreatQTxnTellsUptoP5
import Derived.Test.YtfmabjoindlfeaaGreatQTxnTellsUptoP21
import Derived.Test.YtfmabjoindlfeaaGreatQTxnTellsUptoP1
import Derived.Deep.DeepCutAuto

/- op.Same. By an AI agent. -/
section
namespace Go.Proofs.YtfmabjoindlfeaaGreat
open Go.RowKit

/-- two boxes -/
structure A2 (w W : World) (b : Int) (x : Nat) (n : Int) (s : ByteArray) (c : Int) (y : Nat) (m : Int) (t : ByteArray) : Prop where
  bl : Bl w W
  a : AC W w.heap.size [.int .i64 b, .float .f64 x, .int .i64 n, .string s]
  b : AC W (w.heap.size + 1) [.int .i64 c, .float .f64 y, .int .i64 m, .string t]
theorem A2.new (w : World) (b : Int) (x : Nat) (n : Int) (s : ByteArray) (c : Int) (y : Nat) (m : Int) (t : ByteArray) (T U : TypeId) {W : World}
    (hb : Bl ((w.alloc (.cells #[.int .i64 b, .float .f64 x, .int .i64 n, .string s] T)).alloc (.cells #[.int .i64 c, .float .f64 y, .int .i64 m, .string t] U)) W) : A2 w W b x n s c y m t := by
  have h1 := (AC.new w _ rfl [.int .i64 b, .float .f64 x, .int .i64 n, .string s] T).keep ((Bl.refl _).alloc (.cells #[.int .i64 c, .float .f64 y, .int .i64 m, .string t] U))
  have h2 := AC.new (w.alloc (.cells #[.int .i64 b, .float .f64 x, .int .i64 n, .string s] T)) (w.heap.size + 1) (by simp) [.int .i64 c, .float .f64 y, .int .i64 m, .string t] U
  exact ⟨(((Bl.refl w).alloc _).alloc _).trans hb, h1.keep hb, h2.keep hb⟩

set_option maxHeartbeats 1600000 in
set_option maxRecDepth 100000 in
theorem sameA_any (a d : ActL) (w : World) (oa : a.Ok) (ob : d.Ok) :
    Calls Tryz.prog 45 #[.agg #[.int .i64 a.k, .float .f64 a.x, .int .i64 a.n, .string a.s], .agg #[.int .i64 d.k, .float .f64 d.x, .int .i64 d.n, .string d.s]] w fun e w' => e = .returned (.bool (sameA a d)) ∧ Bl w w' := by
  obtain ⟨b, x, n, s⟩ := a
  obtain ⟨c, y, m, t⟩ := d
  obtain ⟨_, hx, _, _⟩ := oa
  obtain ⟨_, hy, _, _⟩ := ob
  simp only at hx hy ⊢
  by_cases hk : b = c
  · subst hk
    go_enter Tryz.func45, Tryz.ntmps45
    go_wp2_with fail
    refine (rsameF_any x y _ hx hy).mono ?_
    rintro e w1 ⟨rfl, hb1⟩
    have G := A2.new w _ x n s _ y m t _ _ hb1
    clear hb1
    obtain ⟨a0, a1, a2, a3⟩ := G.a.act
    obtain ⟨b0, b1, b2, b3⟩ := G.b.act
    by_cases hf : fkey x = fkey y
    · have HF := Lib.hid hf
      rw [decide_eq_true hf]
      clear hf
      go_wp2_with fail
      all_goals (go_ret; refine ⟨ret_bool ?_, G.bl⟩)
      all_goals (have h1 := HF.out; simp_all [sameA])
    · have HF := Lib.hid hf
      rw [decide_eq_false hf]
      clear hf
      go_wp2_with fail
      all_goals (go_ret; refine ⟨ret_bool ?_, G.bl⟩)
      all_goals (have h1 := HF.out; simp [sameA, h1])
  · have q : (b == c) = false := by simpa using hk
    have HK := Lib.hid hk
    clear hk
    go_enter Tryz.func45, Tryz.ntmps45
    go_wp2_with fail
    go_ret
    exact ⟨ret_bool (by have := HK.out; simp [sameA, this]), ((Bl.refl w).alloc _).alloc _⟩
theorem sameA_agg (l : Int) (y : Nat) (m : Int) (t : ByteArray) (k : Int) (x : Nat) (n : Int) (s : ByteArray) (r : Bool) (w : World)
    (h : Hid (sameA ⟨l, y, m, t⟩ ⟨k, x, n, s⟩ = r)) (ob : Hid (ActL.Ok ⟨l, y, m, t⟩)) (oa : Hid (ActL.Ok ⟨k, x, n, s⟩)) :
    Calls Tryz.prog 45 #[.agg #[.int .i64 l, .float .f64 y, .int .i64 m, .string t], .agg #[.int .i64 k, .float .f64 x, .int .i64 n, .string s]] w fun e w' => e = .returned (.bool r) ∧ Bl w w' := by
  refine (sameA_any ⟨l, y, m, t⟩ ⟨k, x, n, s⟩ w ob.out oa.out).mono ?_
  rintro e w' ⟨rfl, hb⟩
  rw [h.out]
  exact ⟨rfl, hb⟩
theorem put_agg (k : Int) (x : Nat) (n : Int) (s : ByteArray) (b : ByteArray) (c : Int) (w : World) (oa : Hid (ActL.Ok ⟨k, x, n, s⟩)) (h : Hid (SB b (putS ⟨k, x, n, s⟩) ∧ putC ⟨k, x, n, s⟩ = c)) :
    Calls Tryz.prog 29 #[.agg #[.int .i64 k, .float .f64 x, .int .i64 n, .string s]] w fun e w' => e = .returned (.tuple #[.string b, .int .i64 c]) ∧ Bl w w' := by
  refine (opPut_any ⟨k, x, n, s⟩ w oa.out).mono ?_
  rintro e w' ⟨rfl, hb⟩
  rw [h.out.2, SB.eq h.out.1 (SB.mk _)]
  exact ⟨rfl, hb⟩
end Go.Proofs.YtfmabjoindlfeaaGreat
end

/- txn.Put. By an AI agent. -/
section
set_option linter.unusedVariables false
set_option linter.unusedSimpArgs false
namespace Go.Proofs.YtfmabjoindlfeaaGreat
open Go.RowKit
attribute [local go_sem] eOp eOper eUpon

/-- the texts of a transaction's head, one behind the other -/
structure HeadTexts (q1 q2 q3 q4 q5 p2 p3 p4 p5 : ByteArray) : Prop where
  e1 : q1 ++ q2 = p2
  y1 : q1.size ≤ 200
  y2 : q2.size ≤ 200
  e2 : p2 ++ q3 = p3
  z1 : p2.size ≤ 200
  y3 : q3.size ≤ 200
  e3 : p3 ++ q4 = p4
  z2 : p3.size ≤ 200
  y4 : q4.size ≤ 200
  e4 : p4 ++ q5 = p5
  z3 : p4.size ≤ 200
  y5 : q5.size ≤ 200
/-- .. of a write -/
structure WrTexts (key b q1 q2 p1 p2 p3 : ByteArray) : Prop where
  e1 : q1 ++ key = p1
  e2 : p1 ++ q2 = p2
  e3 : p2 ++ b = p3
  y1 : q1.size ≤ 2000
  y2 : q2.size ≤ 2000
  yk : key.size ≤ 2000
  yb : b.size ≤ 2000
  z1 : p1.size ≤ 2000
  z2 : p2.size ≤ 2000
theorem flatT_take_len (ps : List (ByteArray × ActL)) (k : Nat) : ((ps.take k).flatMap putWr).length ≤ (ps.flatMap putWr).length := by
  have h : (ps.flatMap putWr) = (ps.take k).flatMap putWr ++ (ps.drop k).flatMap putWr := by rw [← List.flatMap_append, List.take_append_drop]
  rw [h, List.length_append]; omega
theorem flatT_take_succ (ps : List (ByteArray × ActL)) {k : Nat} (hk : k < ps.length) : (ps.take (k + 1)).flatMap putWr = (ps.take k).flatMap putWr ++ putWr (nthW ps k) := by
  rw [List.take_succ_eq_append_getElem hk, List.flatMap_append, nthW_eq hk]
  simp
theorem wr_texts {key : ByteArray} {a : ActL} (hf : fitsB key a = true) :
    WrTexts key (strL (putA a)) (strL (numB (key.size : Int) 1)) (strL (numB ((putA a).length : Int) 2)) (strL (numB (key.size : Int) 1 ++ key.data.toList)) (strL ((numB (key.size : Int) 1 ++ key.data.toList) ++ numB ((putA a).length : Int) 2)) (strL (putWr (key, a))) := by
  have h1 := key_size (fits_key hf).1
  have h2 := putA_len (fits_key hf).2
  have h3 := size_nil key
  refine ⟨?_, strL_app _ _, ?_, ?_, ?_, by omega, ?_, ?_, ?_⟩
  · conv => lhs; rw [← strL_data key]
    exact strL_app _ _
  · rw [strL_app]
    unfold putWr
    simp only [List.append_assoc]
  all_goals (rw [strL_size]; (try simp only [List.length_append, numB_len]); omega)
theorem putWr_small {p : ByteArray × ActL} (hf : fitsB p.1 p.2 = true) : (putWr p).length ≤ 1093 := by
  have h1 := key_size (fits_key hf).1
  have h2 := putA_len (fits_key hf).2
  have h3 := size_nil p.1
  unfold putWr
  simp only [List.length_append, numB_len]
  omega
theorem flatT_len (ps : List (ByteArray × ActL)) (h : ∀ p ∈ ps, fitsB p.1 p.2 = true) : (ps.flatMap putWr).length ≤ 1093 * ps.length := by
  induction ps with
  | nil => simp
  | cons p ps ih =>
    have h1 := putWr_small (h p (by simp))
    have h2 := ih fun q hq => h q (by simp [hq])
    rw [List.flatMap_cons, List.length_append, List.length_cons]; omega

set_option maxHeartbeats 6400000 in
set_option maxRecDepth 100000 in
theorem txPut_hid (o : Nat) (num prev : Int) (da : Option Addr) (dn dc : Nat) (ds : List Int) (bx ox : Nat) (an ac : Nat) (xs : List Int) (pd : Option Addr) (pn pc : Nat) (ps : List (ByteArray × ActL)) (w : World)
    (hd : Hid (IA w da dn ds)) (hx : Hid (IA w (some ⟨bx, ox, none⟩) an xs)) (hp : Hid (WW w pd pn ps)) (hpn : pn ≤ 200) (hon : o < an) (m : Int) (hm : Hid (w.cell? ⟨bx, ox + o, none⟩ = some (.int .i64 m)))
    (hpb : Hid (∀ p ∈ ps, fitsB p.1 p.2 = true)) (hv : Hid (validT ⟨(o : Int), num, prev, ds, xs, ps⟩ = true)) (hvx : Hid (validL ds = true))
    (q1 q2 q3 q4 q5 p2 p3 p4 p5 : ByteArray) (N : Hid (HeadTexts q1 q2 q3 q4 q5 p2 p3 p4 p5)) (lf : List UInt8) (hlf : Hid (p5.data.toList = lf)) (hq4 : Hid (strL (putL ds) = q4))
    (C1 : Hid (∀ w, Calls Tryz.prog 28 #[.int .i64 (o : Int), .int .i64 1] w fun e w' => e = .returned (.string q1) ∧ Bl w w'))
    (C2 : Hid (∀ w, Calls Tryz.prog 28 #[.int .i64 num, .int .i64 6] w fun e w' => e = .returned (.string q2) ∧ Bl w w'))
    (C3 : Hid (∀ w, Calls Tryz.prog 28 #[.int .i64 prev, .int .i64 6] w fun e w' => e = .returned (.string q3) ∧ Bl w w'))
    (C5 : Hid (∀ w, Calls Tryz.prog 28 #[.int .i64 m, .int .i64 6] w fun e w' => e = .returned (.string q5) ∧ Bl w w'))
    (L : List UInt8) (hL : Hid (lf ++ ps.flatMap putWr = L)) (hLl : L.length ≤ 20000000) :
    Calls Tryz.prog 8 #[.agg #[.int .i64 (o : Int), .int .i64 num, .int .i64 prev, .slice da dn dc, .slice (some ⟨bx, ox, none⟩) an ac, .slice pd pn pc]] w fun e w' => e = .returned (.tuple #[.string (strL (outT L)), .int .i64 (outTC L)]) ∧ Bl w w' := by
  have hsf := store_float
  have han := hx.out.cap
  have hb := (Bl.refl w).alloc (.cells [Value.int .i64 (o : Int), .int .i64 num, .int .i64 prev, .slice da dn dc, .slice (some ⟨bx, ox, none⟩) an ac, .slice pd pn pc].toArray 26)
  have hg := AC.new w _ rfl [Value.int .i64 (o : Int), .int .i64 num, .int .i64 prev, .slice da dn dc, .slice (some ⟨bx, ox, none⟩) an ac, .slice pd pn pc] 26
  have c0 := hg.cell 0 _ rfl
  have c1 := hg.cell 1 _ rfl
  have c2 := hg.cell 2 _ rfl
  have c3 := hg.cell 3 _ rfl
  have c4 := hg.cell 4 _ rfl
  have c5 := hg.cell 5 _ rfl
  go_enter Tryz.func8, Tryz.ntmps8
  go_wp2_with fail
  generalize w.alloc _ = W at *
  refine (txValid_hid (o : Int) num prev da dn dc ds (some ⟨bx, ox, none⟩) an ac xs pd pn pc ps _ (hd.out.keep hb) (hx.out.keep hb) (hp.out.keep hb) true hv).mono ?_
  rintro e W1 ⟨rfl, hb1⟩
  have HB := Lib.hid (hb.trans hb1)
  have HG := Lib.hid (hg.keep hb1)
  clear hb hb1 hg c0 c1 c2 c3 c4 c5
  have hbi := BI.new W1
  have hbl0 : Bl W1 (W1.alloc (.cells #[.pointer none, .slice none 0 0] 76)) := (Bl.refl W1).alloc _
  have c3 := (HG.out.keep hbl0).cell 3 _ rfl
  go_wp2_with fail
  refine (vput_yes da dn dc ds _ (hd.out.keep (HB.out.trans hbl0)) hvx.out).mono ?_
  rintro e W2 ⟨rfl, hb2⟩
  rw [show (⟨(putL ds).toArray⟩ : ByteArray) = q4 from hq4.out]
  clear c3
  go_upto_region 5 with fail
  have hbl2 : Bl W1 W2.drew := (hbl0.trans hb2).drew
  have HI := Lib.hid ((hbi.keep hb2).keep ((Bl.refl _).drew))
  clear hbi hbl0 hb2
  refine wp_region_extC (Bl W1) (fun _ _ h k => h.trans k) hbl2 21 1 (by kernel_rfl) rfl (by kernel_rfl) (by kernel_rfl) ?_
  generalize W2.drew = WD at *
  have HBD := Lib.hid hbl2
  clear hbl2
  generalize hgb : W1.heap.size = gb at *
  have HGB := Lib.hid hgb
  clear hgb
  simp only [List.take_succ_cons, List.take_zero]
  have c0 : ∀ q : ExtC (Bl W1), _ := fun q => (HG.out.keep q.ok).cell 0 _ rfl
  have c1 : ∀ q : ExtC (Bl W1), _ := fun q => (HG.out.keep q.ok).cell 1 _ rfl
  have c2 : ∀ q : ExtC (Bl W1), _ := fun q => (HG.out.keep q.ok).cell 2 _ rfl
  have c4 : ∀ q : ExtC (Bl W1), _ := fun q => (HG.out.keep q.ok).cell 4 _ rfl
  have cm : ∀ q : ExtC (Bl W1), _ := fun q => (HB.out.trans q.ok).cell hm.out
  have hoi : decide ((o : Int) < (an : Int)) = true := decide_eq_true (by omega)
  have hoi2 : decide (o < an) = true := decide_eq_true hon
  have e1 := N.out.e1
  have e2 := N.out.e2
  have e3 := N.out.e3
  have e4 := N.out.e4
  have s1_ : (9223372036854775807 < q1.size + q2.size) = False := eq_false (by have := N.out.y1; have := N.out.y2; omega)
  have s2_ : (9223372036854775807 < p2.size + q3.size) = False := eq_false (by have := N.out.z1; have := N.out.y3; omega)
  have s3_ : (9223372036854775807 < p3.size + q4.size) = False := eq_false (by have := N.out.z2; have := N.out.y4; omega)
  have s4_ : (9223372036854775807 < p4.size + q5.size) = False := eq_false (by have := N.out.z3; have := N.out.y5; omega)
  repeat (refine wpE_step (fun K hK => ?_); go_simp; first | (refine hK _ ?_; clear hK K) | (apply Exists.intro; refine ⟨fun q => ?_, hK _ ?_⟩; (first | with_reducible exact C1.out _ | with_reducible exact C2.out _ | with_reducible exact C3.out _ | with_reducible exact C5.out _); clear hK K))
  refine wpE_nil ?_
  clear c0 c1 c2 c4 cm e1 e2 e3 e4 s1_ s2_ s3_ s4_ hoi hoi2
  refine wpAnyE_one (i := 21) (by kernel_rfl) ?_
  intro W3 hb3
  go_simp
  have hll0 : lf.length ≤ 20000000 := by have := congrArg List.length hL.out; rw [List.length_append] at this; omega
  have hbD := HBD.out.trans hb3
  refine (bi_writeString gb gb [] p5 lf hlf.out W3 (HI.out.keep hb3) (by simp; omega) (by rw [← HGB.out]; exact hbD.size)).mono ?_
  rintro e W4 ⟨rfl, hbi4, hb4⟩
  have hb14 : Bl W1 W4 := by
    rw [← HGB.out] at hb4
    exact Below.trans hbD hb4
  refine ⟨_, rfl, hb14, ?_⟩
  refine wpAnyE_done (by kernel_rfl) ?_
  intro W5 hb5
  have HBI := Lib.hid (hbi4.keep hb5)
  have HB15 := Lib.hid (hb14.trans hb5)
  clear hb14 hbi4 hb5 hb4 hbD HI HBD hb3
  have c5 := (HG.out.keep HB15.out).cell 5 _ rfl
  go_wp2_with fail
  clear c5
  go_loopw [45] (fun i wr => ∃ (k : Nat) (l : List UInt8), k ≤ pn ∧ i = .int .i64 k ∧ BI gb gb l wr ∧ Bl W1 wr ∧ l = lf ++ (ps.take k).flatMap putWr) (fun i _ => pn - (intOf i).toNat)
  case atStart => exact ⟨0, _, Nat.zero_le _, rfl, HBI.out, HB15.out, by simp⟩
  case round =>
    clear HBI HB15
    obtain ⟨k, l, hk, rfl, hbi, hbl, hl⟩ := hrel
    have hll : l.length ≤ 20000000 := by
      have h1 := flatT_take_len ps k
      have h2 := congrArg List.length hL.out
      rw [List.length_append] at h2
      rw [hl, List.length_append]; omega
    have HLN := Lib.hid hl
    have HI := Lib.hid hbi
    have HBL := Lib.hid hbl
    clear hl hbi hbl
    by_cases hlt : k < pn
    · have hkl : k < ps.length := by rw [hp.out.len]; exact hlt
      obtain ⟨ba, oa, rfl, _⟩ := hp.out.cells k hlt
      obtain ⟨c0, c1, c2, c3, c4⟩ := hp.out.get (HB.out.trans HBL.out) hlt
      have HOK := Lib.hid (hp.out.ok _ (nthW_mem hkl))
      have HPB := Lib.hid (hpb.out _ (nthW_mem hkl))
      have HTK := Lib.hid (flatT_take_succ ps hkl)
      have hl2 : (l ++ putWr (nthW ps k)).length ≤ 20000000 := by
        have h1 := flatT_take_len ps (k + 1)
        have h2 := congrArg List.length hL.out
        rw [List.length_append] at h2
        rw [HLN.out, List.append_assoc, ← HTK.out, List.length_append]; omega
      have HL2 := Lib.hid hl2
      clear hl2 hkl
      generalize nthW ps k = p at *
      obtain ⟨key, ⟨ak, ax, an2, az⟩⟩ := p
      have HT := Lib.hid (wr_texts HPB.out)
      have hr : rightB ⟨ak, ax, an2, az⟩ = true := (fits_key HPB.out).2
      have HPT : Hid (SB (strL (putA ⟨ak, ax, an2, az⟩)) (putS ⟨ak, ax, an2, az⟩) ∧ putC ⟨ak, ax, an2, az⟩ = 0) := Lib.hid (by
        rw [(putS_right hr).1]
        exact ⟨rfl, (putS_right hr).2⟩)
      have HAO := Lib.hid (show (⟨ak, ax, an2, az⟩ : ActL).Ok from HOK.out.2)
      have hk64 : key.size ≤ 64 := key_size (fits_key HPB.out).1
      have ha26 := putA_len hr
      have HK1 := Lib.hid (fun w => tnum1 (key.size : Int) w (by omega) (by omega))
      have hbz := strL_size (putA ⟨ak, ax, an2, az⟩)
      have HK2 : Hid (∀ w, Calls Tryz.prog 28 #[.int .i64 ((strL (putA ⟨ak, ax, an2, az⟩)).size : Int), .int .i64 2] w fun e w' => e = .returned (.string (strL (numB ((putA ⟨ak, ax, an2, az⟩).length : Int) 2))) ∧ Bl w w') := Lib.hid (fun w => by
        rw [hbz]
        exact tnum2 ((putA ⟨ak, ax, an2, az⟩).length : Int) w (by omega) (by omega))
      dsimp only at c0 c1 c2 c3 c4
      clear hr ha26 hbz
      generalize strL (numB (key.size : Int) 1) = t1 at *
      generalize strL (numB ((putA ⟨ak, ax, an2, az⟩).length : Int) 2) = t2 at *
      generalize strL (numB (key.size : Int) 1 ++ key.data.toList) = u1 at *
      generalize strL ((numB (key.size : Int) 1 ++ key.data.toList) ++ numB ((putA ⟨ak, ax, an2, az⟩).length : Int) 2) = u2 at *
      generalize hu3 : strL (putWr (key, ⟨ak, ax, an2, az⟩)) = u3 at *
      have HU3 : Hid (u3.data.toList = putWr (key, ⟨ak, ax, an2, az⟩)) := Lib.hid (by rw [← hu3]; rfl)
      clear hu3
      generalize strL (putA ⟨ak, ax, an2, az⟩) = tb at *
      have hFar := Far.new HI.out (.cells #[.string key, .int .i64 ak, .float .f64 ax, .int .i64 an2, .string az] 63)
      have hbw := (Bl.refl wr).alloc (.cells #[.string key, .int .i64 ak, .float .f64 ax, .int .i64 an2, .string az] 63)
      have hgp := AC.new wr _ rfl [.string key, .int .i64 ak, .float .f64 ax, .int .i64 an2, .string az] 63
      have hne : wr.heap.size ≠ gb := Nat.ne_of_gt HI.out.lt
      have g0 := hgp.cell 0 _ rfl
      have g1 := hgp.cell 1 _ rfl
      have g2 := hgp.cell 2 _ rfl
      have g3 := hgp.cell 3 _ rfl
      have g4 := hgp.cell 4 _ rfl
      go_wp2_with fail
      clear g0 g1 g2 g3 g4 c0 c1 c2 c3 c4
      refine (put_agg ak ax an2 az tb 0 _ HAO HPT).mono ?_
      rintro e w2 ⟨rfl, hb2⟩
      go_upto_region 10 with fail
      have hi1 := HI.out.keep hbw
      have HFR := Lib.hid (hFar.keep hi1 (hb2.drew))
      have HI1 := Lib.hid (hi1.keep (hb2.drew))
      have HBD := Lib.hid (HBL.out.trans (hbw.trans (hb2.drew)))
      have HGP := Lib.hid (hgp.keep (hb2.drew))
      clear hi1 hFar hbw hgp hb2
      generalize hgpe : wr.heap.size = gp at *
      clear hgpe
      refine wp_region_extC (HoldB W1 gp [.string key, .int .i64 ak, .float .f64 ax, .int .i64 an2, .string az]) HoldB.keep ⟨HBD.out, HGP.out⟩ 13 1 (by kernel_rfl) rfl (by kernel_rfl) (by kernel_rfl) ?_
      generalize w2.drew = WD at *
      simp only [List.take_succ_cons, List.take_zero]
      haveI : Nonempty (ExtC (HoldB W1 gp [.string key, .int .i64 ak, .float .f64 ax, .int .i64 an2, .string az])) := ⟨⟨WD, HBD.out, HGP.out⟩⟩
      have d0 : ∀ q : ExtC (HoldB W1 gp [.string key, .int .i64 ak, .float .f64 ax, .int .i64 an2, .string az]), _ := fun q => q.ok.2.cell 0 _ rfl
      have e1 := HT.out.e1
      have e2 := HT.out.e2
      have e3 := HT.out.e3
      have s1_ : (9223372036854775807 < t1.size + key.size) = False := eq_false (by have := HT.out.y1; omega)
      have s2_ : (9223372036854775807 < u1.size + t2.size) = False := eq_false (by have := HT.out.y2; have := HT.out.z1; omega)
      have s3_ : (9223372036854775807 < u2.size + tb.size) = False := eq_false (by have := HT.out.yb; have := HT.out.z2; omega)
      repeat (refine wpE_step (fun K hK => ?_); go_simp; first | (refine hK _ ?_; clear hK K) | (apply Exists.intro; refine ⟨fun q => ?_, hK _ ?_⟩; (first | with_reducible exact HK1.out _ | with_reducible exact HK2.out _); clear hK K))
      refine wpE_nil ?_
      clear d0 e1 e2 e3 s1_ s2_ s3_
      refine wpAnyE_one (i := 13) (by kernel_rfl) ?_
      intro W5 hb5
      go_simp
      refine (bi_writeFar gb gb l u3 (putWr (key, ⟨ak, ax, an2, az⟩)) HU3.out W5 (HI1.out.keep hb5) (by have := HL2.out; rw [List.length_append] at this; omega) (by rw [← HGB.out]; exact (HBD.out.trans hb5).size) gp _ (HGP.out.keep hb5) hne (HFR.out.keep HI1.out hb5)).mono ?_
      rintro e W6 ⟨rfl, hbi6, hb6, hgp6⟩
      have hb16 : Bl W1 W6 := by
        rw [← HGB.out] at hb6
        exact Below.trans (HBD.out.trans hb5) hb6
      refine ⟨_, rfl, ⟨hb16, hgp6⟩, ?_⟩
      refine wpAnyE_done (by kernel_rfl) ?_
      intro W7 hb7
      have HBI := Lib.hid (hbi6.keep hb7)
      have HB17 := Lib.hid (hb16.trans hb7)
      clear hb16 hbi6 hb6 hb7 hgp6 hb5 HI1 HGP HBD HFR
      go_wp2_with fail
      go_roundw
      case rel => exact ⟨k + 1, _, by omega, by go_num, HBI.out, HB17.out, by rw [HTK.out, HLN.out, List.append_assoc]⟩
      case measure => simp [intOf]; omega
    · have hkp : k = pn := by omega
      subst hkp
      have hfin : l = L := by rw [HLN.out, List.take_of_length_le (by rw [hp.out.len]; exact Nat.le_refl _)]; exact hL.out
      subst hfin
      have HSM := Lib.hid (fun w => sum_any (strL l) w (by rw [strL_size]; omega))
      rw [show (strL l).data.toList = l from rfl] at HSM
      have hsl := sumL_lt l
      have HN4 := Lib.hid (fun w => tnum4 (sumL l : Int) w (by omega) (by omega))
      have HSE : Hid (l ++ numB (sumL l : Int) 4 = sealL l) := Lib.hid rfl
      have HLS := Lib.hid (sealL_len l)
      have HOUT : Hid ((l.length + 4 ≤ 65000 → outT l = sealL l ∧ outTC l = 0) ∧ (¬ l.length + 4 ≤ 65000 → outT l = [] ∧ outTC l = 2)) := Lib.hid (by
        unfold outT outTC
        exact ⟨fun h => by rw [if_pos h, if_pos h]; exact ⟨rfl, rfl⟩, fun h => by rw [if_neg h, if_neg h]; exact ⟨rfl, rfl⟩⟩)
      have HBF := Lib.hid (BF.of HI.out)
      have hq : (strL (numB (sumL l : Int) 4)).data.toList = numB (sumL l : Int) 4 := rfl
      have HQ := Lib.hid hq
      clear hq
      generalize strL (numB (sumL l : Int) 4) = qs at *
      go_wp2_with fail
      refine (bf_string gb gb l _ HBF.out (by rw [← HGB.out]; exact HBL.out.size)).mono ?_
      rintro e w3 ⟨rfl, hf3, hb3⟩
      rw [show (⟨l.toArray⟩ : ByteArray) = strL l from rfl]
      have hb13 : Bl W1 w3 := by
        rw [← HGB.out] at hb3
        exact Below.trans HBL.out hb3
      generalize strL l = sl at *
      go_wp2_with fail
      refine (HSM.out _).mono ?_
      rintro e w4 ⟨rfl, rfl⟩
      generalize sumL l = sm at *
      go_wp2_with fail
      refine (HN4.out _).mono ?_
      rintro e w4 ⟨rfl, hb4⟩
      have hb14 := hb13.trans hb4
      go_wp2_with fail
      refine (bf_write gb gb l qs _ HQ.out _ (hf3.keep hb4) (by rw [numB_len]; omega) (by rw [← HGB.out]; exact hb14.size)).mono ?_
      rintro e w5 ⟨rfl, hf5, hb5⟩
      have hb15 : Bl W1 w5 := by
        rw [← HGB.out] at hb5
        exact Below.trans hb14 hb5
      rw [HSE.out] at hf5
      clear hf3 hb3 hb13 hb4 hb14 hb5
      go_wp2_with fail
      refine (bf_len gb gb _ _ hf5).mono ?_
      rintro e w6 ⟨rfl, rfl⟩
      have hzs : ∃ z, (sealL l).length = z ∧ l.length + 4 = z := ⟨_, rfl, HLS.out.symm⟩
      obtain ⟨z, hz1, hz2⟩ := hzs
      rw [hz1]
      rw [hz2] at HOUT
      have HZ1 := Lib.hid hz1
      clear hz1 hz2 HLS
      by_cases hz : z ≤ 65000
      · have q1_ : decide ((65000 : Int) < (z : Int)) = false := decide_eq_false (by omega)
        have q2_ : decide (65000 < z) = false := decide_eq_false (by omega)
        have HO := Lib.hid (HOUT.out.1 hz)
        clear hz
        go_wp2_with fail
        refine (bf_string gb gb _ _ hf5 (by rw [← HGB.out]; exact hb15.size)).mono ?_
        rintro e w7 ⟨rfl, hf7, hb7⟩
        have hb17 : Bl W1 w7 := by
          rw [← HGB.out] at hb7
          exact Below.trans hb15 hb7
        go_wp2_with fail
        go_ret2
        rw [HO.out.1, HO.out.2]
        exact ⟨rfl, HB.out.trans hb17⟩
      · have q1_ : decide ((65000 : Int) < (z : Int)) = true := decide_eq_true (by omega)
        have q2_ : decide (65000 < z) = true := decide_eq_true (by omega)
        have HO := Lib.hid (HOUT.out.2 hz)
        clear hz
        go_wp2_with fail
        go_ret2
        rw [HO.out.1, HO.out.2]
        exact ⟨rfl, HB.out.trans hb15⟩
theorem strL_smallT {l : List UInt8} (h : l.length ≤ 200) : (strL l).size ≤ 200 := by rw [strL_size]; exact h
set_option maxRecDepth 100000 in
theorem txPut_any (t : TxnL) (s : TxAt) (w : World) (h : TX w s t) : Calls Tryz.prog 8 #[txV t s] w fun e w' => e = .returned (.tuple #[.string (strL (ptL t)), .int .i64 (ptC t)]) ∧ Bl w w' := by
  cases hv : validT t
  · have e1 : ptL t = [] := by unfold ptL; rw [hv]; rfl
    have e2 : ptC t = 1 := by unfold ptC; rw [hv]; rfl
    rw [e1, e2]
    obtain ⟨o, num, prev, ds, xs, ps⟩ := t
    obtain ⟨da, dn, dc, aa, an, ac, pd, pn, pc⟩ := s
    obtain ⟨hd, hx, hp, _, _, _⟩ := h
    dsimp only at *
    unfold txV
    dsimp only
    have HD := Lib.hid hd
    have HX := Lib.hid hx
    have HP := Lib.hid hp
    have HV := Lib.hid hv
    have hb := (Bl.refl w).alloc (.cells [Value.int .i64 o, .int .i64 num, .int .i64 prev, .slice da dn dc, .slice aa an ac, .slice pd pn pc].toArray 26)
    have hg := AC.new w _ rfl [Value.int .i64 o, .int .i64 num, .int .i64 prev, .slice da dn dc, .slice aa an ac, .slice pd pn pc] 26
    have c0 := hg.cell 0 _ rfl
    have c1 := hg.cell 1 _ rfl
    have c2 := hg.cell 2 _ rfl
    have c3 := hg.cell 3 _ rfl
    have c4 := hg.cell 4 _ rfl
    have c5 := hg.cell 5 _ rfl
    clear hx hp hv hd e1 e2 hg
    go_enter Tryz.func8, Tryz.ntmps8
    go_wp2_with fail
    refine (txValid_hid o num prev da dn dc ds aa an ac xs pd pn pc ps _ (HD.out.keep hb) (HX.out.keep hb) (HP.out.keep hb) false HV).mono ?_
    rintro e W1 ⟨rfl, hb1⟩
    go_wp2_with fail
    go_ret2
    exact ⟨rfl, hb.trans hb1⟩
  · have e1 : ptL t = outT (bodyTx t) := by unfold ptL; rw [hv]; rfl
    have e2 : ptC t = outTC (bodyTx t) := by unfold ptC; rw [hv]; rfl
    rw [e1, e2]
    have hpa := validT_parts hv
    obtain ⟨o, num, prev, ds, xs, ps⟩ := t
    obtain ⟨da, dn, dc, aa, an, ac, pd, pn, pc⟩ := s
    obtain ⟨hd, hx, hp, _, _, _⟩ := h
    dsimp only at *
    have h0 := hpa.o0
    have h1 := hpa.o1
    have hn := hpa.num
    have hpr := hpa.prev
    have hbd := hpa.bound
    have hfew := hpa.few
    have hax := putL_small hpa.deps
    have hfl := flatT_len ps (fun p hp => hpa.fits hp)
    have hhd := headTx_len hpa.deps
    have hpl := hp.len
    have hxl := hx.len
    dsimp only at h0 h1 hn hpr hfew
    obtain ⟨oi, rfl⟩ := Int.eq_ofNat_of_zero_le h0
    have hlt : oi < an := by omega
    obtain ⟨bx, ox, rfl, hcx⟩ := hx.cells oi hlt
    have hcm := hcx oi hlt
    unfold txV
    dsimp only
    have e3 : atT ⟨(oi : Int), num, prev, ds, xs, ps⟩ = nth xs oi := rfl
    rw [e3] at hbd hpr
    have hh : headTx ⟨(oi : Int), num, prev, ds, xs, ps⟩ = numB (oi : Int) 1 ++ (numB num 6 ++ (numB prev 6 ++ (putL ds ++ numB (nth xs oi) 6))) := rfl
    have hval := (valid_parts hpa.at_).2.1
    dsimp only at hval
    refine txPut_hid oi num prev da dn dc ds bx ox an ac xs pd pn pc ps w (Lib.hid hd) (Lib.hid hx) (Lib.hid hp) (by omega) hlt (nth xs oi) (Lib.hid hcm) (Lib.hid fun p hp => hpa.fits hp) (Lib.hid hv) (Lib.hid hpa.deps)
      (strL (numB (oi : Int) 1)) (strL (numB num 6)) (strL (numB prev 6)) (strL (putL ds)) (strL (numB (nth xs oi) 6)) (strL (numB (oi : Int) 1 ++ numB num 6)) (strL ((numB (oi : Int) 1 ++ numB num 6) ++ numB prev 6)) (strL (((numB (oi : Int) 1 ++ numB num 6) ++ numB prev 6) ++ putL ds)) (strL (headTx ⟨(oi : Int), num, prev, ds, xs, ps⟩))
      (Lib.hid ?_) (headTx ⟨(oi : Int), num, prev, ds, xs, ps⟩) (Lib.hid rfl) (Lib.hid rfl) (Lib.hid fun w => tnum1 (oi : Int) w (by omega) (by omega)) (Lib.hid fun w => tnum6 num w (by omega) (by omega)) (Lib.hid fun w => tnum6 prev w (by omega) (by omega)) (Lib.hid fun w => tnum6 (nth xs oi) w (by omega) (by omega)) (bodyTx ⟨(oi : Int), num, prev, ds, xs, ps⟩) (Lib.hid rfl) ?_
    · constructor
      all_goals first | exact strL_app _ _ | (rw [strL_app, hh]; simp only [List.append_assoc]; done) | (refine strL_smallT ?_; (try simp only [List.length_append, numB_len]); dsimp only at hax; omega)
    · unfold bodyTx
      rw [List.length_append]
      dsimp only at hfl hhd ⊢
      omega
end Go.Proofs.YtfmabjoindlfeaaGreat
end

/- a block that is filled anew, cell by cell. By an AI agent. -/
section
namespace Go.Proofs.YtfmabjoindlfeaaGreat
open Go.RowKit

/-- the cells of block g from j on are set anew -/
def fill (w : World) (g : Nat) : Nat → List Value → World
  | _, [] => w
  | j, v :: vs => fill (w.setCell ⟨g, j, none⟩ v) g (j + 1) vs
theorem AC.fillFrom (vs : List Value) : ∀ (w : World) (g j : Nat) (cs ds : List Value), AC w g (ds ++ cs) → ds.length = j → cs.length = vs.length → AC (fill w g j vs) g (ds ++ vs) := by
  induction vs with
  | nil =>
    intro w g j cs ds h _ hl
    obtain rfl : cs = [] := List.eq_nil_of_length_eq_zero hl
    exact h
  | cons v vs ih =>
    intro w g j cs ds h hj hl
    cases cs with
    | nil => cases hl
    | cons c cs =>
      have h1 := h.setj j v
      have e : (ds ++ c :: cs).set j v = (ds ++ [v]) ++ cs := by
        subst hj
        rw [List.set_append_right _ _ (Nat.le_refl _)]
        simp
      rw [e] at h1
      have := ih (w.setCell ⟨g, j, none⟩ v) g (j + 1) cs (ds ++ [v]) h1 (by simp [hj]) (by simpa using hl)
      simpa [fill] using this
theorem AC.fill {w : World} {g : Nat} {cs : List Value} (h : AC w g cs) (vs : List Value) (hl : cs.length = vs.length) : AC (fill w g 0 vs) g vs :=
  AC.fillFrom vs w g 0 cs [] h rfl hl
theorem Bl.fill {w : World} {g : Nat} (hg : w.heap.size ≤ g) (vs : List Value) : ∀ (W : World) (j : Nat), Bl w W → Bl w (fill W g j vs) := by
  induction vs with
  | nil => intro W j h; exact h
  | cons v vs ih => intro W j h; exact ih _ _ (h.setCell (p := ⟨g, j, none⟩) hg v)
theorem FarIA.fill {B : Nat} {a : Option Addr} {n : Nat} {xs : List Int} {q : Nat} (hq : q < B) (vs : List Value) : ∀ (w : World) (j : Nat), FarIA B w a n xs → FarIA B (Go.Proofs.YtfmabjoindlfeaaGreat.fill w q j vs) a n xs := by
  induction vs with
  | nil => intro w j h; exact h
  | cons v vs ih => intro w j h; exact ih _ _ (h.set hq j v)
theorem IA.apart {w : World} {a : Option Addr} {n : Nat} {xs : List Int} (h : IA w a n xs) {q : Nat} (hq : ∀ b off, a = some ⟨b, off, none⟩ → n = 0 ∨ b ≠ q) (j : Nat) (u : Value) : IA (w.setCell ⟨q, j, none⟩ u) a n xs := by
  refine ⟨h.len, h.cap, fun i hi => ?_, h.wf⟩
  obtain ⟨b, off, e, hc⟩ := h.cells i hi
  refine ⟨b, off, e, fun i hi => ?_⟩
  have hne : b ≠ q := by
    have := hq b off e
    omega
  rw [← hc i hi]
  unfold World.cell?
  rw [Below.heap_setCell _ _ _ _ hne]
theorem IA.block {w : World} {a : Option Addr} {n : Nat} {xs : List Int} (h : IA w a n xs) : ∀ b off, a = some ⟨b, off, none⟩ → n = 0 ∨ b < w.heap.size := by
  intro b off e
  by_cases hn : n = 0
  · exact .inl hn
  · obtain ⟨b', off', e', hc⟩ := h.cells 0 (by omega)
    rw [e] at e'
    cases e'
    exact .inr (World.block_lt_of_cell? _ _ (hc 0 (by omega)))
end Go.Proofs.YtfmabjoindlfeaaGreat
end

/- a list of writes cloned. By an AI agent. -/
section
set_option linter.unusedVariables false
set_option linter.unusedSimpArgs false
namespace Go.Proofs.YtfmabjoindlfeaaGreat
open Go.RowKit
attribute [local go_sem] eOp eOper eUpon pOp pOper pUpon

theorem sg_ww {w : World} {a : Option Addr} {n : Nat} {ws : List (ByteArray × ActL)} (h : WW w a n ws) : SG w 5 a n (cellsW ws) := by
  refine ⟨by rw [cellsW_len, h.len], fun ad e j u hu => ?_, fun e => ?_, fun u hu => ?_⟩
  · have hjl : j < n * 5 := by
      have := (List.getElem?_eq_some_iff.1 hu).1
      rwa [cellsW_len, h.len] at this
    have hi : j / 5 < n := by omega
    obtain ⟨b, off, e', hc⟩ := h.cells (j / 5) hi
    rw [e] at e'
    obtain rfl := Option.some.inj e'
    have hg := cellsW_get ws (j / 5) (by rw [h.len]; exact hi) (j % 5) (by omega)
    rw [show j / 5 * 5 + j % 5 = j by omega, hu] at hg
    have hcc := hc (j / 5) hi
    rw [Addr.add_lit, show off + j = off + j / 5 * 5 + j % 5 by omega]
    have hr : j % 5 < 5 := by omega
    generalize j % 5 = r at hg hr
    match r, hr with
    | 0, _ => rw [Nat.add_zero, hcc.c0]; exact hg.symm
    | 1, _ => rw [hcc.c1]; exact hg.symm
    | 2, _ => rw [hcc.c2]; exact hg.symm
    | 3, _ => rw [hcc.c3]; exact hg.symm
    | 4, _ => rw [hcc.c4]; exact hg.symm
  · subst e
    by_cases hn : 0 < n
    · obtain ⟨b, off, e', _⟩ := h.cells 0 hn
      cases e'
    · omega
  · obtain ⟨p, _, hp⟩ := List.mem_flatMap.1 hu
    simp only [writeCs, List.mem_cons, List.not_mem_nil, or_false] at hp
    rcases hp with rfl | rfl | rfl | rfl | rfl <;> rfl
theorem wclone_any (a : Option Addr) (n ca : Nat) (ws : List (ByteArray × ActL)) (w : World) (hx : WW w a n ws) (hn : n ≤ 1000000) :
    Calls Tryz.prog 114 #[.slice a n ca] w fun e w' => ∃ v, e = .returned v ∧ OWR w.heap.size w' v n ws ∧ Bl w w' := by
  have hnil := fun (w : World) => Lib.run_eql_slice_nil w 24 63 a n ca 0 0 Tryz.underlying24
  have HX := Lib.hid hx
  cases a with
  | none =>
    have hn0 : n = 0 := (sg_ww hx).nil rfl
    have hws : ws = [] := List.eq_nil_of_length_eq_zero (hx.len.trans hn0)
    subst hn0 hws
    clear hx
    go_enter Tryz.func114, Tryz.ntmps114
    go_wp2
    go_ret
    exact ⟨_, rfl, OWR.nil _ _, Bl.refl _⟩
  | some ad =>
    have HS := Lib.hid ((sg_ww hx).keep ((Bl.refl w).alloc (.cells #[] 63)))
    clear hx
    go_enter Tryz.func114, Tryz.ntmps114
    go_wp2_with (at_builtin; refine wpList_appG rfl _ _ _ rfl el_wr w.heap.size _ 0 [] rfl (World.ownsRow_lit w #[] 0 (Nat.le_refl _) (by decide) rfl) ?c0 (some ad) n ca _ rfl HS.out ?c1 ?c2 ?_)
    case c0 => simp
    case c1 => unfold maxLen; omega
    case c2 => omega
    intro v' w1 hown' hgrow
    have hb : Bl w w1 := ((Bl.refl w).alloc _).grown hgrow (by simp) (fun k hk => by simp [Value.ownBlock] at hk; omega)
    have HO : Hid (OWR w.heap.size w1 v' n ws) := Lib.hid ⟨HX.out.len, by simpa using hown'⟩
    have HB := Lib.hid hb
    clear hown' hgrow hb
    go_wp2
    go_ret
    exact ⟨_, rfl, HO.out, HB.out⟩
theorem own_less {B B' : Nat} {W : World} {E : TypeId} {z n : Nat} {v : Value} {cs : List Value} (h : W.ownsRow B E z v n cs) (hb : B' ≤ B) : W.ownsRow B' E z v n cs := by
  obtain ⟨h1, h2 | ⟨g, cap, cur, hv, hB, r⟩⟩ := h
  · exact ⟨h1, .inl h2⟩
  · exact ⟨h1, .inr ⟨g, cap, cur, hv, Nat.le_trans hb hB, r⟩⟩
def zTx : List Value := [.int .i64 0, .int .i64 0, .int .i64 0, .slice none 0 0, .slice none 0 0, .slice none 0 0]
end Go.Proofs.YtfmabjoindlfeaaGreat
end
