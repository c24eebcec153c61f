import Derived.Test.YtaelghbjbopilaaGreatQProtoRepliesUptoP21
import Derived.Test.YtaelghbjbopilaaGreatQProtoRepliesUptoP26
import Derived.Test.YtaelghbjbopilaaGreatQProtoRepliesUptoP9
import Derived.Test.YtaelghbjbopilaaGreatQProtoRepliesUptoP3
import Derived.Test.YtaelghbjbopilaaGreatQProtoRepliesUptoP1
import Derived.Test.YtaelghbjbopilaaGreatQProtoRepliesUptoP10
import Derived.Test.YtaelghbjbopilaaGreatQProtoRepliesUptoP20
import Derived.Test.YtaelghbjbopilaaGreatQProtoRepliesUptoP23

/- laws of acts, values and sealed bytes. By an AI agent. -/
section
set_option linter.unusedVariables false
set_option linter.unusedSimpArgs false
namespace Go.Proofs.YtaelghbjbopilaaGreat
open Go.RowKit

theorem rdTake_put (l m : List UInt8) {n : Nat} (h : l.length = n) : rdTake n (l ++ m) = some (l, m) := by
  subst h
  unfold rdTake
  rw [if_pos (by rw [List.length_append]; omega), List.take_left, List.drop_left]
end Go.Proofs.YtaelghbjbopilaaGreat
end

/- ProtoReplies in plain words: an answer is got as it was put; how long its bytes are. By an AI agent. -/
section
set_option linter.unusedVariables false
set_option linter.unusedSimpArgs false
namespace Go.Proofs.YtaelghbjbopilaaGreat
open Go.RowKit

def canonV (v : ValL) : ValL := ⟨v.there, canon v.x, v.n, v.s⟩
theorem canonV_same (v : ValL) : sameV (canonV v) v = true := sameV_of rfl (canon_key v.x) rfl rfl
theorem rdVal_put {v : ValL} (ok : v.Ok) (hs : v.s.size < 4294967296) (m : List UInt8) : rdVal (putVal v ++ m) = some (canonV v, m) := by
  have ht : 0 ≤ thereN v.there ∧ thereN v.there ≤ 1 := by
    cases v.there
    · exact ⟨by decide, by decide⟩
    · exact ⟨by decide, by decide⟩
  have e1 : (256 : Int) ^ 1 = 256 := rfl
  have e : getN (bytesN8 (fkey v.x)) = (fkey v.x : Int) := getN_put8 _ (fkey_lt ok.x)
  unfold putVal
  rw [List.append_assoc, List.append_assoc, List.append_assoc]
  unfold rdVal
  rw [rdNum_put 1 _ _ ht.1 (by omega), Option.bind_some]
  dsimp only
  rw [rdTake_put _ _ (bytesN8_len _), Option.bind_some]
  dsimp only
  rw [e, Int.toNat_natCast, getR_back ok.x, if_pos ⟨rfl, ht.2⟩, rdTake_put _ _ (bytesN8_len _), Option.bind_some]
  dsimp only
  rw [rdText_put _ _ (by simpa using hs), Option.bind_some, back_int ok.n]
  unfold canonV
  have et : decide (thereN v.there = 1) = v.there := by cases v.there <;> rfl
  rw [et]
def canonPr (p : ByteArray × ValL) : ByteArray × ValL := (p.1, canonV p.2)
/-- a pair whose texts are short -/
structure PairS (p : ByteArray × ValL) : Prop where
  ok : p.2.Ok
  key : p.1.size < 4294967296
  s : p.2.s.size < 4294967296
theorem rdPair_put {p : ByteArray × ValL} (h : PairS p) (m : List UInt8) : rdPair (putPair p ++ m) = some (canonPr p, m) := by
  unfold putPair rdPair
  rw [List.append_assoc, rdText_put _ _ (by simpa using h.key), Option.bind_some]
  dsimp only
  rw [rdVal_put h.ok h.s, Option.map_some]
  rfl
theorem rdPairs_put : ∀ (ps : List (ByteArray × ValL)) (m : List UInt8), (∀ p ∈ ps, PairS p) → rdPairs ps.length (ps.flatMap putPair ++ m) = some (ps.map canonPr, m)
  | [], m, _ => rfl
  | p :: ps, m, h => by
    rw [List.flatMap_cons, List.append_assoc]
    show (rdPair _).bind _ = _
    rw [rdPair_put (h p (List.mem_cons_self ..)), Option.bind_some]
    dsimp only
    rw [rdPairs_put ps m (fun q hq => h q (List.mem_cons_of_mem _ hq)), Option.map_some]
    rfl
/-- the bounds that the law's first test gives -/
structure RepS (r : ReplyL) : Prop where
  v : r.val.Ok
  vs : r.val.s.size ≤ 65536
  text : r.text.size ≤ 65536
  few : r.pairs.length ≤ 400
  pairs : ∀ p ∈ r.pairs, p.1.size ≤ 65536 ∧ p.2.s.size ≤ 65536 ∧ p.2.Ok
/-- is an answer one, as far as numbers go? -/
def rightN (r : ReplyL) : Bool := decide (0 ≤ r.code ∧ r.code ≤ 281474976710655) && (decide (0 ≤ r.num ∧ r.num ≤ 281474976710655) && (decide (r.at_ = []) || validL r.at_))
theorem rightN_iff {r : ReplyL} : rightN r = true ↔ (0 ≤ r.code ∧ r.code ≤ 281474976710655) ∧ (0 ≤ r.num ∧ r.num ≤ 281474976710655) ∧ (r.at_ = [] ∨ validL r.at_ = true) := by
  unfold rightN
  simp only [Bool.and_eq_true, Bool.or_eq_true, decide_eq_true_eq]
theorem rightN_R {r : ReplyL} (s : RepS r) (h : rightN r = true) : RightR r 65536 := by
  obtain ⟨h1, h2, h3⟩ := rightN_iff.1 h
  exact ⟨h1, h2, h3, s.v.x, s.v.n, s.vs, s.text, Nat.le_trans s.few (by decide), fun p hp => ⟨(s.pairs p hp).1, (s.pairs p hp).2.2.x, (s.pairs p hp).2.2.n, (s.pairs p hp).2.1⟩⟩
def canonR (r : ReplyL) : ReplyL := ⟨r.code, r.num, r.at_, canonV r.val, r.pairs.map canonPr, r.text⟩
theorem rdReply_put {r : ReplyL} (s : RepS r) (h : rightN r = true) : rdReply (putReplyL r) = some (canonR r) := by
  obtain ⟨h1, h2, h3⟩ := rightN_iff.1 h
  have e6 : (256 : Int) ^ 6 = 281474976710656 := rfl
  have e4 : (256 : Int) ^ 4 = 4294967296 := rfl
  have hvs := s.vs
  have htx := s.text
  have hfw := s.few
  unfold putReplyL putFront
  simp only [List.append_assoc]
  unfold rdReply
  rw [rdNum_put 6 _ _ h1.1 (by omega), Option.bind_some]
  dsimp only
  rw [rdNum_put 6 _ _ h2.1 (by omega), Option.bind_some]
  dsimp only
  rw [rdVec_put _ _ h3, Option.bind_some]
  dsimp only
  rw [rdVal_put s.v (by omega), Option.bind_some]
  dsimp only
  rw [rdText_put _ _ (by simpa using (show r.text.size < 4294967296 by omega)), Option.bind_some]
  dsimp only
  rw [rdNum_put 4 _ _ (by omega) (by omega), Option.bind_some]
  dsimp only
  rw [if_pos (by omega), Int.toNat_natCast]
  have hp := rdPairs_put r.pairs [] (fun p hp => ⟨(s.pairs p hp).2.2, by have := (s.pairs p hp).1; omega, by have := (s.pairs p hp).2.1; omega⟩)
  rw [List.append_nil] at hp
  rw [hp, Option.bind_some]
  dsimp only
  rw [if_pos rfl]
  rfl
/-- are two answers alike? -/
def sameR (a b : ReplyL) : Bool := decide (a.code = b.code) && (decide (a.num = b.num) && (decide (a.at_ = b.at_) && (sameV a.val b.val && (samePs a.pairs b.pairs && decide (a.text = b.text)))))
theorem nthQ_mapR (f : ByteArray × ValL → ByteArray × ValL) {ps : List (ByteArray × ValL)} {j : Nat} (h : j < ps.length) : nthQ (ps.map f) j = f (nthQ ps j) := by
  rw [nthQ_eq (by simpa using h), nthQ_eq h, List.getElem_map]
theorem canonR_same (r : ReplyL) : sameR (canonR r) r = true := by
  unfold sameR canonR
  have : samePs (r.pairs.map canonPr) r.pairs = true := samePs_iff.2 ⟨by simp, fun i hi => by
    rw [List.length_map] at hi
    rw [nthQ_mapR _ hi]
    exact ⟨rfl, canonV_same _⟩⟩
  simp [this, canonV_same]
/-- the bytes of an answer's texts and keys -/
def pairW (p : ByteArray × ValL) : Nat := p.1.size + p.2.s.size
def sumP (ps : List (ByteArray × ValL)) (k : Nat) : Nat := ((ps.take k).map pairW).sum
def weightR (r : ReplyL) : Nat := r.text.size + r.val.s.size + sumP r.pairs r.pairs.length
theorem sumP_succ {ps : List (ByteArray × ValL)} {k : Nat} (hk : k < ps.length) : sumP ps (k + 1) = sumP ps k + pairW (nthQ ps k) := by
  unfold sumP
  rw [List.take_succ_eq_append_getElem hk, List.map_append, List.sum_append, nthQ_eq hk]
  simp
theorem sumP_mem {ps : List (ByteArray × ValL)} {p : ByteArray × ValL} (h : p ∈ ps) : pairW p ≤ sumP ps ps.length := by
  unfold sumP
  rw [List.take_length]
  induction ps with
  | nil => simp at h
  | cons q ps ih =>
    rw [List.map_cons, List.sum_cons]
    rcases List.mem_cons.1 h with rfl | h
    · omega
    · have := ih h; omega
theorem flat_len (ps : List (ByteArray × ValL)) : (ps.flatMap putPair).length = 25 * ps.length + sumP ps ps.length := by
  unfold sumP
  rw [List.take_length]
  induction ps with
  | nil => rfl
  | cons p ps ih =>
    rw [List.flatMap_cons, List.length_append, ih, List.length_cons, List.map_cons, List.sum_cons]
    have h1 : (putPair p).length = 25 + pairW p := by
      unfold putPair putVal pairW
      simp only [List.length_append, numB_len, bytesN8_len, textB_len]
      have a1 : p.1.data.toList.length = p.1.size := by simp
      have a2 : p.2.s.data.toList.length = p.2.s.size := by simp
      omega
    omega
theorem front_len (r : ReplyL) (h : r.at_ = [] ∨ validL r.at_ = true) : (putFront r).length ≤ 120 + r.text.size + r.val.s.size := by
  have h1 := vecS_len r.at_
  unfold putFront putVal vecB
  simp only [List.length_append, numB_len, bytesN8_len, textB_len]
  have a1 : r.text.data.toList.length = r.text.size := by simp
  have a2 : r.val.s.data.toList.length = r.val.s.size := by simp
  omega
theorem light_len {r : ReplyL} (h : rightN r = true) (hw : weightR r ≤ 40000) (hp : r.pairs.length ≤ 300) : (putReplyL r).length ≤ 65536 := by
  have h1 := front_len r (rightN_iff.1 h).2.2
  have h2 := flat_len r.pairs
  unfold putReplyL
  unfold weightR at hw
  rw [List.length_append]
  omega
end Go.Proofs.YtaelghbjbopilaaGreat
end

/- proto.PutReply of any answer with texts that are no longer than its limit (printed by gen/repput.py out of Reply4). By an AI agent. -/
section
set_option linter.unusedVariables false
set_option linter.unusedSimpArgs false
namespace Go.Proofs.YtaelghbjbopilaaGreat
open Go.RowKit
attribute [local go_sem] eOp eOper eUpon

theorem putPair_len (p : ByteArray × ValL) : (putPair p).length = 25 + pairW p := by
  unfold putPair putVal pairW
  simp only [List.length_append, numB_len, bytesN8_len, textB_len]
  have a1 : p.1.data.toList.length = p.1.size := by simp
  have a2 : p.2.s.data.toList.length = p.2.s.size := by simp
  omega
set_option maxHeartbeats 3200000 in
set_option maxRecDepth 100000 in
theorem putReplyG_hid (code num : Int) (ad : Option Addr) (n ca : Nat) (xs : List Int) (t : Bool) (x : Nat) (m : Int) (s : ByteArray) (pd : Option Addr) (pn pc : Nat) (ps : List (ByteArray × ValL)) (text : ByteArray) (w : World) (hx : Hid (IA w ad n xs)) (hp : Hid (PA w pd pn ps))
    (HR : Hid (∀ w, IA w ad n xs → PA w pd pn ps → Calls Tryz.prog 22 #[.agg #[.int .i64 code, .int .i64 num, .slice ad n ca, .bool t, .float .f64 x, .int .i64 m, .string s, .slice pd pn pc, .string text]] w fun e w' => e = .returned (.bool true) ∧ Bl w w'))
    (q1 q2 q3 q4 q5 q6 p2 p3 p4 p5 p6 : ByteArray) (N : Hid (Six q1 q2 q3 q4 q5 q6 p2 p3 p4 p5 p6)) (lf : List UInt8) (hlf : Hid (p6.data.toList = lf))
    (hps : Hid (∀ p ∈ ps, PairOk p 70000)) (hfr : Hid (lf.length ≤ 65536)) (R : Value) (HRS : Hid ((lf.length + (ps.flatMap putPair).length ≤ 65536 → R = .tuple #[.string (strL (lf ++ ps.flatMap putPair)), .int .i64 0]) ∧ (65536 < lf.length + (ps.flatMap putPair).length → R = .tuple #[.string ⟨#[]⟩, .int .i64 2])))
    (C1 : Hid (∀ w, Calls Tryz.prog 24 #[.int .i64 code, .int .i64 6] w fun e w' => e = .returned (.string q1) ∧ Bl w w'))
    (C2 : Hid (∀ w, Calls Tryz.prog 24 #[.int .i64 num, .int .i64 6] w fun e w' => e = .returned (.string q2) ∧ Bl w w'))
    (C3 : Hid (∀ w, IA w ad n xs → Calls Tryz.prog 25 #[.slice ad n ca] w fun e w' => e = .returned (.string q3) ∧ Bl w w'))
    (C4 : Hid (∀ w, Calls Tryz.prog 26 #[.agg #[.bool t, .float .f64 x, .int .i64 m, .string s]] w fun e w' => e = .returned (.string q4) ∧ Bl w w'))
    (C5 : Hid (∀ w, Calls Tryz.prog 27 #[.string text] w fun e w' => e = .returned (.string q5) ∧ Bl w w'))
    (C6 : Hid (∀ w, Calls Tryz.prog 24 #[.int .i64 (pn : Int), .int .i64 4] w fun e w' => e = .returned (.string q6) ∧ Bl w w')) :
    Calls Tryz.prog 7 #[.agg #[.int .i64 code, .int .i64 num, .slice ad n ca, .bool t, .float .f64 x, .int .i64 m, .string s, .slice pd pn pc, .string text]] w fun e w' => e = .returned R ∧ Bl w w' := by
  have hpn := hp.out.cap
  have hsf := store_float
  have hb := (Bl.refl w).alloc (.cells (repCs code num ad n ca t x m s pd pn pc text).toArray 30)
  have hg := AC.new w _ rfl (repCs code num ad n ca t x m s pd pn pc text) 30
  obtain ⟨c0, c1, c2, c3, c4, c5, c6, c7, c8⟩ := AC.rep hg
  unfold repCs at hg hb c0 c1 c2 c3 c4 c5 c6 c7 c8
  go_enter Tryz.func7, Tryz.ntmps7
  go_wp2_with fail
  generalize w.alloc _ = W at *
  refine (HR.out _ (hx.out.keep hb) (hp.out.keep hb)).mono ?_
  rintro e W1 ⟨rfl, hb1⟩
  have HB := Lib.hid (hb.trans hb1)
  have HG := Lib.hid (hg.keep hb1)
  clear hb hb1 hg c0 c1 c2 c3 c4 c5 c6 c7 c8
  go_upto_region 4 with fail
  have hbi := BI.new W1
  have hbl0 : Bl W1 ((W1.alloc (.cells #[.pointer none, .slice none 0 0] 80)).drew) := ((Bl.refl W1).alloc _).drew
  have HI := Lib.hid (hbi.keep ((Bl.refl _).drew))
  clear hbi
  refine wp_region_extC (Bl W1) (fun _ _ h k => h.trans k) hbl0 24 1 (by kernel_rfl) rfl (by kernel_rfl) (by kernel_rfl) ?_
  generalize hWD : (W1.alloc (.cells #[.pointer none, .slice none 0 0] 80)).drew = WD at *
  have HBD := Lib.hid hbl0
  have HWD := Lib.hid hWD
  clear hbl0 hWD
  generalize hgb : W1.heap.size = gb at *
  have HGB := Lib.hid hgb
  clear hgb
  simp only [List.take_succ_cons, List.take_zero]
  have c0 : ∀ q : ExtC (Bl W1), _ := fun q => (HG.out.keep q.ok).rep.1
  have c1 : ∀ q : ExtC (Bl W1), _ := fun q => (HG.out.keep q.ok).rep.2.1
  have c2 : ∀ q : ExtC (Bl W1), _ := fun q => (HG.out.keep q.ok).rep.2.2.1
  have c3 : ∀ q : ExtC (Bl W1), _ := fun q => (HG.out.keep q.ok).rep.2.2.2.1
  have c4 : ∀ q : ExtC (Bl W1), _ := fun q => (HG.out.keep q.ok).rep.2.2.2.2.1
  have c5 : ∀ q : ExtC (Bl W1), _ := fun q => (HG.out.keep q.ok).rep.2.2.2.2.2.1
  have c6 : ∀ q : ExtC (Bl W1), _ := fun q => (HG.out.keep q.ok).rep.2.2.2.2.2.2.1
  have c7 : ∀ q : ExtC (Bl W1), _ := fun q => (HG.out.keep q.ok).rep.2.2.2.2.2.2.2.1
  have c8 : ∀ q : ExtC (Bl W1), _ := fun q => (HG.out.keep q.ok).rep.2.2.2.2.2.2.2.2
  have C3' := Lib.hid (fun q : ExtC (Bl W1) => C3.out q.at (hx.out.keep (HB.out.trans q.ok)))
  have e2 := N.out.e2
  have z2 := N.out.z2
  have y2 := N.out.y2
  have e3 := N.out.e3
  have z3 := N.out.z3
  have y3 := N.out.y3
  have e4 := N.out.e4
  have z4 := N.out.z4
  have y4 := N.out.y4
  have e5 := N.out.e5
  have z5 := N.out.z5
  have y5 := N.out.y5
  have e6 := N.out.e6
  have y6 := N.out.y6
  have y1 := N.out.y1
  have s2_ : (9223372036854775807 < q1.size + q2.size) = False := eq_false (by omega)
  have s3_ : (9223372036854775807 < p2.size + q3.size) = False := eq_false (by omega)
  have s4_ : (9223372036854775807 < p3.size + q4.size) = False := eq_false (by omega)
  have s5_ : (9223372036854775807 < p4.size + q5.size) = False := eq_false (by omega)
  have s6_ : (9223372036854775807 < p5.size + q6.size) = False := eq_false (by omega)
  clear z2 y2 z3 y3 z4 y4 z5 y5 y6 y1
  repeat (refine wpE_step (fun K hK => ?_); go_simp; first | (refine hK _ ?_; clear hK K) | (apply Exists.intro; refine ⟨fun q => ?_, hK _ ?_⟩; (first | with_reducible exact C1.out _ | with_reducible exact C2.out _ | with_reducible exact C4.out _ | with_reducible exact C5.out _ | with_reducible exact C6.out _ | with_reducible exact C3'.out q); clear hK K))
  refine wpE_nil ?_
  clear c0 c1 c2 c3 c4 c5 c6 c7 c8 e2 e3 e4 e5 e6 s2_ s3_ s4_ s5_ s6_
  refine wpAnyE_one (i := 24) (by kernel_rfl) ?_
  intro W2 hb2
  go_simp
  have hl1 : lf.length ≤ 65536 := hfr.out
  have hbD := HBD.out.trans hb2
  refine (bi_writeString gb gb [] p6 lf hlf.out W2 (HI.out.keep hb2) (by simp; omega) (by rw [← HGB.out]; exact hbD.size)).mono ?_
  rintro e W3 ⟨rfl, hbi3, hb3⟩
  have hb13 : Bl W1 W3 := by
    rw [← HGB.out] at hb3
    exact Below.trans hbD hb3
  refine ⟨_, rfl, hb13, ?_⟩
  refine wpAnyE_done (by kernel_rfl) ?_
  intro W4 hb4
  have HBI := Lib.hid (hbi3.keep hb4)
  have HB14 := Lib.hid (hb13.trans hb4)
  clear hb13 hbi3 hb4 hb3 hbD HI HBD HWD hb2
  have c7 := (HG.out.keep HB14.out).rep.2.2.2.2.2.2.2.1
  go_wp2_with fail
  clear c7
  go_loopw [38] (fun i wr => ∃ (k : Nat) (l : List UInt8), k ≤ pn ∧ i = .int .i64 k ∧ BI gb gb l wr ∧ Bl W1 wr ∧ l = lf ++ (ps.take k).flatMap putPair ∧ l.length ≤ 65536) (fun i _ => pn - (intOf i).toNat)
  case atStart => exact ⟨0, _, Nat.zero_le _, rfl, HBI.out, HB14.out, by simp, by simpa using hfr.out⟩
  case round =>
    clear HBI HB14
    obtain ⟨k, l, hk, rfl, hbi, hbl, hl, hll⟩ := hrel
    have HL := Lib.hid hl
    have HI := Lib.hid hbi
    have HBL := Lib.hid hbl
    clear hl hbi hbl
    by_cases hlt : k < pn
    · have hkl : k < ps.length := by rw [hp.out.len]; exact hlt
      obtain ⟨ba, oa, rfl, _⟩ := hp.out.cells k hlt
      obtain ⟨c0, c1, c2, c3, c4⟩ := hp.out.get (HB.out.trans HBL.out) hlt
      have HM := Lib.hid (hps.out _ (nthQ_mem hkl))
      have HTK := Lib.hid (flat_take_succ ps hkl)
      have hl2 : (l ++ putPair (nthQ ps k)).length ≤ 300000 := by
        have o := hps.out _ (nthQ_mem hkl)
        have h1 := o.key
        have h2 := o.s
        rw [List.length_append, putPair_len]
        unfold pairW
        omega
      have HTL : Hid ((l ++ putPair (nthQ ps k)).length ≤ lf.length + (ps.flatMap putPair).length) := Lib.hid (by
        have h1 := flat_take_len ps (k + 1)
        rw [HL.out, List.append_assoc, ← HTK.out, List.length_append]; omega)
      have HL2 := Lib.hid hl2
      clear hl2 hkl
      generalize nthQ ps k = p at *
      obtain ⟨key, ⟨pt, px, pm, pz⟩⟩ := p
      have HT := Lib.hid (fun w => textS_any key w HM.out.key)
      have HV := Lib.hid (fun w => value_any ⟨pt, px, pm, pz⟩ w HM.out.x HM.out.n HM.out.s)
      have HS := Lib.hid (pair_sizes HM.out)
      have HE : Hid (strL (textB key.data.toList) ++ strL (putVal ⟨pt, px, pm, pz⟩) = strL (putPair (key, ⟨pt, px, pm, pz⟩))) := Lib.hid (by rw [strL_app]; rfl)
      dsimp only at c0 c1 c2 c3 c4 HV HT HS HE
      generalize strL (textB key.data.toList) = qa at *
      generalize strL (putVal ⟨pt, px, pm, pz⟩) = qb at *
      go_upto_region 8 with fail
      have hFar := Far.new HI.out (.cells #[.string key, .bool pt, .float .f64 px, .int .i64 pm, .string pz] 52)
      have hbw := (Bl.refl wr).alloc (.cells #[.string key, .bool pt, .float .f64 px, .int .i64 pm, .string pz] 52)
      have hgp := AC.new wr _ rfl [.string key, .bool pt, .float .f64 px, .int .i64 pm, .string pz] 52
      have hne : wr.heap.size ≠ gb := Nat.ne_of_gt HI.out.lt
      have hi1 := HI.out.keep hbw
      have HFR := Lib.hid (hFar.keep hi1 ((Bl.refl _).drew))
      have HI1 := Lib.hid (hi1.keep ((Bl.refl _).drew))
      have HBD := Lib.hid ((HBL.out.trans hbw).drew)
      have HGP := Lib.hid (hgp.keep ((Bl.refl _).drew))
      clear hi1 hFar hbw hgp c0 c1 c2 c3 c4
      generalize hgpe : wr.heap.size = gp at *
      clear hgpe
      refine wp_region_extC (WithBox W1 gp [.string key, .bool pt, .float .f64 px, .int .i64 pm, .string pz]) WithBox.keep ⟨HBD.out, HGP.out⟩ 7 1 (by kernel_rfl) rfl (by kernel_rfl) (by kernel_rfl) ?_
      generalize (wr.alloc (.cells #[.string key, .bool pt, .float .f64 px, .int .i64 pm, .string pz] 52)).drew = WD at *
      simp only [List.take_succ_cons, List.take_zero]
      haveI : Nonempty (ExtC (WithBox W1 gp [.string key, .bool pt, .float .f64 px, .int .i64 pm, .string pz])) := ⟨⟨WD, HBD.out, HGP.out⟩⟩
      have d0 : ∀ q : ExtC (WithBox W1 gp [.string key, .bool pt, .float .f64 px, .int .i64 pm, .string pz]), _ := fun q => q.ok.2.cell 0 _ rfl
      have d1 : ∀ q : ExtC (WithBox W1 gp [.string key, .bool pt, .float .f64 px, .int .i64 pm, .string pz]), _ := fun q => q.ok.2.cell 1 _ rfl
      have d2 : ∀ q : ExtC (WithBox W1 gp [.string key, .bool pt, .float .f64 px, .int .i64 pm, .string pz]), _ := fun q => q.ok.2.cell 2 _ rfl
      have d3 : ∀ q : ExtC (WithBox W1 gp [.string key, .bool pt, .float .f64 px, .int .i64 pm, .string pz]), _ := fun q => q.ok.2.cell 3 _ rfl
      have d4 : ∀ q : ExtC (WithBox W1 gp [.string key, .bool pt, .float .f64 px, .int .i64 pm, .string pz]), _ := fun q => q.ok.2.cell 4 _ rfl
      have sab : (9223372036854775807 < qa.size + qb.size) = False := eq_false (by have := HS.out; omega)
      repeat (refine wpE_step (fun K hK => ?_); go_simp; first | (refine hK _ ?_; clear hK K) | (apply Exists.intro; refine ⟨fun q => ?_, hK _ ?_⟩; (first | with_reducible exact HT.out _ | with_reducible exact HV.out _); clear hK K))
      refine wpE_nil ?_
      clear d0 d1 d2 d3 d4 sab
      refine wpAnyE_one (i := 7) (by kernel_rfl) ?_
      intro W5 hb5
      go_simp
      rw [HE.out]
      refine (bi_writeFar gb gb l _ (putPair (key, ⟨pt, px, pm, pz⟩)) rfl W5 (HI1.out.keep hb5) (by have := HL2.out; rw [List.length_append] at this; show l.length + (putPair _).length ≤ _; omega) (by rw [← HGB.out]; exact (HBD.out.trans hb5).size) gp _ (HGP.out.keep hb5) hne (HFR.out.keep HI1.out hb5)).mono ?_
      rintro e W6 ⟨rfl, hbi6, hb6, hgp6⟩
      have hb16 : Bl W1 W6 := by
        rw [← HGB.out] at hb6
        exact Below.trans (HBD.out.trans hb5) hb6
      refine ⟨_, rfl, ⟨hb16, hgp6⟩, ?_⟩
      refine wpAnyE_done (by kernel_rfl) ?_
      intro W7 hb7
      have HBI := Lib.hid (hbi6.keep hb7)
      have HB17 := Lib.hid (hb16.trans hb7)
      clear hb16 hbi6 hb6 hb7 hgp6 hb5 HI1 HGP HBD HFR
      go_wp2_with fail
      refine (Tryz.Builder_Len gb gb _ _ HBI.out).mono ?_
      rintro e W8 ⟨rfl, rfl⟩
      rw [byteCells_len]
      have hbl := HL2.out
      generalize hLL : (l ++ putPair (key, ⟨pt, px, pm, pz⟩)).length = LL at *
      have HLL := Lib.hid hLL
      clear hLL
      by_cases hq : LL ≤ 65536
      · have hq1 : decide ((65536 : Int) < (LL : Int)) = false := decide_eq_false (by omega)
        have hq2 : decide (65536 < LL) = false := decide_eq_false (by omega)
        have HQ := Lib.hid hq
        clear hbl hq
        go_wp2_with fail
        go_roundw
        case rel => exact ⟨k + 1, _, by omega, by go_num, HBI.out, HB17.out, by rw [HTK.out, HL.out, List.append_assoc], by rw [HLL.out]; exact HQ.out⟩
        case measure => simp [intOf]; omega
      · have hq1 : decide ((65536 : Int) < (LL : Int)) = true := decide_eq_true (by omega)
        have hq2 : decide (65536 < LL) = true := decide_eq_true (by omega)
        have HQ : Hid (65536 < lf.length + (ps.flatMap putPair).length) := Lib.hid (by have := HTL.out; have := HLL.out; omega)
        have HRR := Lib.hid (HRS.out.2 HQ.out)
        clear hbl hq HTL
        go_wp2_with fail
        refine (Tryz.Builder_Len gb gb _ _ HBI.out).mono ?_
        rintro e W8 ⟨rfl, rfl⟩
        rw [byteCells_len, HLL.out]
        go_wp2_with fail
        go_ret2
        exact ⟨by rw [HRR.out]; rfl, HB.out.trans HB17.out⟩
    · have hkp : k = pn := by omega
      subst hkp
      have hfin : l = lf ++ ps.flatMap putPair := by rw [HL.out, List.take_of_length_le (by rw [hp.out.len]; exact Nat.le_refl _)]
      have HF := Lib.hid hfin
      have HRR := Lib.hid (HRS.out.1 (by rw [← List.length_append, ← hfin]; exact hll))
      clear hfin
      go_wp2_with fail
      refine (Tryz.Builder_Len gb gb _ _ HI.out).mono ?_
      rintro e W8 ⟨rfl, rfl⟩
      rw [byteCells_len]
      generalize hLL : l.length = LL at *
      have HLL := Lib.hid hLL
      clear hLL
      have hq1 : decide ((65536 : Int) < (LL : Int)) = false := decide_eq_false (by omega)
      have hq2 : decide (65536 < LL) = false := decide_eq_false (by omega)
      clear hll
      go_wp2_with fail
      refine (Tryz.Builder_String_any gb gb l _ HI.out (by rw [← HGB.out]; exact HBL.out.size)).mono ?_
      rintro e w4 ⟨rfl, hb4⟩
      go_wp2_with fail
      go_ret2
      have hb4' : Bl W1 w4 := by
        rw [← HGB.out] at hb4
        exact Below.trans HBL.out hb4
      exact ⟨by rw [HRR.out, ← HF.out]; rfl, HB.out.trans hb4'⟩
def prS (r : ReplyL) : ByteArray := if (putReplyL r).length ≤ 65536 then strL (putReplyL r) else ⟨#[]⟩
def prC (r : ReplyL) : Int := if (putReplyL r).length ≤ 65536 then 0 else 2
theorem putReplyG_any (r : ReplyL) (ad : Option Addr) (n ca : Nat) (pd : Option Addr) (pn pc : Nat) (w : World) (ok : RepOk w r ad n pd pn) (s : RepS r) (h : rightN r = true) (hw : r.text.size + r.val.s.size ≤ 60000) :
    Calls Tryz.prog 7 #[repV r.code r.num ad n ca r.val.there r.val.x r.val.n r.val.s pd pn pc r.text] w fun e w' => e = .returned (.tuple #[.string (prS r), .int .i64 (prC r)]) ∧ Bl w w' := by
  have hr := rightN_R s h
  have h1 := vecS_len r.at_
  have h3 := putVal_len r.val
  have hv := hr.vs
  have ht := hr.text
  have h4 : r.text.data.toList.length = r.text.size := by simp
  have hpn := ok.p.cap
  have epn : r.pairs.length = pn := ok.p.len
  have ef : putFront r = ((((numB r.code 6 ++ numB r.num 6) ++ vecB r.at_) ++ putVal r.val) ++ textB r.text.data.toList) ++ numB (pn : Int) 4 := by unfold putFront; rw [epn]; simp only [List.append_assoc]
  have hfl := front_len r (rightN_iff.1 h).2.2
  have htot : (putReplyL r).length = (putFront r).length + (r.pairs.flatMap putPair).length := by unfold putReplyL; rw [List.length_append]
  have H := putReplyG_hid r.code r.num ad n ca r.at_ r.val.there r.val.x r.val.n r.val.s pd pn pc r.pairs r.text w (Lib.hid ok.x) (Lib.hid ok.p) (Lib.hid fun w hx hp => pright_any r ad n ca pd pn pc w ⟨hx, hp⟩ hr (Nat.le_refl _))
    (strL (numB r.code 6)) (strL (numB r.num 6)) (strL (vecB r.at_)) (strL (putVal r.val)) (strL (textB r.text.data.toList)) (strL (numB (pn : Int) 4))
    (strL (numB r.code 6 ++ numB r.num 6)) (strL ((numB r.code 6 ++ numB r.num 6) ++ vecB r.at_)) (strL (((numB r.code 6 ++ numB r.num 6) ++ vecB r.at_) ++ putVal r.val)) (strL ((((numB r.code 6 ++ numB r.num 6) ++ vecB r.at_) ++ putVal r.val) ++ textB r.text.data.toList)) (strL (putFront r))
    (Lib.hid ?_) (putFront r) (Lib.hid rfl) (Lib.hid fun p hp => ?_) (Lib.hid (by omega)) (.tuple #[.string (prS r), .int .i64 (prC r)]) (Lib.hid ⟨fun q => ?_, fun q => ?_⟩) (Lib.hid fun w => num6_any r.code w hr.code) (Lib.hid fun w => num6_any r.num w hr.num) (Lib.hid fun w hx => vector_any ad n ca r.at_ w hx) (Lib.hid fun w => value_any r.val w hr.vx hr.vn (by omega))
    (Lib.hid fun w => textS_any r.text w (by omega)) (Lib.hid fun w => num4_any pn w (by omega))
  · exact H
  · constructor
    all_goals first | exact strL_app _ _ | (rw [ef]; exact strL_app _ _) | (refine strL_small4 ?_; (try simp only [List.length_append, numB_len, textB_len, vecB]); omega)
  · have o := hr.pairs p hp
    exact ⟨by have := o.key; omega, o.x, o.n, by have := o.s; omega⟩
  · unfold prS prC
    rw [if_pos (by omega), if_pos (by omega)]
    rfl
  · unfold prS prC
    rw [if_neg (by omega), if_neg (by omega)]
/-- of an answer whose numbers cannot be nothing is put -/
theorem putReply_no (r : ReplyL) (ad : Option Addr) (n ca : Nat) (pd : Option Addr) (pn pc : Nat) (w : World) (H : Hid (∀ w', Bl w w' → Calls Tryz.prog 22 #[repV r.code r.num ad n ca r.val.there r.val.x r.val.n r.val.s pd pn pc r.text] w' fun e w'' => e = .returned (.bool false) ∧ Bl w' w'')) :
    Calls Tryz.prog 7 #[repV r.code r.num ad n ca r.val.there r.val.x r.val.n r.val.s pd pn pc r.text] w fun e w' => e = .returned (.tuple #[.string ⟨#[]⟩, .int .i64 1]) ∧ Bl w w' := by
  have hsf := store_float
  have hb := (Bl.refl w).alloc (.cells (repCs r.code r.num ad n ca r.val.there r.val.x r.val.n r.val.s pd pn pc r.text).toArray 30)
  have hg := AC.new w _ rfl (repCs r.code r.num ad n ca r.val.there r.val.x r.val.n r.val.s pd pn pc r.text) 30
  obtain ⟨c0, c1, c2, c3, c4, c5, c6, c7, c8⟩ := AC.rep hg
  unfold repCs at hg hb c0 c1 c2 c3 c4 c5 c6 c7 c8
  unfold repV at H ⊢
  go_enter Tryz.func7, Tryz.ntmps7
  go_wp2_with fail
  refine (H.out _ hb).mono ?_
  rintro e W1 ⟨rfl, hb1⟩
  go_wp2_with fail
  go_ret2
  exact ⟨rfl, hb.trans hb1⟩
end Go.Proofs.YtaelghbjbopilaaGreat
end
