/- answers in bytes: plain definitions and laws. By an AI agent. -/
import Derived.Test.YtechiehbigmjbaaProt9
set_option linter.unusedVariables false
set_option linter.unusedSimpArgs false
namespace Go.Proofs.Ytechiehbigmjbaa
open Go.RowKit

/-! ### values -/
def thereN (b : Bool) : Int := if b then 1 else 0
def putVal (v : ValL) : List UInt8 := numB (thereN v.there) 1 ++ (bytesN8 (fkey v.x) ++ (bytesN8 (v.n % 18446744073709551616).toNat ++ textB v.s.data.toList))
def rdVal (l : List UInt8) : Option (ValL × List UInt8) :=
  (rdNum 1 l).bind fun p1 => (rdTake 8 p1.2).bind fun p2 => if (getR (getN p2.1).toNat).2 = 0 ∧ p1.1 ≤ 1 then
    (rdTake 8 p2.2).bind fun p3 => (rdText p3.2).bind fun p4 => some (⟨decide (p1.1 = 1), (getR (getN p2.1).toNat).1, wrap64 (getN p3.1), ⟨p4.1.toArray⟩⟩, p4.2) else none
theorem rdTake_len {n : Nat} {l t m : List UInt8} (h : rdTake n l = some (t, m)) : m.length ≤ l.length ∧ t.length ≤ l.length := by
  obtain ⟨e, -⟩ := rdTake_back h
  rw [e, List.length_append]; omega
theorem rdText_len {l t m : List UInt8} (h : rdText l = some (t, m)) : m.length ≤ l.length ∧ t.length ≤ l.length := by
  have e := rdText_back h
  rw [e, List.length_append, textB_len]; omega
theorem rdNum_len {n : Nat} {l m : List UInt8} {x : Int} (h : rdNum n l = some (x, m)) : m.length ≤ l.length := by
  obtain ⟨e, -⟩ := rdNum_back h
  rw [e, List.length_append]; omega
theorem rdVec_len {l m : List UInt8} {xs : List Int} (h : rdVec l = some (xs, m)) : m.length ≤ l.length := by
  obtain ⟨e, -⟩ := rdVec_back h
  rw [e, List.length_append]; omega
theorem rdVal_back {l m : List UInt8} {v : ValL} (h : rdVal l = some (v, m)) : l = putVal v ++ m ∧ v.x < two64 ∧ (-9223372036854775808 ≤ v.n ∧ v.n ≤ 9223372036854775807) ∧ v.s.size ≤ l.length ∧ m.length ≤ l.length := by
  unfold rdVal at h
  obtain ⟨p1, h1, h⟩ := Option.bind_eq_some_iff.1 h
  obtain ⟨p2, h2, h⟩ := Option.bind_eq_some_iff.1 h
  split at h
  · rename_i hc
    obtain ⟨p3, h3, h⟩ := Option.bind_eq_some_iff.1 h
    obtain ⟨p4, h4, h⟩ := Option.bind_eq_some_iff.1 h
    simp only [Option.some.injEq, Prod.mk.injEq] at h
    obtain ⟨rfl, rfl⟩ := h
    obtain ⟨e1, n0, n1⟩ := rdNum_back (x := p1.1) (m := p1.2) h1
    obtain ⟨e2, l2⟩ := rdTake_back (t := p2.1) (m := p2.2) h2
    obtain ⟨e3, l3⟩ := rdTake_back (t := p3.1) (m := p3.2) h3
    have e4 := rdText_back (t := p4.1) (m := p4.2) h4
    have k1 := rdNum_len (x := p1.1) (m := p1.2) h1
    have k2 := rdTake_len (t := p2.1) (m := p2.2) h2
    have k3 := rdTake_len (t := p3.1) (m := p3.2) h3
    have k4 := rdText_len (t := p4.1) (m := p4.2) h4
    refine ⟨?_, gR_lt (gN_lt8 l2).2, wrap64_bds _, ?_, by omega⟩
    · unfold putVal
      dsimp only
      rw [bytes_gR l2 hc.1, bytes_wrap8 l3]
      have et : thereN (decide (p1.1 = 1)) = p1.1 := by
        unfold thereN
        by_cases q : p1.1 = 1
        · rw [decide_eq_true q, q]; rfl
        · rw [decide_eq_false q]; have := hc.2; show (0 : Int) = _; omega
      rw [et, e1, e2, e3, e4]
      simp only [List.append_assoc]
    · show (⟨p4.1.toArray⟩ : ByteArray).size ≤ _
      rw [(SB.mk p4.1).size]; omega
  · cases h
/-! ### pairs -/
def putPair (p : ByteArray × ValL) : List UInt8 := textB p.1.data.toList ++ putVal p.2
def rdPair (l : List UInt8) : Option ((ByteArray × ValL) × List UInt8) := (rdText l).bind fun p => (rdVal p.2).map fun q => ((⟨p.1.toArray⟩, q.1), q.2)
def rdPairs : Nat → List UInt8 → Option (List (ByteArray × ValL) × List UInt8)
  | 0, l => some ([], l)
  | n + 1, l => (rdPair l).bind fun p => (rdPairs n p.2).map fun q => (p.1 :: q.1, q.2)
/-- a pair that is data -/
structure PairOk (p : ByteArray × ValL) (z : Nat) : Prop where
  key : p.1.size ≤ z
  x : p.2.x < two64
  n : -9223372036854775808 ≤ p.2.n ∧ p.2.n ≤ 9223372036854775807
  s : p.2.s.size ≤ z
theorem rdPair_back {l m : List UInt8} {p : ByteArray × ValL} (h : rdPair l = some (p, m)) : l = putPair p ++ m ∧ PairOk p l.length ∧ m.length + 25 ≤ l.length := by
  unfold rdPair at h
  obtain ⟨t, h1, h⟩ := Option.bind_eq_some_iff.1 h
  obtain ⟨q, h2, h⟩ := Option.map_eq_some_iff.1 h
  simp only [Prod.mk.injEq] at h
  obtain ⟨rfl, rfl⟩ := h
  have e1 := rdText_back (t := t.1) (m := t.2) h1
  have k1 := rdText_len (t := t.1) (m := t.2) h1
  obtain ⟨e2, hx, hn, hs, k2⟩ := rdVal_back (v := q.1) (m := q.2) h2
  refine ⟨?_, ⟨?_, hx, hn, by show q.1.s.size ≤ _; omega⟩, ?_⟩
  · unfold putPair
    rw [e1, e2, List.append_assoc]
  · show (⟨t.1.toArray⟩ : ByteArray).size ≤ _
    rw [(SB.mk t.1).size]; omega
  · have := congrArg List.length e1
    have h3 := congrArg List.length e2
    rw [List.length_append, textB_len] at this
    unfold putVal at h3
    simp only [List.length_append, numB_len, bytesN8_len, textB_len] at h3
    omega
theorem rdPairs_back : ∀ (n : Nat) (l m : List UInt8) (ps : List (ByteArray × ValL)), rdPairs n l = some (ps, m) → l = ps.flatMap putPair ++ m ∧ ps.length = n ∧ (∀ p ∈ ps, PairOk p l.length) ∧ m.length ≤ l.length
  | 0, l, m, ps, h => by
    simp only [rdPairs, Option.some.injEq, Prod.mk.injEq] at h
    obtain ⟨rfl, rfl⟩ := h
    exact ⟨rfl, rfl, fun p h => by simp at h, Nat.le_refl _⟩
  | n + 1, l, m, ps, h => by
    unfold rdPairs at h
    obtain ⟨p, h1, h⟩ := Option.bind_eq_some_iff.1 h
    obtain ⟨q, h2, h⟩ := Option.map_eq_some_iff.1 h
    simp only [Prod.mk.injEq] at h
    obtain ⟨rfl, rfl⟩ := h
    obtain ⟨e1, ok1, k1⟩ := rdPair_back (p := p.1) (m := p.2) h1
    obtain ⟨e2, e3, ok2, k2⟩ := rdPairs_back n p.2 q.2 q.1 h2
    refine ⟨?_, by simp [e3], ?_, by omega⟩
    · rw [List.flatMap_cons, List.append_assoc, ← e2, ← e1]
    · intro x hx
      rcases List.mem_cons.1 hx with rfl | hx
      · exact ok1
      · have o := ok2 x hx
        exact ⟨by have := o.key; omega, o.x, o.n, by have := o.s; omega⟩
/-! ### answers -/
structure ReplyL where
  code : Int
  num : Int
  at_ : List Int
  val : ValL
  pairs : List (ByteArray × ValL)
  text : ByteArray
def putFront (r : ReplyL) : List UInt8 := numB r.code 6 ++ (numB r.num 6 ++ (vecB r.at_ ++ (putVal r.val ++ (textB r.text.data.toList ++ numB (r.pairs.length : Int) 4))))
def putReplyL (r : ReplyL) : List UInt8 := putFront r ++ r.pairs.flatMap putPair
def rdReply (l : List UInt8) : Option ReplyL :=
  (rdNum 6 l).bind fun p1 => (rdNum 6 p1.2).bind fun p2 => (rdVec p2.2).bind fun p3 => (rdVal p3.2).bind fun p4 => (rdText p4.2).bind fun p5 => (rdNum 4 p5.2).bind fun p6 =>
    if p6.1 ≤ 10000 then (rdPairs p6.1.toNat p6.2).bind fun p7 => if p7.2 = [] then some ⟨p1.1, p2.1, p3.1, p4.1, p7.1, ⟨p5.1.toArray⟩⟩ else none else none
/-- an answer that can be -/
structure RightR (r : ReplyL) (z : Nat) : Prop where
  code : 0 ≤ r.code ∧ r.code ≤ 281474976710655
  num : 0 ≤ r.num ∧ r.num ≤ 281474976710655
  at_ : r.at_ = [] ∨ validL r.at_ = true
  vx : r.val.x < two64
  vn : -9223372036854775808 ≤ r.val.n ∧ r.val.n ≤ 9223372036854775807
  vs : r.val.s.size ≤ z
  text : r.text.size ≤ z
  few : r.pairs.length ≤ 10000
  pairs : ∀ p ∈ r.pairs, PairOk p z
theorem rdReply_back {l : List UInt8} {r : ReplyL} (h : rdReply l = some r) : putReplyL r = l ∧ RightR r l.length := by
  unfold rdReply at h
  obtain ⟨p1, h1, h⟩ := Option.bind_eq_some_iff.1 h
  obtain ⟨p2, h2, h⟩ := Option.bind_eq_some_iff.1 h
  obtain ⟨p3, h3, h⟩ := Option.bind_eq_some_iff.1 h
  obtain ⟨p4, h4, h⟩ := Option.bind_eq_some_iff.1 h
  obtain ⟨p5, h5, h⟩ := Option.bind_eq_some_iff.1 h
  obtain ⟨p6, h6, h⟩ := Option.bind_eq_some_iff.1 h
  split at h
  · rename_i hc
    obtain ⟨p7, h7, h⟩ := Option.bind_eq_some_iff.1 h
    split at h
    · rename_i he
      simp only [Option.some.injEq] at h
      subst h
      obtain ⟨e1, a1, b1⟩ := rdNum_back (x := p1.1) (m := p1.2) h1
      obtain ⟨e2, a2, b2⟩ := rdNum_back (x := p2.1) (m := p2.2) h2
      obtain ⟨e3, v3⟩ := rdVec_back (xs := p3.1) (m := p3.2) h3
      obtain ⟨e4, x4, n4, s4, k4⟩ := rdVal_back (v := p4.1) (m := p4.2) h4
      have e5 := rdText_back (t := p5.1) (m := p5.2) h5
      obtain ⟨e6, a6, b6⟩ := rdNum_back (x := p6.1) (m := p6.2) h6
      obtain ⟨e7, l7, ok7, k7⟩ := rdPairs_back _ p6.2 p7.2 p7.1 h7
      have k1 := rdNum_len (x := p1.1) (m := p1.2) h1
      have k2 := rdNum_len (x := p2.1) (m := p2.2) h2
      have k3 := rdVec_len (xs := p3.1) (m := p3.2) h3
      have k5 := rdText_len (t := p5.1) (m := p5.2) h5
      have k6 := rdNum_len (x := p6.1) (m := p6.2) h6
      rw [he, List.append_nil] at e7
      rw [show (256 : Int) ^ 6 = 281474976710656 from rfl] at b1 b2
      refine ⟨?_, ⟨⟨a1, by show p1.1 ≤ _; omega⟩, ⟨a2, by show p2.1 ≤ _; omega⟩, v3, x4, n4, by show p4.1.s.size ≤ _; omega, ?_, by show p7.1.length ≤ _; omega, ?_⟩⟩
      · unfold putReplyL putFront
        dsimp only
        have el : (p7.1.length : Int) = p6.1 := by omega
        rw [el, e1, e2, e3, e4, e5, e6, e7]
        simp only [List.append_assoc]
      · show (⟨p5.1.toArray⟩ : ByteArray).size ≤ _
        rw [(SB.mk p5.1).size]; omega
      · intro p hp
        have o := ok7 p hp
        exact ⟨by have := o.key; omega, o.x, o.n, by have := o.s; omega⟩
    · cases h
  · cases h
end Go.Proofs.Ytechiehbigmjbaa
