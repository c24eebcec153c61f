import Derived.Test.YtkpikmfijcffiaaGreatQTxnWritesUptoP11
import Derived.Test.YtkpikmfijcffiaaGreatQTxnWritesUptoP10
import Derived.Test.YtkpikmfijcffiaaGreatQBase
import Derived.Deep.QuietTactic
import Derived.BigQuiet
import Derived.Test.YtkpikmfijcffiaaGreatQTxnWritesUptoP4

/- transactions, and their bytes: plain definitions and laws. By an AI agent. -/
section
set_option linter.unusedVariables false
set_option linter.unusedSimpArgs false
namespace Go.Proofs.YtkpikmfijcffiaaGreat
open Go.RowKit

structure TxnL where
  o : Int
  num : Int
  prev : Int
  deps : List Int
  at_ : List Int
  ws : List (ByteArray × ActL)
def nthW (ws : List (ByteArray × ActL)) (j : Nat) : ByteArray × ActL := ws.getD j (⟨#[]⟩, ⟨0, 0, 0, ⟨#[]⟩⟩)
theorem nthW_eq {ws : List (ByteArray × ActL)} {j : Nat} (h : j < ws.length) : nthW ws j = ws[j] := by
  unfold nthW
  rw [List.getD_eq_getElem?_getD, List.getElem?_eq_getElem h]; rfl
theorem nthW_mem {ws : List (ByteArray × ActL)} {j : Nat} (h : j < ws.length) : nthW ws j ∈ ws := by
  rw [nthW_eq h]; exact List.getElem_mem h
/-- no key of the first i is the i-th one's -/
def freshAt (ws : List (ByteArray × ActL)) (i : Nat) : Bool := !(ws.take i).any (fun q => decide (q.1 = (nthW ws i).1))
def okW (ws : List (ByteArray × ActL)) (i : Nat) : Bool := freshAt ws i && fitsB (nthW ws i).1 (nthW ws i).2
def atT (t : TxnL) : Int := nth t.at_ t.o.toNat
def frontT (t : TxnL) : Bool := validL t.deps && (validL t.at_ && (decide (t.deps.length = t.at_.length) && decide (0 ≤ t.o ∧ t.o < t.at_.length)))
def timeT (t : TxnL) : Bool := decide (1 ≤ t.num ∧ t.num ≤ 281474976710655 ∧ 0 ≤ t.prev ∧ t.prev < atT t ∧ nth t.deps t.o.toNat < atT t ∧ withL t.deps t.o (atT t) = t.at_)
def writesT (ws : List (ByteArray × ActL)) : Bool := (List.range ws.length).all (okW ws) && decide (1 ≤ ws.length ∧ ws.length ≤ 200)
def validT (t : TxnL) : Bool := frontT t && (timeT t && writesT t.ws)
structure TxParts (t : TxnL) : Prop where
  deps : validL t.deps = true
  at_ : validL t.at_ = true
  len : t.deps.length = t.at_.length
  o0 : 0 ≤ t.o
  o1 : t.o < t.at_.length
  num : 1 ≤ t.num ∧ t.num ≤ 281474976710655
  prev : 0 ≤ t.prev ∧ t.prev < atT t
  less : nth t.deps t.o.toNat < atT t
  eq : withL t.deps t.o (atT t) = t.at_
  ok : ∀ i, i < t.ws.length → okW t.ws i = true
  few : 1 ≤ t.ws.length ∧ t.ws.length ≤ 200
theorem validT_parts {t : TxnL} (h : validT t = true) : TxParts t := by
  simp only [validT, frontT, timeT, writesT, Bool.and_eq_true, decide_eq_true_eq, List.all_eq_true, List.mem_range] at h
  obtain ⟨⟨h1, h2, h3, h4, h5⟩, ⟨h6, h7, h8, h9, h10, h11⟩, h12, h13⟩ := h
  exact ⟨h1, h2, h3, h4, h5, ⟨h6, h7⟩, ⟨h8, h9⟩, h10, h11, h12, h13⟩
theorem validT_of {t : TxnL} (h : TxParts t) : validT t = true := by
  simp only [validT, frontT, timeT, writesT, Bool.and_eq_true, decide_eq_true_eq, List.all_eq_true, List.mem_range]
  exact ⟨⟨h.deps, h.at_, h.len, h.o0, h.o1⟩, ⟨h.num.1, h.num.2, h.prev.1, h.prev.2, h.less, h.eq⟩, h.ok, h.few⟩
theorem TxParts.fits {t : TxnL} (h : TxParts t) {p : ByteArray × ActL} (hp : p ∈ t.ws) : fitsB p.1 p.2 = true := by
  obtain ⟨i, hi, rfl⟩ := List.getElem_of_mem hp
  have := h.ok i hi
  simp only [okW, Bool.and_eq_true] at this
  rw [nthW_eq hi] at this
  exact this.2
/-- a time of a transaction is one -/
theorem TxParts.bound {t : TxnL} (h : TxParts t) : 0 ≤ atT t ∧ atT t < 281474976710656 :=
  (valid_parts h.at_).2.2 _ (by have := h.o0; have := h.o1; omega)
/-- within Go's bounds -/
def WrOk (p : ByteArray × ActL) : Prop := p.1.size ≤ 140737488351232 ∧ p.2.Ok
structure TxOk (t : TxnL) : Prop where
  o : -9223372036854775808 ≤ t.o ∧ t.o ≤ 9223372036854775807
  num : -9223372036854775808 ≤ t.num ∧ t.num ≤ 9223372036854775807
  prev : -9223372036854775808 ≤ t.prev ∧ t.prev ≤ 9223372036854775807
  ws : ∀ p ∈ t.ws, WrOk p

/-! ### the same -/
def sameWs (a b : List (ByteArray × ActL)) : Bool := decide (a.length = b.length) && (List.range a.length).all fun i => decide ((nthW a i).1 = (nthW b i).1) && sameA (nthW a i).2 (nthW b i).2
def sameT (a b : TxnL) : Bool := decide (a.o = b.o ∧ a.num = b.num ∧ a.prev = b.prev) && (decide (a.deps = b.deps) && (decide (a.at_ = b.at_) && sameWs a.ws b.ws))

theorem sameWs_iff {a b : List (ByteArray × ActL)} : sameWs a b = true ↔ a.length = b.length ∧ ∀ i, i < a.length → (nthW a i).1 = (nthW b i).1 ∧ sameA (nthW a i).2 (nthW b i).2 = true := by
  unfold sameWs
  rw [Bool.and_eq_true, decide_eq_true_eq, List.all_eq_true]
  constructor
  · rintro ⟨h1, h2⟩
    refine ⟨h1, fun i hi => ?_⟩
    have := h2 i (List.mem_range.2 hi)
    rw [Bool.and_eq_true, decide_eq_true_eq] at this
    exact this
  · rintro ⟨h1, h2⟩
    refine ⟨h1, fun i hi => ?_⟩
    rw [Bool.and_eq_true, decide_eq_true_eq]
    exact h2 i (List.mem_range.1 hi)
theorem sameT_iff {a b : TxnL} : sameT a b = true ↔ a.o = b.o ∧ a.num = b.num ∧ a.prev = b.prev ∧ a.deps = b.deps ∧ a.at_ = b.at_ ∧ sameWs a.ws b.ws = true := by
  unfold sameT
  simp only [Bool.and_eq_true, decide_eq_true_eq, and_assoc]
/-! ### in bytes -/
def putWr (p : ByteArray × ActL) : List UInt8 := numB (p.1.size : Int) 1 ++ (p.1.data.toList ++ (numB ((putA p.2).length : Int) 2 ++ putA p.2))
def headTx (t : TxnL) : List UInt8 := numB t.o 1 ++ (numB t.num 6 ++ (numB t.prev 6 ++ (putL t.deps ++ numB (atT t) 6)))
def bodyTx (t : TxnL) : List UInt8 := headTx t ++ t.ws.flatMap putWr
def putTx (t : TxnL) : List UInt8 := sealL (bodyTx t)
def rdWr (l : List UInt8) : Option ((ByteArray × ActL) × List UInt8) :=
  (rdNum 1 l).bind fun p1 => (rdTake p1.1.toNat p1.2).bind fun p2 => (rdNum 2 p2.2).bind fun p3 => (rdTake p3.1.toNat p3.2).bind fun p4 =>
    if (getA p4.1).2 = 0 then some ((⟨p2.1.toArray⟩, (getA p4.1).1), p4.2) else none
def rdWrs : Nat → List UInt8 → Option (List (ByteArray × ActL))
  | 0, l => if l.length = 0 then some [] else none
  | n + 1, l => if l.length = 0 then some [] else (rdWr l).bind fun p => (rdWrs n p.2).map fun q => p.1 :: q
def rdHead (l : List UInt8) : Option ((Int × Int × Int × List Int × Int) × List UInt8) :=
  (rdNum 1 l).bind fun p1 => (rdNum 6 p1.2).bind fun p2 => (rdNum 6 p2.2).bind fun p3 => (rdV p3.2).bind fun p4 => (rdNum 6 p4.2).bind fun p5 =>
    some ((p1.1, p2.1, p3.1, p4.1, p5.1), p5.2)
def txOf (h : Int × Int × Int × List Int × Int) (ws : List (ByteArray × ActL)) : TxnL := ⟨h.1, h.2.1, h.2.2.1, h.2.2.2.1, withL h.2.2.2.1 h.1 h.2.2.2.2, ws⟩
def rdBodyT (l : List UInt8) : Option TxnL := (rdHead l).bind fun p => (rdWrs p.2.length p.2).map fun q => txOf p.1 q
def rdTx (l : List UInt8) : Option TxnL :=
  if 4 ≤ l.length ∧ l.length ≤ 65000 ∧ numB (sumL (l.take (l.length - 4)) : Int) 4 = l.drop (l.length - 4) then
    (rdBodyT (l.take (l.length - 4))).bind fun t => if validT t = true then some t else none
  else none
def canonW (p : ByteArray × ActL) : ByteArray × ActL := (p.1, (getA (putA p.2)).1)
def canonT (t : TxnL) : TxnL := ⟨t.o, t.num, t.prev, t.deps, t.at_, t.ws.map canonW⟩

theorem rdWr_put {p : ByteArray × ActL} (ok : p.2.Ok) (hf : fitsB p.1 p.2 = true) (m : List UInt8) : rdWr (putWr p ++ m) = some (canonW p, m) := by
  have h1 := key_size (fits_key hf).1
  have hr := (fits_key hf).2
  have h2 := putA_len hr
  have hc := (getA_putA ok hr).1
  have e1 : (⟨p.1.data.toList.toArray⟩ : ByteArray) = p.1 := by simp
  unfold rdWr putWr
  simp only [List.append_assoc]
  rw [rdNum_put 1 _ _ (by omega) (by rw [show (256 : Int) ^ 1 = 256 from rfl]; omega), Option.bind_some]
  dsimp only
  rw [rdTake_put p.1.data.toList _ (by rw [size_nil, Int.toNat_natCast]), Option.bind_some]
  dsimp only
  rw [rdNum_put 2 _ _ (by omega) (by rw [show (256 : Int) ^ 2 = 65536 from rfl]; omega), Option.bind_some]
  dsimp only
  rw [rdTake_put (putA p.2) _ (by rw [Int.toNat_natCast]), Option.bind_some]
  dsimp only
  rw [e1, if_pos hc]
  rfl
theorem rdWr_back {l m : List UInt8} {p : ByteArray × ActL} (h : rdWr l = some (p, m)) : l = putWr p ++ m ∧ p.1.size ≤ 255 ∧ p.2.Ok ∧ m.length + 3 ≤ l.length := by
  unfold rdWr at h
  obtain ⟨p1, h1, h⟩ := Option.bind_eq_some_iff.1 h
  obtain ⟨p2, h2, h⟩ := Option.bind_eq_some_iff.1 h
  obtain ⟨p3, h3, h⟩ := Option.bind_eq_some_iff.1 h
  obtain ⟨p4, h4, h⟩ := Option.bind_eq_some_iff.1 h
  split at h
  case isFalse => cases h
  rename_i hc
  simp only [Option.some.injEq, Prod.mk.injEq] at h
  obtain ⟨rfl, rfl⟩ := h
  obtain ⟨e1, a1, b1⟩ := rdNum_back (x := p1.1) (m := p1.2) h1
  obtain ⟨e2, l2⟩ := rdTake_back (t := p2.1) (m := p2.2) h2
  obtain ⟨e3, a3, b3⟩ := rdNum_back (x := p3.1) (m := p3.2) h3
  obtain ⟨e4, l4⟩ := rdTake_back (t := p4.1) (m := p4.2) h4
  rw [show (256 : Int) ^ 1 = 256 from rfl] at b1
  have g := putA_getA _ hc
  have hs : (⟨p2.1.toArray⟩ : ByteArray).size = p2.1.length := (SB.mk p2.1).size
  refine ⟨?_, by show (⟨p2.1.toArray⟩ : ByteArray).size ≤ _; omega, g.2.2, ?_⟩
  · show l = (numB ((⟨p2.1.toArray⟩ : ByteArray).size : Int) 1 ++ (p2.1.toArray.toList ++ (numB ((putA (getA p4.1).1).length : Int) 2 ++ putA (getA p4.1).1))) ++ p4.2
    rw [g.1, hs, l2, l4, e1, e2, e3, e4]
    rw [show ((p1.1.toNat : Nat) : Int) = p1.1 by omega, show ((p3.1.toNat : Nat) : Int) = p3.1 by omega]
    simp only [List.append_assoc]
  · have k1 := congrArg List.length e1
    have k2 := congrArg List.length e2
    have k3 := congrArg List.length e3
    have k4 := congrArg List.length e4
    simp only [List.length_append, numB_len] at k1 k2 k3 k4
    show p4.2.length + 3 ≤ _
    omega
theorem putWr_len (p : ByteArray × ActL) : 3 ≤ (putWr p).length := by
  unfold putWr
  simp only [List.length_append, numB_len]; omega
theorem rdWrs_put : ∀ (ws : List (ByteArray × ActL)) (f : Nat), (ws.flatMap putWr).length ≤ f → (∀ p ∈ ws, p.2.Ok ∧ fitsB p.1 p.2 = true) → rdWrs f (ws.flatMap putWr) = some (ws.map canonW)
  | [], 0, _, _ => rfl
  | [], f + 1, _, _ => rfl
  | p :: ws, 0, h, _ => by
    have := putWr_len p
    rw [List.flatMap_cons, List.length_append] at h; omega
  | p :: ws, f + 1, h, hp => by
    have h1 := putWr_len p
    have h2 := hp p (by simp)
    rw [List.flatMap_cons, List.length_append] at h
    have ih := rdWrs_put ws f (by omega) (fun q hq => hp q (by simp [hq]))
    unfold rdWrs
    rw [if_neg (by rw [List.flatMap_cons, List.length_append]; omega), List.flatMap_cons, rdWr_put h2.1 h2.2, Option.bind_some]
    dsimp only
    rw [ih]
    rfl
theorem rdWrs_back : ∀ (f : Nat) (l : List UInt8) (ws : List (ByteArray × ActL)), rdWrs f l = some ws → l = ws.flatMap putWr ∧ ∀ p ∈ ws, p.1.size ≤ 255 ∧ p.2.Ok
  | 0, l, ws, h => by
    unfold rdWrs at h
    split at h
    · rename_i h0
      simp only [Option.some.injEq] at h
      subst h
      exact ⟨List.eq_nil_of_length_eq_zero h0, fun p h => by simp at h⟩
    · cases h
  | f + 1, l, ws, h => by
    unfold rdWrs at h
    split at h
    · rename_i h0
      simp only [Option.some.injEq] at h
      subst h
      exact ⟨List.eq_nil_of_length_eq_zero h0, fun p h => by simp at h⟩
    · obtain ⟨p, h1, h⟩ := Option.bind_eq_some_iff.1 h
      obtain ⟨q, h2, rfl⟩ := Option.map_eq_some_iff.1 h
      obtain ⟨a1, b1, c1, _⟩ := rdWr_back (p := p.1) (m := p.2) h1
      obtain ⟨a2, b2⟩ := rdWrs_back f p.2 q h2
      refine ⟨by rw [List.flatMap_cons, ← a2]; exact a1, fun x hx => ?_⟩
      rcases List.mem_cons.1 hx with rfl | hx
      · exact ⟨b1, c1⟩
      · exact b2 x hx
theorem rdHead_put {t : TxnL} (h : TxParts t) (m : List UInt8) : rdHead (headTx t ++ m) = some ((t.o, t.num, t.prev, t.deps, atT t), m) := by
  have h1 := h.num
  have h2 := h.prev
  have h3 := h.bound
  have h4 := h.o0
  have h5 := h.o1
  have h6 := valid_parts h.at_
  have e6 : (256 : Int) ^ 6 = 281474976710656 := rfl
  unfold rdHead headTx
  simp only [List.append_assoc]
  rw [rdNum_put 1 _ _ (by omega) (by rw [show (256 : Int) ^ 1 = 256 from rfl]; omega), Option.bind_some]
  dsimp only
  rw [rdNum_put 6 _ _ (by omega) (by omega), Option.bind_some]
  dsimp only
  rw [rdNum_put 6 _ _ (by omega) (by omega), Option.bind_some]
  dsimp only
  rw [rdV_put h.deps, Option.bind_some]
  dsimp only
  rw [rdNum_put 6 _ _ (by omega) (by omega), Option.bind_some]
theorem rdHead_back {l m : List UInt8} {x : Int × Int × Int × List Int × Int} (h : rdHead l = some (x, m)) :
    l = numB x.1 1 ++ (numB x.2.1 6 ++ (numB x.2.2.1 6 ++ (putL x.2.2.2.1 ++ (numB x.2.2.2.2 6 ++ m)))) ∧ (0 ≤ x.1 ∧ x.1 < 256) ∧ (0 ≤ x.2.1 ∧ x.2.1 < 281474976710656) ∧ (0 ≤ x.2.2.1 ∧ x.2.2.1 < 281474976710656) ∧ validL x.2.2.2.1 = true ∧ 0 ≤ x.2.2.2.2 ∧ x.2.2.2.2 < 281474976710656 := by
  unfold rdHead at h
  obtain ⟨p1, h1, h⟩ := Option.bind_eq_some_iff.1 h
  obtain ⟨p2, h2, h⟩ := Option.bind_eq_some_iff.1 h
  obtain ⟨p3, h3, h⟩ := Option.bind_eq_some_iff.1 h
  obtain ⟨p4, h4, h⟩ := Option.bind_eq_some_iff.1 h
  obtain ⟨p5, h5, h⟩ := Option.bind_eq_some_iff.1 h
  simp only [Option.some.injEq, Prod.mk.injEq] at h
  obtain ⟨rfl, rfl⟩ := h
  obtain ⟨e1, a1, b1⟩ := rdNum_back (x := p1.1) (m := p1.2) h1
  obtain ⟨e2, a2, b2⟩ := rdNum_back (x := p2.1) (m := p2.2) h2
  obtain ⟨e3, a3, b3⟩ := rdNum_back (x := p3.1) (m := p3.2) h3
  obtain ⟨e4, a4⟩ := rdV_back (xs := p4.1) (m := p4.2) h4
  obtain ⟨e5, a5, b5⟩ := rdNum_back (x := p5.1) (m := p5.2) h5
  rw [show (256 : Int) ^ 6 = 281474976710656 from rfl] at b2 b3 b5
  rw [show (256 : Int) ^ 1 = 256 from rfl] at b1
  exact ⟨by rw [← e5, ← e4, ← e3, ← e2]; exact e1, ⟨a1, b1⟩, ⟨a2, b2⟩, ⟨a3, b3⟩, a4, a5, b5⟩
theorem atT_of {o num prev : Int} {deps : List Int} {a : Int} {ws : List (ByteArray × ActL)} (h0 : 0 ≤ o) (h1 : o < deps.length) : atT (txOf (o, num, prev, deps, a) ws) = a := by
  show nth (withL deps o a) o.toNat = a
  rw [withL_nth _ _ _ _ (by omega), if_pos (by omega)]
theorem canonT_body {t : TxnL} (h : TxParts t) (ok : TxOk t) : bodyTx (canonT t) = bodyTx t := by
  have key : ∀ ws : List (ByteArray × ActL), (∀ p ∈ ws, p.2.Ok ∧ fitsB p.1 p.2 = true) → (ws.map canonW).flatMap putWr = ws.flatMap putWr := by
    intro ws
    induction ws with
    | nil => intro _; rfl
    | cons p ws ih =>
      intro hp
      have h2 := hp p (by simp)
      have hr := (fits_key h2.2).2
      have hc := getA_putA h2.1 hr
      have hg := (putA_getA (putA p.2) hc.1).1
      rw [List.map_cons, List.flatMap_cons, List.flatMap_cons, ih (fun q hq => hp q (by simp [hq]))]
      congr 1
      show numB (p.1.size : Int) 1 ++ (p.1.data.toList ++ (numB ((putA (getA (putA p.2)).1).length : Int) 2 ++ putA (getA (putA p.2)).1)) = putWr p
      rw [hg]
      rfl
  unfold bodyTx
  show headTx t ++ (t.ws.map canonW).flatMap putWr = _
  rw [key t.ws (fun p hp => ⟨(ok.ws p hp).2, h.fits hp⟩)]
theorem canonW_same {p : ByteArray × ActL} (ok : p.2.Ok) (hf : fitsB p.1 p.2 = true) : sameA p.2 (canonW p).2 = true := (getA_putA ok (fits_key hf).2).2
theorem canonW_ok {p : ByteArray × ActL} (ok : p.2.Ok) (hf : fitsB p.1 p.2 = true) : (canonW p).2.Ok := (putA_getA _ (getA_putA ok (fits_key hf).2).1).2.2
theorem nthW_map (ws : List (ByteArray × ActL)) {i : Nat} (hi : i < ws.length) : nthW (ws.map canonW) i = canonW (nthW ws i) := by
  rw [nthW_eq (by simpa using hi), nthW_eq hi, List.getElem_map]
theorem canonT_parts {t : TxnL} (h : TxParts t) (ok : TxOk t) : TxParts (canonT t) := by
  have hl : (canonT t).ws.length = t.ws.length := by unfold canonT; simp
  refine ⟨h.deps, h.at_, h.len, h.o0, h.o1, h.num, h.prev, h.less, h.eq, fun i hi => ?_, by rw [hl]; exact h.few⟩
  rw [hl] at hi
  have h1 := h.ok i hi
  have hm := nthW_mem hi
  show okW (t.ws.map canonW) i = true
  unfold okW freshAt at h1 ⊢
  rw [Bool.and_eq_true] at h1 ⊢
  have e : ((t.ws.map canonW).take i).any (fun q => decide (q.1 = (canonW (nthW t.ws i)).1)) = (t.ws.take i).any (fun q => decide (q.1 = (nthW t.ws i).1)) := by
    rw [← List.map_take, List.any_map]
    rfl
  rw [nthW_map _ hi, e]
  refine ⟨h1.1, ?_⟩
  rw [← fits_same _ (canonW_same (ok.ws _ hm).2 h1.2)]
  exact h1.2
theorem canonT_ok {t : TxnL} (h : TxParts t) (ok : TxOk t) : TxOk (canonT t) := by
  refine ⟨ok.o, ok.num, ok.prev, fun p hp => ?_⟩
  obtain ⟨q, hq, rfl⟩ := List.mem_map.1 (show p ∈ t.ws.map canonW from hp)
  exact ⟨(ok.ws q hq).1, canonW_ok (ok.ws q hq).2 (h.fits hq)⟩
theorem canonT_same {t : TxnL} (h : TxParts t) (ok : TxOk t) : sameT (canonT t) t = true := by
  refine sameT_iff.2 ⟨rfl, rfl, rfl, rfl, rfl, sameWs_iff.2 ⟨by show (t.ws.map canonW).length = _; simp, fun i hi => ?_⟩⟩
  have hi' : i < t.ws.length := by have : (t.ws.map canonW).length = t.ws.length := by simp
                                   rw [← this]; exact hi
  have hm := nthW_mem hi'
  have e : nthW (canonT t).ws i = canonW (nthW t.ws i) := nthW_map _ hi'
  rw [e]
  refine ⟨rfl, ?_⟩
  have hs := canonW_same (ok.ws _ hm).2 (h.fits hm)
  rw [sameA_iff] at hs ⊢
  exact ⟨hs.1.symm, hs.2.1.symm, hs.2.2.1.symm, hs.2.2.2.symm⟩
theorem headTx_len {t : TxnL} (h : validL t.deps = true) : (headTx t).length ≤ 68 := by
  have := (valid_parts h).2.1
  unfold headTx
  simp only [List.length_append, numB_len, putL_len]; omega
/-- what is laid is read, in its plainest form -/
theorem rdTx_put {t : TxnL} (hv : validT t = true) (ok : TxOk t) (hz : (putTx t).length ≤ 65000) : rdTx (putTx t) = some (canonT t) := by
  have h := validT_parts hv
  have hl : (putTx t).length = (bodyTx t).length + 4 := sealL_len _
  unfold rdTx
  rw [show (putTx t).take ((putTx t).length - 4) = bodyTx t from sealL_take _, show (putTx t).drop ((putTx t).length - 4) = numB (sumL (bodyTx t) : Int) 4 from sealL_drop _, if_pos ⟨by omega, hz, rfl⟩]
  have e : rdBodyT (bodyTx t) = some (canonT t) := by
    unfold rdBodyT bodyTx
    rw [rdHead_put h, Option.bind_some]
    dsimp only
    rw [rdWrs_put t.ws _ (Nat.le_refl _) (fun p hp => ⟨(ok.ws p hp).2, h.fits hp⟩)]
    show some (txOf _ _) = _
    unfold txOf canonT
    dsimp only
    rw [h.eq]
  rw [e, Option.bind_some, if_pos (validT_of (canonT_parts h ok))]
theorem rdTx_back {l : List UInt8} {t : TxnL} (h : rdTx l = some t) : validT t = true ∧ TxOk t ∧ putTx t = l ∧ l.length ≤ 65000 := by
  unfold rdTx at h
  split at h
  case isFalse => cases h
  rename_i hc
  obtain ⟨u, h1, h⟩ := Option.bind_eq_some_iff.1 h
  split at h
  case isFalse => cases h
  rename_i hv
  simp only [Option.some.injEq] at h
  subst h
  have hp := validT_parts hv
  unfold rdBodyT at h1
  obtain ⟨p, h2, h1⟩ := Option.bind_eq_some_iff.1 h1
  obtain ⟨q, h3, h1⟩ := Option.map_eq_some_iff.1 h1
  subst h1
  obtain ⟨x, m⟩ := p
  obtain ⟨o, num, prev, deps, a⟩ := x
  obtain ⟨e, b1, b2, b3, b4, b5⟩ := rdHead_back h2
  obtain ⟨e2, b6⟩ := rdWrs_back _ _ _ h3
  dsimp only at e b1 b2 b3 b4 b5 e2
  have hlen : (withL deps o a).length = deps.length := withL_len _ _ _
  have ho1 : o < deps.length := by have := hp.o1; dsimp only [txOf] at this; omega
  have hat := atT_of (num := num) (prev := prev) (ws := q) (a := a) b1.1 ho1
  refine ⟨hv, ⟨⟨by show _ ≤ o; omega, by show o ≤ _; omega⟩, ⟨by show _ ≤ num; omega, by show num ≤ _; omega⟩, ⟨by show _ ≤ prev; omega, by show prev ≤ _; omega⟩, fun p hp => ⟨by have := (b6 p hp).1; omega, (b6 p hp).2⟩⟩, ?_, hc.2.1⟩
  have e3 : bodyTx (txOf (o, num, prev, deps, a) q) = l.take (l.length - 4) := by
    unfold bodyTx headTx
    rw [hat, e, e2]
    show (numB o 1 ++ (numB num 6 ++ (numB prev 6 ++ (putL deps ++ numB a 6)))) ++ q.flatMap putWr = _
    simp only [List.append_assoc]
  show sealL (bodyTx (txOf (o, num, prev, deps, a) q)) = l
  rw [e3]
  unfold sealL
  rw [hc.2.2, List.take_append_drop]
theorem tx_changed {t u : TxnL} {k : Nat} {c : UInt8} (hk : k < (putTx t).length) (h : rdTx ((putTx t).set k c) = some u) : c = (putTx t)[k] :=
  seal_changed hk (rdTx_back h).2.2.1
theorem rdTx_num {l : List UInt8} {t : TxnL} (h : rdTx l = some t) : 0 < t.num ∧ 0 < t.ws.length := by
  have hp := validT_parts (rdTx_back h).1
  exact ⟨by have := hp.num; omega, by have := hp.few; omega⟩
def outT (L : List UInt8) : List UInt8 := if L.length + 4 ≤ 65000 then sealL L else []
def outTC (L : List UInt8) : Int := if L.length + 4 ≤ 65000 then 0 else 2
/-- Put's answer -/
def ptL (t : TxnL) : List UInt8 := if validT t then outT (bodyTx t) else []
def ptC (t : TxnL) : Int := if validT t then outTC (bodyTx t) else 1
theorem ptC_zero {t : TxnL} (h : ptC t = 0) : validT t = true ∧ ptL t = putTx t ∧ (putTx t).length ≤ 65000 := by
  unfold ptC at h
  unfold ptL
  cases hv : validT t
  · rw [hv] at h; exact absurd (show (1 : Int) = 0 from h) (by decide)
  · rw [hv] at h
    simp only [if_true] at h ⊢
    unfold outTC at h
    unfold outT
    split at h
    · rename_i hz
      rw [if_pos hz]
      exact ⟨trivial, rfl, by unfold putTx; rw [sealL_len]; exact hz⟩
    · exact absurd h (by decide)
theorem ptC_put {t : TxnL} (hv : validT t = true) (hz : (putTx t).length ≤ 65000) : ptC t = 0 ∧ ptL t = putTx t := by
  unfold putTx at hz
  rw [sealL_len] at hz
  unfold ptC ptL
  rw [hv, if_pos rfl, if_pos rfl]
  unfold outTC outT
  rw [if_pos hz, if_pos hz]
  exact ⟨rfl, rfl⟩
theorem ptC_not {t : TxnL} (h : ptC t ≠ 0) : ptL t = [] := by
  unfold ptC at h
  unfold ptL
  cases hv : validT t
  · rfl
  · rw [hv] at h
    simp only [if_true] at h ⊢
    unfold outTC at h
    unfold outT
    split at h
    · exact absurd rfl h
    · rename_i hz; rw [if_neg hz]
end Go.Proofs.YtkpikmfijcffiaaGreat
end

/- an act behind another one is both as one. By an AI agent. -/
section
set_option linter.unusedVariables false
set_option linter.unusedSimpArgs false
namespace Go.Proofs.YtkpikmfijcffiaaGreat
open Go.RowKit

theorem after_both {key : ByteArray} {a b : ActL} (v : ValL) (oa : a.Ok) (ob : b.Ok) (ha : fitsB key a = true) (hb : fitsB key b = true) :
    sameV (afterL key (afterL key v a) b) (afterL key v (bothL key a b)) = true ∧ fitsB key (bothL key a b) = true := by
  have hi := (fits_key ha).1
  cases hr : regB key
  · rcases key_head hi with h | h | h | h | h
    · simp [regB, h] at hr
    · simp [regB, h] at hr
    · rw [fits_add oa h ha, fits_add ob h hb]
      simp only [after_add _ hi h, both_add hi h, fits_add' hi h, if_true]
      refine ⟨?_, trivial⟩
      cases v.there <;> (refine sameV_of rfl rfl ?_ rfl; first | (simp; done) | (simp; unfold wrap64; omega))
    · rw [fits_max h ha, fits_max h hb]
      simp only [after_max _ hi h, both_max hi h, fits_max' hi h, if_true]
      refine ⟨?_, trivial⟩
      cases v.there <;> (refine sameV_of rfl ?_ rfl rfl; first | (simp [rmax_key']; done) | (simp [rmax_key']; omega))
    · rw [fits_min h ha, fits_min h hb]
      simp only [after_min _ hi h, both_min hi h, fits_min' hi h, if_true]
      refine ⟨?_, trivial⟩
      cases v.there <;> (refine sameV_of rfl ?_ rfl rfl; first | (simp [rmin_key]; done) | (simp [rmin_key]; omega))
  · rw [both_reg hr, after_reg _ hr hb, after_reg _ hr hb]
    exact ⟨sameV_refl _, hb⟩
/-- values that are the same go on so -/
theorem after_same {key : ByteArray} {v u : ValL} {a : ActL} (oa : a.Ok) (ha : fitsB key a = true) (h : sameV v u = true) : sameV (afterL key v a) (afterL key u a) = true := by
  obtain ⟨h1, h2, h3, h4⟩ := sameV_parts h
  have hi := (fits_key ha).1
  cases hr : regB key
  · rcases key_head hi with k | k | k | k | k
    · simp [regB, k] at hr
    · simp [regB, k] at hr
    · rw [fits_add oa k ha, after_add _ hi k, after_add _ hi k, h1, h3]
      exact sameV_refl _
    · rw [fits_max k ha, after_max _ hi k, after_max _ hi k, h1]
      refine sameV_of rfl ?_ rfl rfl
      cases u.there <;> simp [rmax_key', h2]
    · rw [fits_min k ha, after_min _ hi k, after_min _ hi k, h1]
      refine sameV_of rfl ?_ rfl rfl
      cases u.there <;> simp [rmin_key, h2]
  · rw [after_reg _ hr ha, after_reg _ hr ha]
    exact sameV_refl _
end Go.Proofs.YtkpikmfijcffiaaGreat
end

/- writes that are read, and folded to one a key: plain definitions and laws. By an AI agent. -/
section
set_option linter.unusedVariables false
set_option linter.unusedSimpArgs false
namespace Go.Proofs.YtkpikmfijcffiaaGreat
open Go.RowKit

def readW (key : ByteArray) (v : ValL) (ws : List (ByteArray × ActL)) : ValL := ws.foldl (fun v p => if p.1 = key then afterL key v p.2 else v) v
theorem readW_snoc (key : ByteArray) (v : ValL) (ws : List (ByteArray × ActL)) (p : ByteArray × ActL) : readW key v (ws ++ [p]) = if p.1 = key then afterL key (readW key v ws) p.2 else readW key v ws := by
  unfold readW
  rw [List.foldl_append]; rfl
theorem readW_ok {key : ByteArray} {v : ValL} (ov : v.Ok) : ∀ ws : List (ByteArray × ActL), (∀ p ∈ ws, p.2.Ok) → (readW key v ws).Ok := by
  intro ws
  induction ws generalizing v with
  | nil => intro _; exact ov
  | cons p ws ih =>
    intro h
    unfold readW
    rw [List.foldl_cons]
    refine ih ?_ (fun q hq => h q (by simp [hq]))
    split
    · exact after_ok ov (h p (by simp))
    · exact ov
/-- one more write -/
def addW (out : List (ByteArray × ActL)) (p : ByteArray × ActL) : List (ByteArray × ActL) :=
  if out.any (fun q => decide (q.1 = p.1)) then out.map (fun q => if q.1 = p.1 then (q.1, bothL p.1 q.2 p.2) else q) else out ++ [p]
theorem any_key {out : List (ByteArray × ActL)} {k : ByteArray} : out.any (fun q => decide (q.1 = k)) = true ↔ k ∈ out.map (·.1) := by
  rw [List.any_eq_true, List.mem_map]
  constructor
  · rintro ⟨q, h1, h2⟩; exact ⟨q, h1, by simpa using h2⟩
  · rintro ⟨q, h1, h2⟩; exact ⟨q, h1, by simpa using h2⟩
theorem addW_old {out : List (ByteArray × ActL)} {p : ByteArray × ActL} (h : p.1 ∈ out.map (·.1)) : addW out p = out.map (fun q => if q.1 = p.1 then (q.1, bothL p.1 q.2 p.2) else q) := by
  unfold addW
  rw [if_pos (any_key.2 h)]
theorem addW_new {out : List (ByteArray × ActL)} {p : ByteArray × ActL} (h : p.1 ∉ out.map (·.1)) : addW out p = out ++ [p] := by
  unfold addW
  rw [if_neg (fun q => h (any_key.1 q))]
def foldW (ws : List (ByteArray × ActL)) : List (ByteArray × ActL) := ws.foldl addW []
theorem foldW_snoc (ws : List (ByteArray × ActL)) (p : ByteArray × ActL) : foldW (ws ++ [p]) = addW (foldW ws) p := by unfold foldW; rw [List.foldl_append]; rfl
def lookW (out : List (ByteArray × ActL)) (key : ByteArray) : Option ActL := (out.find? (fun q => decide (q.1 = key))).map (·.2)
theorem addW_keys_old {out : List (ByteArray × ActL)} {p : ByteArray × ActL} (h : p.1 ∈ out.map (·.1)) : (addW out p).map (·.1) = out.map (·.1) := by
  rw [addW_old h, List.map_map]
  refine List.map_congr_left (fun q _ => ?_)
  show (if q.1 = p.1 then (q.1, bothL p.1 q.2 p.2) else q).1 = q.1
  split <;> rfl
theorem addW_nodup {out : List (ByteArray × ActL)} (h : (out.map (·.1)).Nodup) (p : ByteArray × ActL) : ((addW out p).map (·.1)).Nodup := by
  rcases Classical.em (p.1 ∈ out.map (·.1)) with q | hn
  · rw [addW_keys_old q]; exact h
  · rw [addW_new hn, List.map_append]
    exact List.nodup_append.2 ⟨h, List.nodup_cons.2 ⟨by simp, List.nodup_nil⟩, fun a ha b hb => by simp at hb; subst hb; exact fun e => hn (e ▸ ha)⟩
theorem foldl_nodup : ∀ (ws out : List (ByteArray × ActL)), (out.map (·.1)).Nodup → ((ws.foldl addW out).map (·.1)).Nodup
  | [], out, h => h
  | p :: ws, out, h => by
    rw [List.foldl_cons]
    exact foldl_nodup ws _ (addW_nodup h p)
theorem foldW_nodup (ws : List (ByteArray × ActL)) : ((foldW ws).map (·.1)).Nodup := foldl_nodup ws [] List.nodup_nil
theorem lookW_none {out : List (ByteArray × ActL)} {key : ByteArray} (h : key ∉ out.map (·.1)) : lookW out key = none := by
  unfold lookW
  rw [List.find?_eq_none.2]
  · rfl
  · intro q hq
    simp only [decide_eq_true_eq]
    exact fun e => h (List.mem_map.2 ⟨q, hq, e⟩)
theorem lookW_append (out : List (ByteArray × ActL)) (p : ByteArray × ActL) (key : ByteArray) : lookW (out ++ [p]) key = (lookW out key).or (if p.1 = key then some p.2 else none) := by
  unfold lookW
  rw [List.find?_append]
  cases out.find? (fun q => decide (q.1 = key)) with
  | some q => rfl
  | none =>
    simp only [Option.none_or, Option.map_none]
    by_cases e : p.1 = key
    · rw [if_pos e, List.find?_cons_of_pos (by simpa using e)]; rfl
    · rw [if_neg e, List.find?_cons_of_neg (by simpa using e)]; rfl
theorem lookW_map (f : ByteArray × ActL → ActL) (k key : ByteArray) : ∀ out : List (ByteArray × ActL),
    lookW (out.map (fun q => if q.1 = k then (q.1, f q) else q)) key = if key = k then (out.find? (fun q => decide (q.1 = key))).map f else lookW out key
  | [] => by unfold lookW; split <;> rfl
  | q :: out => by
    have ih := lookW_map f k key out
    unfold lookW at ih ⊢
    rw [List.map_cons]
    by_cases e : q.1 = key
    · rw [List.find?_cons_of_pos (by simp only [decide_eq_true_eq]; split <;> exact e), List.find?_cons_of_pos (by simpa using e)]
      by_cases e2 : key = k
      · rw [if_pos e2, if_pos (e.trans e2)]; rfl
      · rw [if_neg e2, if_neg (fun h => e2 (e.symm.trans h))]
    · rw [List.find?_cons_of_neg (by simp only [decide_eq_true_eq]; split <;> exact e), List.find?_cons_of_neg (by simpa using e)]
      exact ih
theorem lookW_add {out : List (ByteArray × ActL)} (p : ByteArray × ActL) (key : ByteArray) :
    lookW (addW out p) key = if p.1 = key then some (match lookW out key with | none => p.2 | some a => bothL key a p.2) else lookW out key := by
  rcases Classical.em (p.1 ∈ out.map (·.1)) with h | h
  · rw [addW_old h, lookW_map (fun q => bothL p.1 q.2 p.2)]
    by_cases e : p.1 = key
    · subst e
      rw [if_pos rfl, if_pos rfl]
      unfold lookW
      cases hf : out.find? (fun q => decide (q.1 = p.1)) with
      | some q => rfl
      | none =>
        obtain ⟨q, hq, e⟩ := List.mem_map.1 h
        have := List.find?_eq_none.1 hf q hq
        simp [e] at this
    · rw [if_neg (fun h => e h.symm), if_neg e]
  · rw [addW_new h, lookW_append]
    by_cases e : p.1 = key
    · subst e
      rw [if_pos rfl, if_pos rfl, lookW_none h]; rfl
    · rw [if_neg e, if_neg e]; simp
/-- all acts of a key, put together -/
def chainW (key : ByteArray) (ws : List (ByteArray × ActL)) : Option ActL := ws.foldl (fun c p => if p.1 = key then some (match c with | none => p.2 | some a => bothL key a p.2) else c) none
theorem look_foldl (key : ByteArray) : ∀ (ws out : List (ByteArray × ActL)), lookW (ws.foldl addW out) key = ws.foldl (fun c p => if p.1 = key then some (match c with | none => p.2 | some a => bothL key a p.2) else c) (lookW out key)
  | [], out => rfl
  | p :: ws, out => by
    rw [List.foldl_cons, List.foldl_cons, look_foldl key ws, lookW_add]
theorem look_foldW (key : ByteArray) (ws : List (ByteArray × ActL)) : lookW (foldW ws) key = chainW key ws := look_foldl key ws []
theorem read_other {key : ByteArray} : ∀ (ws : List (ByteArray × ActL)) (v : ValL), key ∉ ws.map (·.1) → readW key v ws = v
  | [], v, _ => rfl
  | p :: ws, v, h => by
    unfold readW
    rw [List.foldl_cons, if_neg (fun e => h (by simp [e]))]
    exact read_other ws v (fun q => h (by simp [q]))
/-- what a list with each key once says of one -/
theorem read_look {key : ByteArray} : ∀ (ws : List (ByteArray × ActL)) (v : ValL), (ws.map (·.1)).Nodup → readW key v ws = match lookW ws key with | none => v | some a => afterL key v a
  | [], v, _ => rfl
  | p :: ws, v, h => by
    rw [List.map_cons, List.nodup_cons] at h
    unfold readW lookW
    rw [List.foldl_cons]
    by_cases e : p.1 = key
    · rw [if_pos e, List.find?_cons_of_pos (by simpa using e)]
      exact read_other ws _ (e ▸ h.1)
    · rw [if_neg e, List.find?_cons_of_neg (by simpa using e)]
      exact read_look ws v h.2
theorem read_chain {key : ByteArray} : ∀ (ws : List (ByteArray × ActL)) (v u : ValL) (c : Option ActL), (∀ p ∈ ws, p.2.Ok ∧ fitsB p.1 p.2 = true) → (∀ a, c = some a → a.Ok ∧ fitsB key a = true) →
    sameV v (match c with | none => u | some a => afterL key u a) = true →
    sameV (readW key v ws) (match ws.foldl (fun c p => if p.1 = key then some (match c with | none => p.2 | some a => bothL key a p.2) else c) c with | none => u | some a => afterL key u a) = true
  | [], v, u, c, _, _, h => h
  | p :: ws, v, u, c, hw, hc, h => by
    unfold readW
    rw [List.foldl_cons, List.foldl_cons]
    have hp := hw p (by simp)
    refine read_chain ws _ u _ (fun q hq => hw q (by simp [hq])) ?_ ?_
    · intro a ha
      by_cases e : p.1 = key
      · rw [if_pos e] at ha
        subst e
        cases c with
        | none => simp only [Option.some.injEq] at ha; subst ha; exact hp
        | some b =>
          simp only [Option.some.injEq] at ha
          subst ha
          exact ⟨both_ok (hc b rfl).1 hp.1, (after_both noVal (hc b rfl).1 hp.1 (hc b rfl).2 hp.2).2⟩
      · rw [if_neg e] at ha
        exact hc a ha
    · by_cases e : p.1 = key
      · rw [if_pos e, if_pos e]
        subst e
        cases c with
        | none => exact after_same hp.1 hp.2 h
        | some b => exact sameV_trans (after_same hp.1 hp.2 h) (after_both u (hc b rfl).1 hp.1 (hc b rfl).2 hp.2).1
      · rw [if_neg e, if_neg e]
        exact h
/-- P2105: folded writes say what all say -/
theorem fold_reads (key : ByteArray) (v : ValL) {ws : List (ByteArray × ActL)} (hw : ∀ p ∈ ws, p.2.Ok ∧ fitsB p.1 p.2 = true) : sameV (readW key v ws) (readW key v (foldW ws)) = true := by
  rw [read_look (foldW ws) v (foldW_nodup ws), look_foldW]
  exact read_chain ws v v none hw (fun a h => by cases h) (sameV_refl v)
theorem foldl_again : ∀ (ws out : List (ByteArray × ActL)), ((out ++ ws).map (·.1)).Nodup → ws.foldl addW out = out ++ ws
  | [], out, _ => by simp
  | p :: ws, out, h => by
    have hn : p.1 ∉ out.map (·.1) := by
      rw [List.map_append, List.map_cons] at h
      have := (List.nodup_append.1 h).2.2
      exact fun q => this _ q _ (by simp) rfl
    rw [List.foldl_cons]
    rw [addW_new hn, foldl_again ws (out ++ [p]) (by simpa using h)]
    simp
theorem fold_twice (ws : List (ByteArray × ActL)) : foldW (foldW ws) = foldW ws := by
  have := foldl_again (foldW ws) [] (by simpa using foldW_nodup ws)
  simpa [foldW] using this
theorem addW_mem {out : List (ByteArray × ActL)} {p q : ByteArray × ActL} (h : q ∈ addW out p) (P : ByteArray × ActL → Prop) (ho : ∀ x ∈ out, P x) (hp : P p) (hb : ∀ x ∈ out, P x → x.1 = p.1 → P (x.1, bothL p.1 x.2 p.2)) : P q := by
  rcases Classical.em (p.1 ∈ out.map (·.1)) with hk | hk
  · rw [addW_old hk] at h
    obtain ⟨x, hx, rfl⟩ := List.mem_map.1 h
    split
    · rename_i e; exact hb x hx (ho x hx) e
    · exact ho x hx
  · rw [addW_new hk] at h
    rcases List.mem_append.1 h with h | h
    · exact ho q h
    · rw [List.mem_singleton] at h; subst h; exact hp
theorem foldl_okW : ∀ (ws out : List (ByteArray × ActL)), (∀ p ∈ ws, WrOk p) → (∀ p ∈ out, WrOk p) → ∀ p ∈ ws.foldl addW out, WrOk p
  | [], out, _, h, p, hp => h p hp
  | p :: ws, out, hw, ho, q, hq => by
    rw [List.foldl_cons] at hq
    refine foldl_okW ws (addW out p) (fun x hx => hw x (by simp [hx])) (fun x hx => ?_) q hq
    exact addW_mem hx WrOk ho (hw p (by simp)) (fun y hy h e => ⟨h.1, both_ok h.2 (hw p (by simp)).2⟩)
theorem foldW_okW {ws : List (ByteArray × ActL)} (h : ∀ p ∈ ws, WrOk p) : ∀ p ∈ foldW ws, WrOk p := foldl_okW ws [] h (fun p hp => by simp at hp)
theorem addW_len (out : List (ByteArray × ActL)) (p : ByteArray × ActL) : (addW out p).length ≤ out.length + 1 := by
  rcases Classical.em (p.1 ∈ out.map (·.1)) with hk | hk
  · rw [addW_old hk]; simp
  · rw [addW_new hk]; simp
theorem foldl_len : ∀ (ws out : List (ByteArray × ActL)), (ws.foldl addW out).length ≤ out.length + ws.length
  | [], out => by simp
  | p :: ws, out => by
    rw [List.foldl_cons]
    have h1 := foldl_len ws (addW out p)
    have h2 := addW_len out p
    rw [List.length_cons]; omega
theorem foldW_len (ws : List (ByteArray × ActL)) : (foldW ws).length ≤ ws.length := by
  have := foldl_len ws []
  simpa [foldW] using this
theorem sameWs_refl (ws : List (ByteArray × ActL)) : sameWs ws ws = true := by
  simp only [sameWs, Bool.and_eq_true, decide_eq_true_eq, List.all_eq_true]
  exact ⟨trivial, fun i _ => ⟨trivial, by simp [sameA]⟩⟩
theorem nodup_keys {ws : List (ByteArray × ActL)} (h : (ws.map (·.1)).Nodup) {i k : Nat} (hi : i < ws.length) (hk : k < i) : (nthW ws k).1 ≠ (nthW ws i).1 := by
  have := List.pairwise_iff_getElem.1 h k i (by simp; omega) (by simpa using hi) hk
  rw [nthW_eq hi, nthW_eq (by omega)]
  simpa using this
end Go.Proofs.YtkpikmfijcffiaaGreat
end

/- slices of writes, own rows of writes. By an AI agent. -/
section
set_option linter.unusedVariables false
set_option linter.unusedSimpArgs false
namespace Go.Proofs.YtkpikmfijcffiaaGreat
open Go.RowKit

def writeCs (p : ByteArray × ActL) : List Value := [.string p.1, .int .i64 p.2.k, .float .f64 p.2.x, .int .i64 p.2.n, .string p.2.s]
/-- the five cells of a pair -/
structure WC (w : World) (b off : Nat) (p : ByteArray × ActL) : Prop where
  c0 : w.cell? ⟨b, off, none⟩ = some (.string p.1)
  c1 : w.cell? ⟨b, off + 1, none⟩ = some (.int .i64 p.2.k)
  c2 : w.cell? ⟨b, off + 2, none⟩ = some (.float .f64 p.2.x)
  c3 : w.cell? ⟨b, off + 3, none⟩ = some (.int .i64 p.2.n)
  c4 : w.cell? ⟨b, off + 4, none⟩ = some (.string p.2.s)
theorem WC.keep {w w' : World} {b off : Nat} {p : ByteArray × ActL} (h : WC w b off p) (k : Bl w w') : WC w' b off p := ⟨k.cell h.c0, k.cell h.c1, k.cell h.c2, k.cell h.c3, k.cell h.c4⟩
/-- a slice that reads as pairs -/
structure WA (w : World) (a : Option Addr) (n : Nat) (ps : List (ByteArray × ActL)) : Prop where
  len : ps.length = n
  cap : n ≤ 1000000
  cells : ∀ j, j < n → ∃ b off, a = some ⟨b, off, none⟩ ∧ ∀ j, j < n → WC w b (off + j * 5) (nthW ps j)
theorem WA.keep {w w' : World} {a : Option Addr} {n : Nat} {ps : List (ByteArray × ActL)} (h : WA w a n ps) (k : Bl w w') : WA w' a n ps :=
  ⟨h.len, h.cap, fun j hj => by
    obtain ⟨b, off, e, hc⟩ := h.cells j hj
    exact ⟨b, off, e, fun j hj => (hc j hj).keep k⟩⟩
theorem WA.get {w W : World} {b off n : Nat} {ps : List (ByteArray × ActL)} (h : WA w (some ⟨b, off, none⟩) n ps) (hb : Bl w W) {k : Nat} (hk : k < n) : WC W b (off + k * 5) (nthW ps k) := by
  obtain ⟨b', off', e, hc⟩ := h.cells k hk
  cases e
  exact (hc k hk).keep hb

/-! ### a slice of pairs that lies from a block on -/
theorem WA.apart {w : World} {a : Option Addr} {n : Nat} {ps : List (ByteArray × ActL)} (h : WA w a n ps) {q : Nat} (hq : ∀ b off, a = some ⟨b, off, none⟩ → n = 0 ∨ b ≠ q) (j : Nat) (u : Value) : WA (w.setCell ⟨q, j, none⟩ u) a n ps := by
  refine ⟨h.len, h.cap, fun i hi => ?_⟩
  obtain ⟨b, off, e, hc⟩ := h.cells i hi
  refine ⟨b, off, e, fun i hi => ?_⟩
  have hne : b ≠ q := by
    have := hq b off e
    omega
  have key : ∀ k v, w.cell? ⟨b, k, none⟩ = some v → (w.setCell ⟨q, j, none⟩ u).cell? ⟨b, k, none⟩ = some v := fun k v hv => by
    rw [← hv]
    unfold World.cell?
    rw [Below.heap_setCell _ _ _ _ hne]
  have c := hc i hi
  exact ⟨key _ _ c.c0, key _ _ c.c1, key _ _ c.c2, key _ _ c.c3, key _ _ c.c4⟩
def FarWA (B : Nat) (w : World) (a : Option Addr) (n : Nat) (ps : List (ByteArray × ActL)) : Prop := WA w a n ps ∧ ∀ b off, a = some ⟨b, off, none⟩ → n = 0 ∨ B ≤ b
theorem FarWA.keep {B : Nat} {w w' : World} {a : Option Addr} {n : Nat} {ps : List (ByteArray × ActL)} (h : FarWA B w a n ps) (hb : Bl w w') : FarWA B w' a n ps := ⟨h.1.keep hb, h.2⟩
theorem FarWA.mono {B B' : Nat} {w : World} {a : Option Addr} {n : Nat} {ps : List (ByteArray × ActL)} (h : FarWA B w a n ps) (hB : B' ≤ B) : FarWA B' w a n ps := ⟨h.1, fun b off e => by have := h.2 b off e; omega⟩
theorem FarWA.set {B : Nat} {w : World} {a : Option Addr} {n : Nat} {ps : List (ByteArray × ActL)} (h : FarWA B w a n ps) {q : Nat} (hq : q < B) (j : Nat) (u : Value) : FarWA B (w.setCell ⟨q, j, none⟩ u) a n ps :=
  ⟨h.1.apart (fun b off e => by have := h.2 b off e; omega) j u, h.2⟩
theorem FarWA.nil (B : Nat) (w : World) : FarWA B w none 0 [] := ⟨⟨rfl, by decide, fun j hj => absurd hj (Nat.not_lt_zero _)⟩, fun _ _ _ => .inl rfl⟩

/-! ### own rows of pairs -/
def cellsW (ps : List (ByteArray × ActL)) : List Value := ps.flatMap writeCs
theorem cellsW_snoc (ps : List (ByteArray × ActL)) (p : ByteArray × ActL) : cellsW (ps ++ [p]) = cellsW ps ++ writeCs p := by simp [cellsW]
theorem cellsW_len (ps : List (ByteArray × ActL)) : (cellsW ps).length = ps.length * 5 := by
  induction ps with
  | nil => rfl
  | cons p ps ih =>
    have : cellsW (p :: ps) = writeCs p ++ cellsW ps := by simp [cellsW]
    rw [this, List.length_append, ih]
    show 5 + _ = _
    rw [List.length_cons]; omega
theorem cellsW_get : ∀ (ps : List (ByteArray × ActL)) (j : Nat), j < ps.length → ∀ r, r < 5 → (cellsW ps)[j * 5 + r]? = (writeCs (nthW ps j))[r]?
  | [], j, hj, _, _ => by simp at hj
  | p :: ps, 0, _, r, hr => by
    have e : cellsW (p :: ps) = writeCs p ++ cellsW ps := by simp [cellsW]
    rw [e, Nat.zero_mul, Nat.zero_add, List.getElem?_append_left (show r < (writeCs p).length from hr)]
    rfl
  | p :: ps, j + 1, hj, r, hr => by
    have e : cellsW (p :: ps) = writeCs p ++ cellsW ps := by simp [cellsW]
    have hl : (writeCs p).length = 5 := rfl
    rw [e, List.getElem?_append_right (by rw [hl]; omega), hl, show (j + 1) * 5 + r - 5 = j * 5 + r by omega]
    have h1 := cellsW_get ps j (by simpa using hj) r hr
    rw [h1]
    have h2 : nthW (p :: ps) (j + 1) = nthW ps j := by unfold nthW; simp
    rw [h2]
def OWR (B : Nat) (w : World) (v : Value) (k : Nat) (ps : List (ByteArray × ActL)) : Prop := ps.length = k ∧ w.ownsRow B 58 5 v k (cellsW ps)
theorem OWR.nil (B : Nat) (w : World) : OWR B w (.slice none 0 0) 0 [] := ⟨rfl, World.ownsRow_nil _ _ _ _⟩
theorem OWR.keep {B : Nat} {w w' : World} {v : Value} {k : Nat} {ps : List (ByteArray × ActL)} (h : OWR B w v k ps) (hb : Bl w w') : OWR B w' v k ps := ⟨h.1, ownsRow_bl h.2 hb⟩
theorem OWR.set {B : Nat} {w : World} {v : Value} {k : Nat} {ps : List (ByteArray × ActL)} (h : OWR B w v k ps) {q : Nat} (hq : q < B) (j : Nat) (u : Value) : OWR B (w.setCell ⟨q, j, none⟩ u) v k ps := by
  refine ⟨h.1, ?_⟩
  obtain ⟨h1, h2 | ⟨g, cap, cur, hv, hB, hg, r⟩⟩ := h.2
  · exact ⟨h1, .inl h2⟩
  · exact ⟨h1, .inr ⟨g, cap, cur, hv, hB, by rw [Below.heap_setCell _ _ _ _ (show g ≠ q by omega)]; exact hg, r⟩⟩
theorem OWR.form {B : Nat} {w : World} {v : Value} {k : Nat} {ps : List (ByteArray × ActL)} (h : OWR B w v k ps) : ∃ a ca, v = .slice a k ca := by
  obtain ⟨h1, ⟨hv, hk⟩ | ⟨g, cap, cur, hv, hB, hg, r⟩⟩ := h.2
  · subst hk; exact ⟨_, _, hv⟩
  · exact ⟨_, _, hv⟩
theorem OWR.far {B : Nat} {w : World} {a : Option Addr} {k k' ca : Nat} {ps : List (ByteArray × ActL)} (h : OWR B w (.slice a k' ca) k ps) (hk : k ≤ 1000000) : FarWA B w a k ps := by
  obtain ⟨h0, hown⟩ := h
  obtain ⟨h1, ⟨hv, hk0⟩ | ⟨g, cap, cur, hv, hB, hg, r⟩⟩ := hown
  · simp only [Value.slice.injEq] at hv
    obtain ⟨rfl, -, -⟩ := hv
    subst hk0
    have : ps = [] := List.eq_nil_of_length_eq_zero h0
    subst this
    exact FarWA.nil _ _
  · simp only [Value.slice.injEq] at hv
    obtain ⟨rfl, rfl, rfl⟩ := hv
    have hown : w.ownsRow B 58 5 (.slice (some ⟨g, 0, none⟩) k' ca) k' (cellsW ps) := ⟨h1, .inr ⟨g, ca, cur, rfl, hB, hg, r⟩⟩
    refine ⟨⟨h0, hk, fun j0 _ => ⟨g, 0, rfl, fun j hj => ?_⟩⟩, fun b off e => ?_⟩
    · have key : ∀ r, r < 5 → w.cell? ⟨g, 0 + j * 5 + r, none⟩ = (writeCs (nthW ps j))[r]? := fun r hr => by
        rw [show 0 + j * 5 + r = j * 5 + r by omega, hown.cellAt (j * 5 + r) (by omega), cellsW_get ps j (by omega) r hr]
      exact ⟨key 0 (by decide), key 1 (by decide), key 2 (by decide), key 3 (by decide), key 4 (by decide)⟩
    · simp only [Option.some.injEq, Addr.mk.injEq, and_true] at e
      exact .inr (by omega)
theorem el_wr : EL 22 58 5 56 := el_of Tryz.underlying22 (by kernel_rfl) (by decide)
end Go.Proofs.YtkpikmfijcffiaaGreat
end

/- what it is that a value reads as a transaction, a slice as transactions. By an AI agent. -/
section
set_option linter.unusedVariables false
set_option linter.unusedSimpArgs false
namespace Go.Proofs.YtkpikmfijcffiaaGreat
open Go.RowKit

/-- a slice that reads as writes, however long -/
structure WW (w : World) (a : Option Addr) (n : Nat) (ps : List (ByteArray × ActL)) : Prop where
  len : ps.length = n
  cap : n * 56 ≤ 140737488351232
  cells : ∀ j, j < n → ∃ b off, a = some ⟨b, off, none⟩ ∧ ∀ j, j < n → WC w b (off + j * 5) (nthW ps j)
  ok : ∀ p ∈ ps, WrOk p
theorem WW.keep {w w' : World} {a : Option Addr} {n : Nat} {ps : List (ByteArray × ActL)} (h : WW w a n ps) (k : Bl w w') : WW w' a n ps :=
  ⟨h.len, h.cap, fun j hj => by
    obtain ⟨b, off, e, hc⟩ := h.cells j hj
    exact ⟨b, off, e, fun j hj => (hc j hj).keep k⟩, h.ok⟩
theorem WW.get {w W : World} {b off n : Nat} {ps : List (ByteArray × ActL)} (h : WW w (some ⟨b, off, none⟩) n ps) (hb : Bl w W) {k : Nat} (hk : k < n) : WC W b (off + k * 5) (nthW ps k) := by
  obtain ⟨b', off', e, hc⟩ := h.cells k hk
  cases e
  exact (hc k hk).keep hb
theorem WW.wa {w : World} {a : Option Addr} {n : Nat} {ps : List (ByteArray × ActL)} (h : WW w a n ps) (hn : n ≤ 1000000) : WA w a n ps := ⟨h.len, hn, h.cells⟩
theorem WA.ww {w : World} {a : Option Addr} {n : Nat} {ps : List (ByteArray × ActL)} (h : WA w a n ps) (ok : ∀ p ∈ ps, WrOk p) : WW w a n ps := ⟨h.len, by have := h.cap; omega, h.cells, ok⟩
theorem WW.nil (w : World) (a : Option Addr) : WW w a 0 [] := ⟨rfl, by decide, fun j hj => absurd hj (Nat.not_lt_zero _), fun p h => by simp at h⟩
theorem WA.lit1 (w : World) (p : ByteArray × ActL) (T : TypeId) : WA (w.alloc (.cells (writeCs p).toArray T)) (some ⟨w.heap.size, 0, none⟩) 1 [p] := by
  have h := AC.new w _ rfl (writeCs p) T
  refine ⟨rfl, by decide, fun j hj => ⟨_, _, rfl, fun j hj => ?_⟩⟩
  obtain rfl : j = 0 := by omega
  exact ⟨h.cell 0 _ rfl, h.cell 1 _ rfl, h.cell 2 _ rfl, h.cell 3 _ rfl, h.cell 4 _ rfl⟩

/-- where a transaction's three lists lie -/
structure TxAt where
  da : Option Addr
  dn : Nat
  dc : Nat
  aa : Option Addr
  an : Nat
  ac : Nat
  wa : Option Addr
  wn : Nat
  wc : Nat
def txCs (t : TxnL) (s : TxAt) : List Value := [.int .i64 t.o, .int .i64 t.num, .int .i64 t.prev, .slice s.da s.dn s.dc, .slice s.aa s.an s.ac, .slice s.wa s.wn s.wc]
def txV (t : TxnL) (s : TxAt) : Value := .agg #[.int .i64 t.o, .int .i64 t.num, .int .i64 t.prev, .slice s.da s.dn s.dc, .slice s.aa s.an s.ac, .slice s.wa s.wn s.wc]
structure TX (w : World) (s : TxAt) (t : TxnL) : Prop where
  deps : IA w s.da s.dn t.deps
  at_ : IA w s.aa s.an t.at_
  ws : WW w s.wa s.wn t.ws
  o : -9223372036854775808 ≤ t.o ∧ t.o ≤ 9223372036854775807
  num : -9223372036854775808 ≤ t.num ∧ t.num ≤ 9223372036854775807
  prev : -9223372036854775808 ≤ t.prev ∧ t.prev ≤ 9223372036854775807
theorem TX.keep {w w' : World} {s : TxAt} {t : TxnL} (h : TX w s t) (k : Bl w w') : TX w' s t := ⟨h.deps.keep k, h.at_.keep k, h.ws.keep k, h.o, h.num, h.prev⟩
theorem TX.txOk {w : World} {s : TxAt} {t : TxnL} (h : TX w s t) : TxOk t := ⟨h.o, h.num, h.prev, h.ws.ok⟩
theorem AC.tx {w : World} {g : Nat} {t : TxnL} {s : TxAt} (h : AC w g (txCs t s)) :
    w.cell? ⟨g, 0, none⟩ = some (.int .i64 t.o) ∧ w.cell? ⟨g, 1, none⟩ = some (.int .i64 t.num) ∧ w.cell? ⟨g, 2, none⟩ = some (.int .i64 t.prev) ∧ w.cell? ⟨g, 3, none⟩ = some (.slice s.da s.dn s.dc) ∧ w.cell? ⟨g, 4, none⟩ = some (.slice s.aa s.an s.ac) ∧ w.cell? ⟨g, 5, none⟩ = some (.slice s.wa s.wn s.wc) :=
  ⟨h.cell 0 _ rfl, h.cell 1 _ rfl, h.cell 2 _ rfl, h.cell 3 _ rfl, h.cell 4 _ rfl, h.cell 5 _ rfl⟩
def nilTx : TxnL := ⟨0, 0, 0, [], [], []⟩
def nthT (ts : List TxnL) (j : Nat) : TxnL := ts.getD j nilTx
theorem nthT_eq {ts : List TxnL} {j : Nat} (h : j < ts.length) : nthT ts j = ts[j] := by
  unfold nthT
  rw [List.getD_eq_getElem?_getD, List.getElem?_eq_getElem h]; rfl
theorem nthT_mem {ts : List TxnL} {j : Nat} (h : j < ts.length) : nthT ts j ∈ ts := by
  rw [nthT_eq h]; exact List.getElem_mem h
/-- the six cells of a transaction -/
structure TC (w : World) (b off : Nat) (t : TxnL) (s : TxAt) : Prop where
  c0 : w.cell? ⟨b, off, none⟩ = some (.int .i64 t.o)
  c1 : w.cell? ⟨b, off + 1, none⟩ = some (.int .i64 t.num)
  c2 : w.cell? ⟨b, off + 2, none⟩ = some (.int .i64 t.prev)
  c3 : w.cell? ⟨b, off + 3, none⟩ = some (.slice s.da s.dn s.dc)
  c4 : w.cell? ⟨b, off + 4, none⟩ = some (.slice s.aa s.an s.ac)
  c5 : w.cell? ⟨b, off + 5, none⟩ = some (.slice s.wa s.wn s.wc)
theorem TC.keep {w w' : World} {b off : Nat} {t : TxnL} {s : TxAt} (h : TC w b off t s) (k : Bl w w') : TC w' b off t s := ⟨k.cell h.c0, k.cell h.c1, k.cell h.c2, k.cell h.c3, k.cell h.c4, k.cell h.c5⟩
/-- a slice that reads as transactions -/
structure TS (w : World) (a : Option Addr) (n : Nat) (ts : List TxnL) (f : Nat → TxAt) : Prop where
  len : ts.length = n
  cap : n * 96 ≤ 140737488351232
  cells : ∀ j, j < n → ∃ b off, a = some ⟨b, off, none⟩ ∧ ∀ j, j < n → TC w b (off + j * 6) (nthT ts j) (f j)
  tx : ∀ j, j < n → TX w (f j) (nthT ts j)
theorem TS.keep {w w' : World} {a : Option Addr} {n : Nat} {ts : List TxnL} {f : Nat → TxAt} (h : TS w a n ts f) (k : Bl w w') : TS w' a n ts f :=
  ⟨h.len, h.cap, fun j hj => by
    obtain ⟨b, off, e, hc⟩ := h.cells j hj
    exact ⟨b, off, e, fun j hj => (hc j hj).keep k⟩, fun j hj => (h.tx j hj).keep k⟩
theorem TS.get {w W : World} {b off n : Nat} {ts : List TxnL} {f : Nat → TxAt} (h : TS w (some ⟨b, off, none⟩) n ts f) (hb : Bl w W) {k : Nat} (hk : k < n) : TC W b (off + k * 6) (nthT ts k) (f k) := by
  obtain ⟨b', off', e, hc⟩ := h.cells k hk
  cases e
  exact (hc k hk).keep hb
theorem TS.nil (w : World) (a : Option Addr) (f : Nat → TxAt) : TS w a 0 [] f := ⟨rfl, by decide, fun j hj => absurd hj (Nat.not_lt_zero _), fun j hj => absurd hj (Nat.not_lt_zero _)⟩
theorem TS.lit1 {w : World} {t : TxnL} {s : TxAt} (h : TX w s t) (T : TypeId) : TS (w.alloc (.cells (txCs t s).toArray T)) (some ⟨w.heap.size, 0, none⟩) 1 [t] (fun _ => s) := by
  have g := AC.new w _ rfl (txCs t s) T
  refine ⟨rfl, by decide, fun j hj => ⟨_, _, rfl, fun j hj => ?_⟩, fun j hj => ?_⟩
  · obtain rfl : j = 0 := by omega
    exact ⟨g.cell 0 _ rfl, g.cell 1 _ rfl, g.cell 2 _ rfl, g.cell 3 _ rfl, g.cell 4 _ rfl, g.cell 5 _ rfl⟩
  · obtain rfl : j = 0 := by omega
    exact h.keep ((Bl.refl w).alloc _)
end Go.Proofs.YtkpikmfijcffiaaGreat
end

/- bedrockref3: Leq, Same, Valid. By an AI agent. -/
section
namespace Go.Proofs.YtkpikmfijcffiaaGreat
open Go.RowKit

set_option maxHeartbeats 400000 in
theorem rleq_any (a b : Option Addr) (n m ca cb : Nat) (xs ys : List Int) (w : World) (hx : IA w a n xs) (hy : IA w b m ys) :
    Calls Tryz.prog 195 #[.slice a n ca, .slice b m cb] w fun e w' => e = .returned (.bool (leqL xs ys)) ∧ Bl w w' := by
  have hx1 := hx.cap
  have hy1 := hy.cap
  by_cases hl : n = m
  · subst hl
    have HLL := Lib.hid (hx.len.trans hy.len.symm)
    have HX := Lib.hid hx.len
    have h2 : ((n : Int) != (n : Int)) = false := by simp
    go_enter Tryz.func195, Tryz.ntmps195
    go_wp2
    go_loopw [5] (fun i wr => ∃ k : Nat, k ≤ n ∧ i = .int .i64 k ∧ Bl w wr ∧ ∀ j, j < k → nth xs j ≤ nth ys j) (fun i _ => n - (intOf i).toNat)
    case atStart => exact ⟨0, Nat.zero_le _, rfl, Bl.refl _, fun j h => by omega⟩
    case round =>
      obtain ⟨k, hk, rfl, hbl, hle⟩ := hrel
      have HLE := Lib.hid hle; clear hle
      by_cases hlt : k < n
      · obtain ⟨ba, oa, rfl, hca⟩ := hx.cells k hlt
        obtain ⟨bb, ob, rfl, hcb⟩ := hy.cells k hlt
        have ha := hbl.cell (hca k hlt)
        have hb := hbl.cell (hcb k hlt)
        clear hca hcb
        by_cases hgt : nth ys k < nth xs k
        · have HR := Lib.hid (leqL_false HLL.out (by rw [HX.out]; exact hlt) hgt)
          go_wp2
          go_quiet (fail)
          go_wp2
          go_ret
          exact ⟨ret_bool HR.out.symm, hbl.drewN _⟩
        · go_wp2
          go_quiet (fail)
          go_wp2
          go_roundw
          case rel => exact ⟨k + 1, by omega, by go_num, hbl.drewN _, fun j hj => by
            by_cases e : j = k
            · subst e; omega
            · exact HLE.out j (by omega)⟩
          case measure => simp [intOf]; omega
      · have HR := Lib.hid ((leqL_iff HLL.out).2 (fun j hj => HLE.out j (by rw [HX.out] at hj; omega)))
        go_wp2
        go_ret
        exact ⟨ret_bool HR.out.symm, hbl⟩
  · have h2 : ((n : Int) != (m : Int)) = true := by simp; omega
    have HR := Lib.hid (leqL_len (xs := xs) (ys := ys) (by rw [hx.len, hy.len]; exact hl))
    go_enter Tryz.func195, Tryz.ntmps195
    go_wp2
    go_ret
    exact ⟨ret_bool HR.out.symm, Bl.refl _⟩

theorem leq_both (xs ys : List Int) : (leqL xs ys && leqL ys xs) = decide (xs = ys) := by
  by_cases hl : xs.length = ys.length
  · rw [Bool.eq_iff_iff, Bool.and_eq_true, decide_eq_true_eq, leqL_iff hl, leqL_iff hl.symm]
    constructor
    · rintro ⟨h1, h2⟩
      exact getD_ext hl fun j hj => Int.le_antisymm (h1 j hj) (h2 j (by omega))
    · rintro rfl
      exact ⟨fun _ _ => Int.le_refl _, fun _ _ => Int.le_refl _⟩
  · rw [leqL_len hl, decide_eq_false (fun e => hl (by rw [e]))]; rfl

theorem rsame_any (a b : Option Addr) (n m ca cb : Nat) (xs ys : List Int) (w : World) (hx : IA w a n xs) (hy : IA w b m ys) :
    Calls Tryz.prog 189 #[.slice a n ca, .slice b m cb] w fun e w' => e = .returned (.bool (decide (xs = ys))) ∧ Bl w w' := by
  have HB := Lib.hid (leq_both xs ys)
  cases h1 : leqL xs ys
  · have HQ := Lib.hid h1
    go_enter Tryz.func189, Tryz.ntmps189
    go_wp2_with fail
    refine (rleq_any a b n m ca cb xs ys _ hx hy).mono ?_
    rintro e w1 ⟨rfl, hb1⟩
    rw [h1]
    clear h1
    go_wp2_with fail
    go_ret
    exact ⟨ret_bool (by rw [← HB.out, HQ.out]; rfl), hb1⟩
  · have HQ := Lib.hid h1
    go_enter Tryz.func189, Tryz.ntmps189
    go_wp2_with fail
    refine (rleq_any a b n m ca cb xs ys _ hx hy).mono ?_
    rintro e w1 ⟨rfl, hb1⟩
    rw [h1]
    clear h1
    go_wp2_with fail
    refine (rleq_any b a m n cb ca ys xs _ (hy.keep hb1) (hx.keep hb1)).mono ?_
    rintro e w2 ⟨rfl, hb2⟩
    go_wp2_with fail
    go_ret
    exact ⟨ret_bool (by rw [← HB.out, HQ.out]; rfl), hb1.trans hb2⟩
end Go.Proofs.YtkpikmfijcffiaaGreat
end

/- real.Min. By an AI agent. -/
section
set_option linter.unusedVariables false
namespace Go.Proofs.YtkpikmfijcffiaaGreat
open Go.RowKit Ieee

theorem rmin_any (x y : Nat) (w : World) (hx : x < two64) (hy : y < two64) : Calls Tryz.prog 168 #[.float .f64 x, .float .f64 y] w fun e w' => e = .returned (.float .f64 (rmin x y)) ∧ Bl w w' := by
  by_cases h : 0 < cmpN (fkey x) (fkey y)
  · have HR := Lib.hid (show rmin x y = y from if_pos h)
    go_enter Tryz.func168, Tryz.ntmps168
    go_wp2_with fail
    refine (rcompare_any x y _ hx hy).mono ?_
    rintro e w1 ⟨rfl, hb1⟩
    go_wp2_with fail
    go_ret
    exact ⟨congrArg (fun b => Ending.returned (.float .f64 b)) HR.out.symm, hb1⟩
  · have HR := Lib.hid (show rmin x y = x from if_neg h)
    go_enter Tryz.func168, Tryz.ntmps168
    go_wp2_with fail
    refine (rcompare_any x y _ hx hy).mono ?_
    rintro e w1 ⟨rfl, hb1⟩
    go_wp2_with fail
    go_ret
    exact ⟨congrArg (fun b => Ending.returned (.float .f64 b)) HR.out.symm, hb1⟩
end Go.Proofs.YtkpikmfijcffiaaGreat
end
