import Derived.Test.YtaokennbpgdngaaCore1
import Derived.Test.YtaokennbpgdngaaCore12

/- a list with another number at a place. By an AI agent. -/
section
set_option linter.unusedVariables false
set_option linter.unusedSimpArgs false
namespace Go.Proofs.Ytaokennbpgdngaa
open Go.RowKit

/-- a list with another number at a place -/
def withL (xs : List Int) (i t : Int) : List Int := if 0 ≤ i then xs.set i.toNat t else xs

theorem withL_len (xs : List Int) (i t : Int) : (withL xs i t).length = xs.length := by unfold withL; split <;> simp
theorem withL_nth (xs : List Int) (i t : Int) (j : Nat) (hj : j < xs.length) : nth (withL xs i t) j = if (j : Int) = i then t else nth xs j := by
  unfold withL
  split
  · rename_i h0
    rw [nth_eq (by simpa using hj), nth_eq hj, List.getElem_set]
    split <;> split <;> first | rfl | omega
  · rw [if_neg (by omega)]

theorem withL_wf {xs : List Int} {i t : Int} (hx : ∀ x ∈ xs, -9223372036854775808 ≤ x ∧ x ≤ 9223372036854775807) (ht : -9223372036854775808 ≤ t ∧ t ≤ 9223372036854775807) : ∀ x ∈ withL xs i t, -9223372036854775808 ≤ x ∧ x ≤ 9223372036854775807 := by
  intro x h
  unfold withL at h
  split at h
  · rcases List.mem_or_eq_of_mem_set h with h | h
    · exact hx x h
    · rw [h]; exact ht
  · exact hx x h
end Go.Proofs.Ytaokennbpgdngaa
end

/- transactions, and their bytes: plain definitions and laws. By an AI agent. -/
section
set_option linter.unusedVariables false
set_option linter.unusedSimpArgs false
namespace Go.Proofs.Ytaokennbpgdngaa
open Go.RowKit

structure TxnL where
  o : Int
  num : Int
  prev : Int
  deps : List Int
  at_ : List Int
  ws : List (ByteArray × ActL)
def nthW (ws : List (ByteArray × ActL)) (j : Nat) : ByteArray × ActL := ws.getD j (⟨#[]⟩, ⟨0, 0, 0, ⟨#[]⟩⟩)
theorem nthW_eq {ws : List (ByteArray × ActL)} {j : Nat} (h : j < ws.length) : nthW ws j = ws[j] := by
  unfold nthW
  rw [List.getD_eq_getElem?_getD, List.getElem?_eq_getElem h]; rfl
theorem nthW_mem {ws : List (ByteArray × ActL)} {j : Nat} (h : j < ws.length) : nthW ws j ∈ ws := by
  rw [nthW_eq h]; exact List.getElem_mem h
/-- no key of the first i is the i-th one's -/
def freshAt (ws : List (ByteArray × ActL)) (i : Nat) : Bool := !(ws.take i).any (fun q => decide (q.1 = (nthW ws i).1))
def okW (ws : List (ByteArray × ActL)) (i : Nat) : Bool := freshAt ws i && fitsB (nthW ws i).1 (nthW ws i).2
def atT (t : TxnL) : Int := nth t.at_ t.o.toNat
def frontT (t : TxnL) : Bool := validL t.deps && (validL t.at_ && (decide (t.deps.length = t.at_.length) && decide (0 ≤ t.o ∧ t.o < t.at_.length)))
def timeT (t : TxnL) : Bool := decide (1 ≤ t.num ∧ t.num ≤ 281474976710655 ∧ 0 ≤ t.prev ∧ t.prev < atT t ∧ nth t.deps t.o.toNat < atT t ∧ withL t.deps t.o (atT t) = t.at_)
def writesT (ws : List (ByteArray × ActL)) : Bool := (List.range ws.length).all (okW ws) && decide (1 ≤ ws.length ∧ ws.length ≤ 200)
def validT (t : TxnL) : Bool := frontT t && (timeT t && writesT t.ws)
structure TxParts (t : TxnL) : Prop where
  deps : validL t.deps = true
  at_ : validL t.at_ = true
  len : t.deps.length = t.at_.length
  o0 : 0 ≤ t.o
  o1 : t.o < t.at_.length
  num : 1 ≤ t.num ∧ t.num ≤ 281474976710655
  prev : 0 ≤ t.prev ∧ t.prev < atT t
  less : nth t.deps t.o.toNat < atT t
  eq : withL t.deps t.o (atT t) = t.at_
  ok : ∀ i, i < t.ws.length → okW t.ws i = true
  few : 1 ≤ t.ws.length ∧ t.ws.length ≤ 200
theorem validT_parts {t : TxnL} (h : validT t = true) : TxParts t := by
  simp only [validT, frontT, timeT, writesT, Bool.and_eq_true, decide_eq_true_eq, List.all_eq_true, List.mem_range] at h
  obtain ⟨⟨h1, h2, h3, h4, h5⟩, ⟨h6, h7, h8, h9, h10, h11⟩, h12, h13⟩ := h
  exact ⟨h1, h2, h3, h4, h5, ⟨h6, h7⟩, ⟨h8, h9⟩, h10, h11, h12, h13⟩
theorem validT_of {t : TxnL} (h : TxParts t) : validT t = true := by
  simp only [validT, frontT, timeT, writesT, Bool.and_eq_true, decide_eq_true_eq, List.all_eq_true, List.mem_range]
  exact ⟨⟨h.deps, h.at_, h.len, h.o0, h.o1⟩, ⟨h.num.1, h.num.2, h.prev.1, h.prev.2, h.less, h.eq⟩, h.ok, h.few⟩
theorem TxParts.fits {t : TxnL} (h : TxParts t) {p : ByteArray × ActL} (hp : p ∈ t.ws) : fitsB p.1 p.2 = true := by
  obtain ⟨i, hi, rfl⟩ := List.getElem_of_mem hp
  have := h.ok i hi
  simp only [okW, Bool.and_eq_true] at this
  rw [nthW_eq hi] at this
  exact this.2
/-- a time of a transaction is one -/
theorem TxParts.bound {t : TxnL} (h : TxParts t) : 0 ≤ atT t ∧ atT t < 281474976710656 :=
  (valid_parts h.at_).2.2 _ (by have := h.o0; have := h.o1; omega)
/-- within Go's bounds -/
def WrOk (p : ByteArray × ActL) : Prop := p.1.size ≤ 140737488351232 ∧ p.2.Ok
structure TxOk (t : TxnL) : Prop where
  o : -9223372036854775808 ≤ t.o ∧ t.o ≤ 9223372036854775807
  num : -9223372036854775808 ≤ t.num ∧ t.num ≤ 9223372036854775807
  prev : -9223372036854775808 ≤ t.prev ∧ t.prev ≤ 9223372036854775807
  ws : ∀ p ∈ t.ws, WrOk p

/-! ### the same -/
def sameWs (a b : List (ByteArray × ActL)) : Bool := decide (a.length = b.length) && (List.range a.length).all fun i => decide ((nthW a i).1 = (nthW b i).1) && sameA (nthW a i).2 (nthW b i).2
def sameT (a b : TxnL) : Bool := decide (a.o = b.o ∧ a.num = b.num ∧ a.prev = b.prev) && (decide (a.deps = b.deps) && (decide (a.at_ = b.at_) && sameWs a.ws b.ws))

theorem sameWs_iff {a b : List (ByteArray × ActL)} : sameWs a b = true ↔ a.length = b.length ∧ ∀ i, i < a.length → (nthW a i).1 = (nthW b i).1 ∧ sameA (nthW a i).2 (nthW b i).2 = true := by
  unfold sameWs
  rw [Bool.and_eq_true, decide_eq_true_eq, List.all_eq_true]
  constructor
  · rintro ⟨h1, h2⟩
    refine ⟨h1, fun i hi => ?_⟩
    have := h2 i (List.mem_range.2 hi)
    rw [Bool.and_eq_true, decide_eq_true_eq] at this
    exact this
  · rintro ⟨h1, h2⟩
    refine ⟨h1, fun i hi => ?_⟩
    rw [Bool.and_eq_true, decide_eq_true_eq]
    exact h2 i (List.mem_range.1 hi)
theorem sameT_iff {a b : TxnL} : sameT a b = true ↔ a.o = b.o ∧ a.num = b.num ∧ a.prev = b.prev ∧ a.deps = b.deps ∧ a.at_ = b.at_ ∧ sameWs a.ws b.ws = true := by
  unfold sameT
  simp only [Bool.and_eq_true, decide_eq_true_eq, and_assoc]
/-! ### in bytes -/
def putWr (p : ByteArray × ActL) : List UInt8 := numB (p.1.size : Int) 1 ++ (p.1.data.toList ++ (numB ((putA p.2).length : Int) 2 ++ putA p.2))
def headTx (t : TxnL) : List UInt8 := numB t.o 1 ++ (numB t.num 6 ++ (numB t.prev 6 ++ (putL t.deps ++ numB (atT t) 6)))
def bodyTx (t : TxnL) : List UInt8 := headTx t ++ t.ws.flatMap putWr
def putTx (t : TxnL) : List UInt8 := sealL (bodyTx t)
def rdWr (l : List UInt8) : Option ((ByteArray × ActL) × List UInt8) :=
  (rdNum 1 l).bind fun p1 => (rdTake p1.1.toNat p1.2).bind fun p2 => (rdNum 2 p2.2).bind fun p3 => (rdTake p3.1.toNat p3.2).bind fun p4 =>
    if (getA p4.1).2 = 0 then some ((⟨p2.1.toArray⟩, (getA p4.1).1), p4.2) else none
def rdWrs : Nat → List UInt8 → Option (List (ByteArray × ActL))
  | 0, l => if l.length = 0 then some [] else none
  | n + 1, l => if l.length = 0 then some [] else (rdWr l).bind fun p => (rdWrs n p.2).map fun q => p.1 :: q
def rdHead (l : List UInt8) : Option ((Int × Int × Int × List Int × Int) × List UInt8) :=
  (rdNum 1 l).bind fun p1 => (rdNum 6 p1.2).bind fun p2 => (rdNum 6 p2.2).bind fun p3 => (rdV p3.2).bind fun p4 => (rdNum 6 p4.2).bind fun p5 =>
    some ((p1.1, p2.1, p3.1, p4.1, p5.1), p5.2)
def txOf (h : Int × Int × Int × List Int × Int) (ws : List (ByteArray × ActL)) : TxnL := ⟨h.1, h.2.1, h.2.2.1, h.2.2.2.1, withL h.2.2.2.1 h.1 h.2.2.2.2, ws⟩
def rdBodyT (l : List UInt8) : Option TxnL := (rdHead l).bind fun p => (rdWrs p.2.length p.2).map fun q => txOf p.1 q
def rdTx (l : List UInt8) : Option TxnL :=
  if 4 ≤ l.length ∧ l.length ≤ 65000 ∧ numB (sumL (l.take (l.length - 4)) : Int) 4 = l.drop (l.length - 4) then
    (rdBodyT (l.take (l.length - 4))).bind fun t => if validT t = true then some t else none
  else none
def canonW (p : ByteArray × ActL) : ByteArray × ActL := (p.1, (getA (putA p.2)).1)
def canonT (t : TxnL) : TxnL := ⟨t.o, t.num, t.prev, t.deps, t.at_, t.ws.map canonW⟩

theorem rdWr_put {p : ByteArray × ActL} (ok : p.2.Ok) (hf : fitsB p.1 p.2 = true) (m : List UInt8) : rdWr (putWr p ++ m) = some (canonW p, m) := by
  have h1 := key_size (fits_key hf).1
  have hr := (fits_key hf).2
  have h2 := putA_len hr
  have hc := (getA_putA ok hr).1
  have e1 : (⟨p.1.data.toList.toArray⟩ : ByteArray) = p.1 := by simp
  unfold rdWr putWr
  simp only [List.append_assoc]
  rw [rdNum_put 1 _ _ (by omega) (by rw [show (256 : Int) ^ 1 = 256 from rfl]; omega), Option.bind_some]
  dsimp only
  rw [rdTake_put p.1.data.toList _ (by rw [size_nil, Int.toNat_natCast]), Option.bind_some]
  dsimp only
  rw [rdNum_put 2 _ _ (by omega) (by rw [show (256 : Int) ^ 2 = 65536 from rfl]; omega), Option.bind_some]
  dsimp only
  rw [rdTake_put (putA p.2) _ (by rw [Int.toNat_natCast]), Option.bind_some]
  dsimp only
  rw [e1, if_pos hc]
  rfl
theorem rdWr_back {l m : List UInt8} {p : ByteArray × ActL} (h : rdWr l = some (p, m)) : l = putWr p ++ m ∧ p.1.size ≤ 255 ∧ p.2.Ok ∧ m.length + 3 ≤ l.length := by
  unfold rdWr at h
  obtain ⟨p1, h1, h⟩ := Option.bind_eq_some_iff.1 h
  obtain ⟨p2, h2, h⟩ := Option.bind_eq_some_iff.1 h
  obtain ⟨p3, h3, h⟩ := Option.bind_eq_some_iff.1 h
  obtain ⟨p4, h4, h⟩ := Option.bind_eq_some_iff.1 h
  split at h
  case isFalse => cases h
  rename_i hc
  simp only [Option.some.injEq, Prod.mk.injEq] at h
  obtain ⟨rfl, rfl⟩ := h
  obtain ⟨e1, a1, b1⟩ := rdNum_back (x := p1.1) (m := p1.2) h1
  obtain ⟨e2, l2⟩ := rdTake_back (t := p2.1) (m := p2.2) h2
  obtain ⟨e3, a3, b3⟩ := rdNum_back (x := p3.1) (m := p3.2) h3
  obtain ⟨e4, l4⟩ := rdTake_back (t := p4.1) (m := p4.2) h4
  rw [show (256 : Int) ^ 1 = 256 from rfl] at b1
  have g := putA_getA _ hc
  have hs : (⟨p2.1.toArray⟩ : ByteArray).size = p2.1.length := (SB.mk p2.1).size
  refine ⟨?_, by show (⟨p2.1.toArray⟩ : ByteArray).size ≤ _; omega, g.2.2, ?_⟩
  · show l = (numB ((⟨p2.1.toArray⟩ : ByteArray).size : Int) 1 ++ (p2.1.toArray.toList ++ (numB ((putA (getA p4.1).1).length : Int) 2 ++ putA (getA p4.1).1))) ++ p4.2
    rw [g.1, hs, l2, l4, e1, e2, e3, e4]
    rw [show ((p1.1.toNat : Nat) : Int) = p1.1 by omega, show ((p3.1.toNat : Nat) : Int) = p3.1 by omega]
    simp only [List.append_assoc]
  · have k1 := congrArg List.length e1
    have k2 := congrArg List.length e2
    have k3 := congrArg List.length e3
    have k4 := congrArg List.length e4
    simp only [List.length_append, numB_len] at k1 k2 k3 k4
    show p4.2.length + 3 ≤ _
    omega
theorem putWr_len (p : ByteArray × ActL) : 3 ≤ (putWr p).length := by
  unfold putWr
  simp only [List.length_append, numB_len]; omega
theorem rdWrs_put : ∀ (ws : List (ByteArray × ActL)) (f : Nat), (ws.flatMap putWr).length ≤ f → (∀ p ∈ ws, p.2.Ok ∧ fitsB p.1 p.2 = true) → rdWrs f (ws.flatMap putWr) = some (ws.map canonW)
  | [], 0, _, _ => rfl
  | [], f + 1, _, _ => rfl
  | p :: ws, 0, h, _ => by
    have := putWr_len p
    rw [List.flatMap_cons, List.length_append] at h; omega
  | p :: ws, f + 1, h, hp => by
    have h1 := putWr_len p
    have h2 := hp p (by simp)
    rw [List.flatMap_cons, List.length_append] at h
    have ih := rdWrs_put ws f (by omega) (fun q hq => hp q (by simp [hq]))
    unfold rdWrs
    rw [if_neg (by rw [List.flatMap_cons, List.length_append]; omega), List.flatMap_cons, rdWr_put h2.1 h2.2, Option.bind_some]
    dsimp only
    rw [ih]
    rfl
theorem rdWrs_back : ∀ (f : Nat) (l : List UInt8) (ws : List (ByteArray × ActL)), rdWrs f l = some ws → l = ws.flatMap putWr ∧ ∀ p ∈ ws, p.1.size ≤ 255 ∧ p.2.Ok
  | 0, l, ws, h => by
    unfold rdWrs at h
    split at h
    · rename_i h0
      simp only [Option.some.injEq] at h
      subst h
      exact ⟨List.eq_nil_of_length_eq_zero h0, fun p h => by simp at h⟩
    · cases h
  | f + 1, l, ws, h => by
    unfold rdWrs at h
    split at h
    · rename_i h0
      simp only [Option.some.injEq] at h
      subst h
      exact ⟨List.eq_nil_of_length_eq_zero h0, fun p h => by simp at h⟩
    · obtain ⟨p, h1, h⟩ := Option.bind_eq_some_iff.1 h
      obtain ⟨q, h2, rfl⟩ := Option.map_eq_some_iff.1 h
      obtain ⟨a1, b1, c1, _⟩ := rdWr_back (p := p.1) (m := p.2) h1
      obtain ⟨a2, b2⟩ := rdWrs_back f p.2 q h2
      refine ⟨by rw [List.flatMap_cons, ← a2]; exact a1, fun x hx => ?_⟩
      rcases List.mem_cons.1 hx with rfl | hx
      · exact ⟨b1, c1⟩
      · exact b2 x hx
theorem rdHead_put {t : TxnL} (h : TxParts t) (m : List UInt8) : rdHead (headTx t ++ m) = some ((t.o, t.num, t.prev, t.deps, atT t), m) := by
  have h1 := h.num
  have h2 := h.prev
  have h3 := h.bound
  have h4 := h.o0
  have h5 := h.o1
  have h6 := valid_parts h.at_
  have e6 : (256 : Int) ^ 6 = 281474976710656 := rfl
  unfold rdHead headTx
  simp only [List.append_assoc]
  rw [rdNum_put 1 _ _ (by omega) (by rw [show (256 : Int) ^ 1 = 256 from rfl]; omega), Option.bind_some]
  dsimp only
  rw [rdNum_put 6 _ _ (by omega) (by omega), Option.bind_some]
  dsimp only
  rw [rdNum_put 6 _ _ (by omega) (by omega), Option.bind_some]
  dsimp only
  rw [rdV_put h.deps, Option.bind_some]
  dsimp only
  rw [rdNum_put 6 _ _ (by omega) (by omega), Option.bind_some]
theorem rdHead_back {l m : List UInt8} {x : Int × Int × Int × List Int × Int} (h : rdHead l = some (x, m)) :
    l = numB x.1 1 ++ (numB x.2.1 6 ++ (numB x.2.2.1 6 ++ (putL x.2.2.2.1 ++ (numB x.2.2.2.2 6 ++ m)))) ∧ (0 ≤ x.1 ∧ x.1 < 256) ∧ (0 ≤ x.2.1 ∧ x.2.1 < 281474976710656) ∧ (0 ≤ x.2.2.1 ∧ x.2.2.1 < 281474976710656) ∧ validL x.2.2.2.1 = true ∧ 0 ≤ x.2.2.2.2 ∧ x.2.2.2.2 < 281474976710656 := by
  unfold rdHead at h
  obtain ⟨p1, h1, h⟩ := Option.bind_eq_some_iff.1 h
  obtain ⟨p2, h2, h⟩ := Option.bind_eq_some_iff.1 h
  obtain ⟨p3, h3, h⟩ := Option.bind_eq_some_iff.1 h
  obtain ⟨p4, h4, h⟩ := Option.bind_eq_some_iff.1 h
  obtain ⟨p5, h5, h⟩ := Option.bind_eq_some_iff.1 h
  simp only [Option.some.injEq, Prod.mk.injEq] at h
  obtain ⟨rfl, rfl⟩ := h
  obtain ⟨e1, a1, b1⟩ := rdNum_back (x := p1.1) (m := p1.2) h1
  obtain ⟨e2, a2, b2⟩ := rdNum_back (x := p2.1) (m := p2.2) h2
  obtain ⟨e3, a3, b3⟩ := rdNum_back (x := p3.1) (m := p3.2) h3
  obtain ⟨e4, a4⟩ := rdV_back (xs := p4.1) (m := p4.2) h4
  obtain ⟨e5, a5, b5⟩ := rdNum_back (x := p5.1) (m := p5.2) h5
  rw [show (256 : Int) ^ 6 = 281474976710656 from rfl] at b2 b3 b5
  rw [show (256 : Int) ^ 1 = 256 from rfl] at b1
  exact ⟨by rw [← e5, ← e4, ← e3, ← e2]; exact e1, ⟨a1, b1⟩, ⟨a2, b2⟩, ⟨a3, b3⟩, a4, a5, b5⟩
theorem atT_of {o num prev : Int} {deps : List Int} {a : Int} {ws : List (ByteArray × ActL)} (h0 : 0 ≤ o) (h1 : o < deps.length) : atT (txOf (o, num, prev, deps, a) ws) = a := by
  show nth (withL deps o a) o.toNat = a
  rw [withL_nth _ _ _ _ (by omega), if_pos (by omega)]
theorem canonT_body {t : TxnL} (h : TxParts t) (ok : TxOk t) : bodyTx (canonT t) = bodyTx t := by
  have key : ∀ ws : List (ByteArray × ActL), (∀ p ∈ ws, p.2.Ok ∧ fitsB p.1 p.2 = true) → (ws.map canonW).flatMap putWr = ws.flatMap putWr := by
    intro ws
    induction ws with
    | nil => intro _; rfl
    | cons p ws ih =>
      intro hp
      have h2 := hp p (by simp)
      have hr := (fits_key h2.2).2
      have hc := getA_putA h2.1 hr
      have hg := (putA_getA (putA p.2) hc.1).1
      rw [List.map_cons, List.flatMap_cons, List.flatMap_cons, ih (fun q hq => hp q (by simp [hq]))]
      congr 1
      show numB (p.1.size : Int) 1 ++ (p.1.data.toList ++ (numB ((putA (getA (putA p.2)).1).length : Int) 2 ++ putA (getA (putA p.2)).1)) = putWr p
      rw [hg]
      rfl
  unfold bodyTx
  show headTx t ++ (t.ws.map canonW).flatMap putWr = _
  rw [key t.ws (fun p hp => ⟨(ok.ws p hp).2, h.fits hp⟩)]
theorem canonW_same {p : ByteArray × ActL} (ok : p.2.Ok) (hf : fitsB p.1 p.2 = true) : sameA p.2 (canonW p).2 = true := (getA_putA ok (fits_key hf).2).2
theorem canonW_ok {p : ByteArray × ActL} (ok : p.2.Ok) (hf : fitsB p.1 p.2 = true) : (canonW p).2.Ok := (putA_getA _ (getA_putA ok (fits_key hf).2).1).2.2
theorem nthW_map (ws : List (ByteArray × ActL)) {i : Nat} (hi : i < ws.length) : nthW (ws.map canonW) i = canonW (nthW ws i) := by
  rw [nthW_eq (by simpa using hi), nthW_eq hi, List.getElem_map]
theorem canonT_parts {t : TxnL} (h : TxParts t) (ok : TxOk t) : TxParts (canonT t) := by
  have hl : (canonT t).ws.length = t.ws.length := by unfold canonT; simp
  refine ⟨h.deps, h.at_, h.len, h.o0, h.o1, h.num, h.prev, h.less, h.eq, fun i hi => ?_, by rw [hl]; exact h.few⟩
  rw [hl] at hi
  have h1 := h.ok i hi
  have hm := nthW_mem hi
  show okW (t.ws.map canonW) i = true
  unfold okW freshAt at h1 ⊢
  rw [Bool.and_eq_true] at h1 ⊢
  have e : ((t.ws.map canonW).take i).any (fun q => decide (q.1 = (canonW (nthW t.ws i)).1)) = (t.ws.take i).any (fun q => decide (q.1 = (nthW t.ws i).1)) := by
    rw [← List.map_take, List.any_map]
    rfl
  rw [nthW_map _ hi, e]
  refine ⟨h1.1, ?_⟩
  rw [← fits_same _ (canonW_same (ok.ws _ hm).2 h1.2)]
  exact h1.2
theorem canonT_ok {t : TxnL} (h : TxParts t) (ok : TxOk t) : TxOk (canonT t) := by
  refine ⟨ok.o, ok.num, ok.prev, fun p hp => ?_⟩
  obtain ⟨q, hq, rfl⟩ := List.mem_map.1 (show p ∈ t.ws.map canonW from hp)
  exact ⟨(ok.ws q hq).1, canonW_ok (ok.ws q hq).2 (h.fits hq)⟩
theorem canonT_same {t : TxnL} (h : TxParts t) (ok : TxOk t) : sameT (canonT t) t = true := by
  refine sameT_iff.2 ⟨rfl, rfl, rfl, rfl, rfl, sameWs_iff.2 ⟨by show (t.ws.map canonW).length = _; simp, fun i hi => ?_⟩⟩
  have hi' : i < t.ws.length := by have : (t.ws.map canonW).length = t.ws.length := by simp
                                   rw [← this]; exact hi
  have hm := nthW_mem hi'
  have e : nthW (canonT t).ws i = canonW (nthW t.ws i) := nthW_map _ hi'
  rw [e]
  refine ⟨rfl, ?_⟩
  have hs := canonW_same (ok.ws _ hm).2 (h.fits hm)
  rw [sameA_iff] at hs ⊢
  exact ⟨hs.1.symm, hs.2.1.symm, hs.2.2.1.symm, hs.2.2.2.symm⟩
theorem headTx_len {t : TxnL} (h : validL t.deps = true) : (headTx t).length ≤ 68 := by
  have := (valid_parts h).2.1
  unfold headTx
  simp only [List.length_append, numB_len, putL_len]; omega
/-- what is laid is read, in its plainest form -/
theorem rdTx_put {t : TxnL} (hv : validT t = true) (ok : TxOk t) (hz : (putTx t).length ≤ 65000) : rdTx (putTx t) = some (canonT t) := by
  have h := validT_parts hv
  have hl : (putTx t).length = (bodyTx t).length + 4 := sealL_len _
  unfold rdTx
  rw [show (putTx t).take ((putTx t).length - 4) = bodyTx t from sealL_take _, show (putTx t).drop ((putTx t).length - 4) = numB (sumL (bodyTx t) : Int) 4 from sealL_drop _, if_pos ⟨by omega, hz, rfl⟩]
  have e : rdBodyT (bodyTx t) = some (canonT t) := by
    unfold rdBodyT bodyTx
    rw [rdHead_put h, Option.bind_some]
    dsimp only
    rw [rdWrs_put t.ws _ (Nat.le_refl _) (fun p hp => ⟨(ok.ws p hp).2, h.fits hp⟩)]
    show some (txOf _ _) = _
    unfold txOf canonT
    dsimp only
    rw [h.eq]
  rw [e, Option.bind_some, if_pos (validT_of (canonT_parts h ok))]
theorem rdTx_back {l : List UInt8} {t : TxnL} (h : rdTx l = some t) : validT t = true ∧ TxOk t ∧ putTx t = l ∧ l.length ≤ 65000 := by
  unfold rdTx at h
  split at h
  case isFalse => cases h
  rename_i hc
  obtain ⟨u, h1, h⟩ := Option.bind_eq_some_iff.1 h
  split at h
  case isFalse => cases h
  rename_i hv
  simp only [Option.some.injEq] at h
  subst h
  have hp := validT_parts hv
  unfold rdBodyT at h1
  obtain ⟨p, h2, h1⟩ := Option.bind_eq_some_iff.1 h1
  obtain ⟨q, h3, h1⟩ := Option.map_eq_some_iff.1 h1
  subst h1
  obtain ⟨x, m⟩ := p
  obtain ⟨o, num, prev, deps, a⟩ := x
  obtain ⟨e, b1, b2, b3, b4, b5⟩ := rdHead_back h2
  obtain ⟨e2, b6⟩ := rdWrs_back _ _ _ h3
  dsimp only at e b1 b2 b3 b4 b5 e2
  have hlen : (withL deps o a).length = deps.length := withL_len _ _ _
  have ho1 : o < deps.length := by have := hp.o1; dsimp only [txOf] at this; omega
  have hat := atT_of (num := num) (prev := prev) (ws := q) (a := a) b1.1 ho1
  refine ⟨hv, ⟨⟨by show _ ≤ o; omega, by show o ≤ _; omega⟩, ⟨by show _ ≤ num; omega, by show num ≤ _; omega⟩, ⟨by show _ ≤ prev; omega, by show prev ≤ _; omega⟩, fun p hp => ⟨by have := (b6 p hp).1; omega, (b6 p hp).2⟩⟩, ?_, hc.2.1⟩
  have e3 : bodyTx (txOf (o, num, prev, deps, a) q) = l.take (l.length - 4) := by
    unfold bodyTx headTx
    rw [hat, e, e2]
    show (numB o 1 ++ (numB num 6 ++ (numB prev 6 ++ (putL deps ++ numB a 6)))) ++ q.flatMap putWr = _
    simp only [List.append_assoc]
  show sealL (bodyTx (txOf (o, num, prev, deps, a) q)) = l
  rw [e3]
  unfold sealL
  rw [hc.2.2, List.take_append_drop]
theorem tx_changed {t u : TxnL} {k : Nat} {c : UInt8} (hk : k < (putTx t).length) (h : rdTx ((putTx t).set k c) = some u) : c = (putTx t)[k] :=
  seal_changed hk (rdTx_back h).2.2.1
theorem rdTx_num {l : List UInt8} {t : TxnL} (h : rdTx l = some t) : 0 < t.num ∧ 0 < t.ws.length := by
  have hp := validT_parts (rdTx_back h).1
  exact ⟨by have := hp.num; omega, by have := hp.few; omega⟩
def outT (L : List UInt8) : List UInt8 := if L.length + 4 ≤ 65000 then sealL L else []
def outTC (L : List UInt8) : Int := if L.length + 4 ≤ 65000 then 0 else 2
/-- Put's answer -/
def ptL (t : TxnL) : List UInt8 := if validT t then outT (bodyTx t) else []
def ptC (t : TxnL) : Int := if validT t then outTC (bodyTx t) else 1
theorem ptC_zero {t : TxnL} (h : ptC t = 0) : validT t = true ∧ ptL t = putTx t ∧ (putTx t).length ≤ 65000 := by
  unfold ptC at h
  unfold ptL
  cases hv : validT t
  · rw [hv] at h; exact absurd (show (1 : Int) = 0 from h) (by decide)
  · rw [hv] at h
    simp only [if_true] at h ⊢
    unfold outTC at h
    unfold outT
    split at h
    · rename_i hz
      rw [if_pos hz]
      exact ⟨trivial, rfl, by unfold putTx; rw [sealL_len]; exact hz⟩
    · exact absurd h (by decide)
theorem ptC_put {t : TxnL} (hv : validT t = true) (hz : (putTx t).length ≤ 65000) : ptC t = 0 ∧ ptL t = putTx t := by
  unfold putTx at hz
  rw [sealL_len] at hz
  unfold ptC ptL
  rw [hv, if_pos rfl, if_pos rfl]
  unfold outTC outT
  rw [if_pos hz, if_pos hz]
  exact ⟨rfl, rfl⟩
theorem ptC_not {t : TxnL} (h : ptC t ≠ 0) : ptL t = [] := by
  unfold ptC at h
  unfold ptL
  cases hv : validT t
  · rfl
  · rw [hv] at h
    simp only [if_true] at h ⊢
    unfold outTC at h
    unfold outT
    split at h
    · exact absurd rfl h
    · rename_i hz; rw [if_neg hz]
end Go.Proofs.Ytaokennbpgdngaa
end
