import Derived.Test.YtfmabjoindlfeaaGreatQTxnTellsUptoP19
import Derived.Test.YtfmabjoindlfeaaGreatQTxnTellsUptoP21
import Derived.Test.YtfmabjoindlfeaaGreatQTxnTellsUptoP22
import Derived.Test.YtfmabjoindlfeaaGreatQTxnTellsUptoP1
import Derived.Test.YtfmabjoindlfeaaGreatQTxnTellsUptoP6
import Derived.Test.YtfmabjoindlfeaaGreatQTxnTellsUptoP14
import Derived.Test.YtfmabjoindlfeaaGreatQTxnTellsUptoP5

/- laws of acts, values and sealed bytes. By an AI agent. -/
section
set_option linter.unusedVariables false
set_option linter.unusedSimpArgs false
namespace Go.Proofs.YtfmabjoindlfeaaGreat
open Go.RowKit

theorem fits_same (key : ByteArray) {a b : ActL} (h : sameA a b = true) : fitsB key a = fitsB key b := by
  obtain ⟨h1, h2, h3, h4⟩ := sameA_parts h
  have hn : noughtB a.x = noughtB b.x := by unfold noughtB; rw [h2]
  unfold fitsB rightB
  rw [h1, h3, h4, hn]
theorem key_size {key : ByteArray} (h : isKeyB key = true) : key.size ≤ 64 := by
  simp only [isKeyB, Bool.and_eq_true, decide_eq_true_eq] at h
  exact h.2.1
theorem rdV_put {xs : List Int} (h : validL xs = true) (m : List UInt8) : rdV (putL xs ++ m) = some (xs, m) := by
  have hv := valid_parts h
  have e : (UInt8.ofNat xs.length).toNat = xs.length := by simp; omega
  have hb : (putBodyL xs).length = 6 * xs.length := putBodyL_len xs
  unfold putL
  rw [List.cons_append, rdV_cons, e, if_pos ⟨⟨hv.1, hv.2.1⟩, by rw [List.length_append]; omega⟩, vals_put xs m hv.2.2, List.drop_left' hb]
theorem rdTake_put (l m : List UInt8) {n : Nat} (h : l.length = n) : rdTake n (l ++ m) = some (l, m) := by
  subst h
  unfold rdTake
  rw [if_pos (by rw [List.length_append]; omega), List.take_left, List.drop_left]
def sealL (l : List UInt8) : List UInt8 := l ++ numB (sumL l : Int) 4
theorem sealL_len (l : List UInt8) : (sealL l).length = l.length + 4 := by unfold sealL; rw [List.length_append, numB_len]
theorem sealL_take (l : List UInt8) : (sealL l).take ((sealL l).length - 4) = l := by
  rw [sealL_len, Nat.add_sub_cancel]
  unfold sealL
  exact List.take_left
theorem sealL_drop (l : List UInt8) : (sealL l).drop ((sealL l).length - 4) = numB (sumL l : Int) 4 := by
  rw [sealL_len, Nat.add_sub_cancel]
  unfold sealL
  exact List.drop_left
theorem putS_right {a : ActL} (h : rightB a = true) : putS a = putA a ∧ putC a = 0 := by unfold putS putC; rw [if_pos h, if_pos h]; exact ⟨rfl, rfl⟩
/-- worlds that go on from W1 and hold a box -/
def HoldB (W1 : World) (g : Nat) (cs : List Value) (W' : World) : Prop := Bl W1 W' ∧ AC W' g cs
theorem HoldB.keep {W1 : World} {g : Nat} {cs : List Value} (w w' : World) (h : HoldB W1 g cs w) (k : Bl w w') : HoldB W1 g cs w' := ⟨h.1.trans k, h.2.keep k⟩
end Go.Proofs.YtfmabjoindlfeaaGreat
end

/- a list with another number at a place. By an AI agent. -/
section
set_option linter.unusedVariables false
set_option linter.unusedSimpArgs false
namespace Go.Proofs.YtfmabjoindlfeaaGreat
open Go.RowKit

/-- a list with another number at a place -/
def withL (xs : List Int) (i t : Int) : List Int := if 0 ≤ i then xs.set i.toNat t else xs

theorem withL_len (xs : List Int) (i t : Int) : (withL xs i t).length = xs.length := by unfold withL; split <;> simp

end Go.Proofs.YtfmabjoindlfeaaGreat
end

/- transactions, and their bytes: plain definitions and laws. By an AI agent. -/
section
set_option linter.unusedVariables false
set_option linter.unusedSimpArgs false
namespace Go.Proofs.YtfmabjoindlfeaaGreat
open Go.RowKit

structure TxnL where
  o : Int
  num : Int
  prev : Int
  deps : List Int
  at_ : List Int
  ws : List (ByteArray × ActL)
def nthW (ws : List (ByteArray × ActL)) (j : Nat) : ByteArray × ActL := ws.getD j (⟨#[]⟩, ⟨0, 0, 0, ⟨#[]⟩⟩)
theorem nthW_eq {ws : List (ByteArray × ActL)} {j : Nat} (h : j < ws.length) : nthW ws j = ws[j] := by
  unfold nthW
  rw [List.getD_eq_getElem?_getD, List.getElem?_eq_getElem h]; rfl
theorem nthW_mem {ws : List (ByteArray × ActL)} {j : Nat} (h : j < ws.length) : nthW ws j ∈ ws := by
  rw [nthW_eq h]; exact List.getElem_mem h
/-- no key of the first i is the i-th one's -/
def freshAt (ws : List (ByteArray × ActL)) (i : Nat) : Bool := !(ws.take i).any (fun q => decide (q.1 = (nthW ws i).1))
def okW (ws : List (ByteArray × ActL)) (i : Nat) : Bool := freshAt ws i && fitsB (nthW ws i).1 (nthW ws i).2
def atT (t : TxnL) : Int := nth t.at_ t.o.toNat
def frontT (t : TxnL) : Bool := validL t.deps && (validL t.at_ && (decide (t.deps.length = t.at_.length) && decide (0 ≤ t.o ∧ t.o < t.at_.length)))
def timeT (t : TxnL) : Bool := decide (1 ≤ t.num ∧ t.num ≤ 281474976710655 ∧ 0 ≤ t.prev ∧ t.prev < atT t ∧ nth t.deps t.o.toNat < atT t ∧ withL t.deps t.o (atT t) = t.at_)
def writesT (ws : List (ByteArray × ActL)) : Bool := (List.range ws.length).all (okW ws) && decide (1 ≤ ws.length ∧ ws.length ≤ 200)
def validT (t : TxnL) : Bool := frontT t && (timeT t && writesT t.ws)
structure TxParts (t : TxnL) : Prop where
  deps : validL t.deps = true
  at_ : validL t.at_ = true
  len : t.deps.length = t.at_.length
  o0 : 0 ≤ t.o
  o1 : t.o < t.at_.length
  num : 1 ≤ t.num ∧ t.num ≤ 281474976710655
  prev : 0 ≤ t.prev ∧ t.prev < atT t
  less : nth t.deps t.o.toNat < atT t
  eq : withL t.deps t.o (atT t) = t.at_
  ok : ∀ i, i < t.ws.length → okW t.ws i = true
  few : 1 ≤ t.ws.length ∧ t.ws.length ≤ 200
theorem validT_parts {t : TxnL} (h : validT t = true) : TxParts t := by
  simp only [validT, frontT, timeT, writesT, Bool.and_eq_true, decide_eq_true_eq, List.all_eq_true, List.mem_range] at h
  obtain ⟨⟨h1, h2, h3, h4, h5⟩, ⟨h6, h7, h8, h9, h10, h11⟩, h12, h13⟩ := h
  exact ⟨h1, h2, h3, h4, h5, ⟨h6, h7⟩, ⟨h8, h9⟩, h10, h11, h12, h13⟩
theorem validT_of {t : TxnL} (h : TxParts t) : validT t = true := by
  simp only [validT, frontT, timeT, writesT, Bool.and_eq_true, decide_eq_true_eq, List.all_eq_true, List.mem_range]
  exact ⟨⟨h.deps, h.at_, h.len, h.o0, h.o1⟩, ⟨h.num.1, h.num.2, h.prev.1, h.prev.2, h.less, h.eq⟩, h.ok, h.few⟩
theorem TxParts.fits {t : TxnL} (h : TxParts t) {p : ByteArray × ActL} (hp : p ∈ t.ws) : fitsB p.1 p.2 = true := by
  obtain ⟨i, hi, rfl⟩ := List.getElem_of_mem hp
  have := h.ok i hi
  simp only [okW, Bool.and_eq_true] at this
  rw [nthW_eq hi] at this
  exact this.2
/-- a time of a transaction is one -/
theorem TxParts.bound {t : TxnL} (h : TxParts t) : 0 ≤ atT t ∧ atT t < 281474976710656 :=
  (valid_parts h.at_).2.2 _ (by have := h.o0; have := h.o1; omega)
/-- within Go's bounds -/
def WrOk (p : ByteArray × ActL) : Prop := p.1.size ≤ 140737488351232 ∧ p.2.Ok
structure TxOk (t : TxnL) : Prop where
  o : -9223372036854775808 ≤ t.o ∧ t.o ≤ 9223372036854775807
  num : -9223372036854775808 ≤ t.num ∧ t.num ≤ 9223372036854775807
  prev : -9223372036854775808 ≤ t.prev ∧ t.prev ≤ 9223372036854775807
  ws : ∀ p ∈ t.ws, WrOk p

/-! ### the same -/
def sameWs (a b : List (ByteArray × ActL)) : Bool := decide (a.length = b.length) && (List.range a.length).all fun i => decide ((nthW a i).1 = (nthW b i).1) && sameA (nthW a i).2 (nthW b i).2
def sameT (a b : TxnL) : Bool := decide (a.o = b.o ∧ a.num = b.num ∧ a.prev = b.prev) && (decide (a.deps = b.deps) && (decide (a.at_ = b.at_) && sameWs a.ws b.ws))

theorem sameWs_iff {a b : List (ByteArray × ActL)} : sameWs a b = true ↔ a.length = b.length ∧ ∀ i, i < a.length → (nthW a i).1 = (nthW b i).1 ∧ sameA (nthW a i).2 (nthW b i).2 = true := by
  unfold sameWs
  rw [Bool.and_eq_true, decide_eq_true_eq, List.all_eq_true]
  constructor
  · rintro ⟨h1, h2⟩
    refine ⟨h1, fun i hi => ?_⟩
    have := h2 i (List.mem_range.2 hi)
    rw [Bool.and_eq_true, decide_eq_true_eq] at this
    exact this
  · rintro ⟨h1, h2⟩
    refine ⟨h1, fun i hi => ?_⟩
    rw [Bool.and_eq_true, decide_eq_true_eq]
    exact h2 i (List.mem_range.1 hi)
theorem sameT_iff {a b : TxnL} : sameT a b = true ↔ a.o = b.o ∧ a.num = b.num ∧ a.prev = b.prev ∧ a.deps = b.deps ∧ a.at_ = b.at_ ∧ sameWs a.ws b.ws = true := by
  unfold sameT
  simp only [Bool.and_eq_true, decide_eq_true_eq, and_assoc]
/-! ### in bytes -/
def putWr (p : ByteArray × ActL) : List UInt8 := numB (p.1.size : Int) 1 ++ (p.1.data.toList ++ (numB ((putA p.2).length : Int) 2 ++ putA p.2))
def headTx (t : TxnL) : List UInt8 := numB t.o 1 ++ (numB t.num 6 ++ (numB t.prev 6 ++ (putL t.deps ++ numB (atT t) 6)))
def bodyTx (t : TxnL) : List UInt8 := headTx t ++ t.ws.flatMap putWr
def putTx (t : TxnL) : List UInt8 := sealL (bodyTx t)
def rdWr (l : List UInt8) : Option ((ByteArray × ActL) × List UInt8) :=
  (rdNum 1 l).bind fun p1 => (rdTake p1.1.toNat p1.2).bind fun p2 => (rdNum 2 p2.2).bind fun p3 => (rdTake p3.1.toNat p3.2).bind fun p4 =>
    if (getA p4.1).2 = 0 then some ((⟨p2.1.toArray⟩, (getA p4.1).1), p4.2) else none
def rdWrs : Nat → List UInt8 → Option (List (ByteArray × ActL))
  | 0, l => if l.length = 0 then some [] else none
  | n + 1, l => if l.length = 0 then some [] else (rdWr l).bind fun p => (rdWrs n p.2).map fun q => p.1 :: q
def rdHead (l : List UInt8) : Option ((Int × Int × Int × List Int × Int) × List UInt8) :=
  (rdNum 1 l).bind fun p1 => (rdNum 6 p1.2).bind fun p2 => (rdNum 6 p2.2).bind fun p3 => (rdV p3.2).bind fun p4 => (rdNum 6 p4.2).bind fun p5 =>
    some ((p1.1, p2.1, p3.1, p4.1, p5.1), p5.2)
def txOf (h : Int × Int × Int × List Int × Int) (ws : List (ByteArray × ActL)) : TxnL := ⟨h.1, h.2.1, h.2.2.1, h.2.2.2.1, withL h.2.2.2.1 h.1 h.2.2.2.2, ws⟩
def rdBodyT (l : List UInt8) : Option TxnL := (rdHead l).bind fun p => (rdWrs p.2.length p.2).map fun q => txOf p.1 q
def rdTx (l : List UInt8) : Option TxnL :=
  if 4 ≤ l.length ∧ l.length ≤ 65000 ∧ numB (sumL (l.take (l.length - 4)) : Int) 4 = l.drop (l.length - 4) then
    (rdBodyT (l.take (l.length - 4))).bind fun t => if validT t = true then some t else none
  else none
def canonW (p : ByteArray × ActL) : ByteArray × ActL := (p.1, (getA (putA p.2)).1)
def canonT (t : TxnL) : TxnL := ⟨t.o, t.num, t.prev, t.deps, t.at_, t.ws.map canonW⟩

theorem rdWr_put {p : ByteArray × ActL} (ok : p.2.Ok) (hf : fitsB p.1 p.2 = true) (m : List UInt8) : rdWr (putWr p ++ m) = some (canonW p, m) := by
  have h1 := key_size (fits_key hf).1
  have hr := (fits_key hf).2
  have h2 := putA_len hr
  have hc := (getA_putA ok hr).1
  have e1 : (⟨p.1.data.toList.toArray⟩ : ByteArray) = p.1 := by simp
  unfold rdWr putWr
  simp only [List.append_assoc]
  rw [rdNum_put 1 _ _ (by omega) (by rw [show (256 : Int) ^ 1 = 256 from rfl]; omega), Option.bind_some]
  dsimp only
  rw [rdTake_put p.1.data.toList _ (by rw [size_nil, Int.toNat_natCast]), Option.bind_some]
  dsimp only
  rw [rdNum_put 2 _ _ (by omega) (by rw [show (256 : Int) ^ 2 = 65536 from rfl]; omega), Option.bind_some]
  dsimp only
  rw [rdTake_put (putA p.2) _ (by rw [Int.toNat_natCast]), Option.bind_some]
  dsimp only
  rw [e1, if_pos hc]
  rfl
theorem rdWr_back {l m : List UInt8} {p : ByteArray × ActL} (h : rdWr l = some (p, m)) : l = putWr p ++ m ∧ p.1.size ≤ 255 ∧ p.2.Ok ∧ m.length + 3 ≤ l.length := by
  unfold rdWr at h
  obtain ⟨p1, h1, h⟩ := Option.bind_eq_some_iff.1 h
  obtain ⟨p2, h2, h⟩ := Option.bind_eq_some_iff.1 h
  obtain ⟨p3, h3, h⟩ := Option.bind_eq_some_iff.1 h
  obtain ⟨p4, h4, h⟩ := Option.bind_eq_some_iff.1 h
  split at h
  case isFalse => cases h
  rename_i hc
  simp only [Option.some.injEq, Prod.mk.injEq] at h
  obtain ⟨rfl, rfl⟩ := h
  obtain ⟨e1, a1, b1⟩ := rdNum_back (x := p1.1) (m := p1.2) h1
  obtain ⟨e2, l2⟩ := rdTake_back (t := p2.1) (m := p2.2) h2
  obtain ⟨e3, a3, b3⟩ := rdNum_back (x := p3.1) (m := p3.2) h3
  obtain ⟨e4, l4⟩ := rdTake_back (t := p4.1) (m := p4.2) h4
  rw [show (256 : Int) ^ 1 = 256 from rfl] at b1
  have g := putA_getA _ hc
  have hs : (⟨p2.1.toArray⟩ : ByteArray).size = p2.1.length := (SB.mk p2.1).size
  refine ⟨?_, by show (⟨p2.1.toArray⟩ : ByteArray).size ≤ _; omega, g.2.2, ?_⟩
  · show l = (numB ((⟨p2.1.toArray⟩ : ByteArray).size : Int) 1 ++ (p2.1.toArray.toList ++ (numB ((putA (getA p4.1).1).length : Int) 2 ++ putA (getA p4.1).1))) ++ p4.2
    rw [g.1, hs, l2, l4, e1, e2, e3, e4]
    rw [show ((p1.1.toNat : Nat) : Int) = p1.1 by omega, show ((p3.1.toNat : Nat) : Int) = p3.1 by omega]
    simp only [List.append_assoc]
  · have k1 := congrArg List.length e1
    have k2 := congrArg List.length e2
    have k3 := congrArg List.length e3
    have k4 := congrArg List.length e4
    simp only [List.length_append, numB_len] at k1 k2 k3 k4
    show p4.2.length + 3 ≤ _
    omega
theorem putWr_len (p : ByteArray × ActL) : 3 ≤ (putWr p).length := by
  unfold putWr
  simp only [List.length_append, numB_len]; omega
theorem rdWrs_put : ∀ (ws : List (ByteArray × ActL)) (f : Nat), (ws.flatMap putWr).length ≤ f → (∀ p ∈ ws, p.2.Ok ∧ fitsB p.1 p.2 = true) → rdWrs f (ws.flatMap putWr) = some (ws.map canonW)
  | [], 0, _, _ => rfl
  | [], f + 1, _, _ => rfl
  | p :: ws, 0, h, _ => by
    have := putWr_len p
    rw [List.flatMap_cons, List.length_append] at h; omega
  | p :: ws, f + 1, h, hp => by
    have h1 := putWr_len p
    have h2 := hp p (by simp)
    rw [List.flatMap_cons, List.length_append] at h
    have ih := rdWrs_put ws f (by omega) (fun q hq => hp q (by simp [hq]))
    unfold rdWrs
    rw [if_neg (by rw [List.flatMap_cons, List.length_append]; omega), List.flatMap_cons, rdWr_put h2.1 h2.2, Option.bind_some]
    dsimp only
    rw [ih]
    rfl
theorem rdWrs_back : ∀ (f : Nat) (l : List UInt8) (ws : List (ByteArray × ActL)), rdWrs f l = some ws → l = ws.flatMap putWr ∧ ∀ p ∈ ws, p.1.size ≤ 255 ∧ p.2.Ok
  | 0, l, ws, h => by
    unfold rdWrs at h
    split at h
    · rename_i h0
      simp only [Option.some.injEq] at h
      subst h
      exact ⟨List.eq_nil_of_length_eq_zero h0, fun p h => by simp at h⟩
    · cases h
  | f + 1, l, ws, h => by
    unfold rdWrs at h
    split at h
    · rename_i h0
      simp only [Option.some.injEq] at h
      subst h
      exact ⟨List.eq_nil_of_length_eq_zero h0, fun p h => by simp at h⟩
    · obtain ⟨p, h1, h⟩ := Option.bind_eq_some_iff.1 h
      obtain ⟨q, h2, rfl⟩ := Option.map_eq_some_iff.1 h
      obtain ⟨a1, b1, c1, _⟩ := rdWr_back (p := p.1) (m := p.2) h1
      obtain ⟨a2, b2⟩ := rdWrs_back f p.2 q h2
      refine ⟨by rw [List.flatMap_cons, ← a2]; exact a1, fun x hx => ?_⟩
      rcases List.mem_cons.1 hx with rfl | hx
      · exact ⟨b1, c1⟩
      · exact b2 x hx
theorem rdHead_put {t : TxnL} (h : TxParts t) (m : List UInt8) : rdHead (headTx t ++ m) = some ((t.o, t.num, t.prev, t.deps, atT t), m) := by
  have h1 := h.num
  have h2 := h.prev
  have h3 := h.bound
  have h4 := h.o0
  have h5 := h.o1
  have h6 := valid_parts h.at_
  have e6 : (256 : Int) ^ 6 = 281474976710656 := rfl
  unfold rdHead headTx
  simp only [List.append_assoc]
  rw [rdNum_put 1 _ _ (by omega) (by rw [show (256 : Int) ^ 1 = 256 from rfl]; omega), Option.bind_some]
  dsimp only
  rw [rdNum_put 6 _ _ (by omega) (by omega), Option.bind_some]
  dsimp only
  rw [rdNum_put 6 _ _ (by omega) (by omega), Option.bind_some]
  dsimp only
  rw [rdV_put h.deps, Option.bind_some]
  dsimp only
  rw [rdNum_put 6 _ _ (by omega) (by omega), Option.bind_some]
theorem canonW_same {p : ByteArray × ActL} (ok : p.2.Ok) (hf : fitsB p.1 p.2 = true) : sameA p.2 (canonW p).2 = true := (getA_putA ok (fits_key hf).2).2
theorem canonW_ok {p : ByteArray × ActL} (ok : p.2.Ok) (hf : fitsB p.1 p.2 = true) : (canonW p).2.Ok := (putA_getA _ (getA_putA ok (fits_key hf).2).1).2.2
theorem nthW_map (ws : List (ByteArray × ActL)) {i : Nat} (hi : i < ws.length) : nthW (ws.map canonW) i = canonW (nthW ws i) := by
  rw [nthW_eq (by simpa using hi), nthW_eq hi, List.getElem_map]
theorem canonT_parts {t : TxnL} (h : TxParts t) (ok : TxOk t) : TxParts (canonT t) := by
  have hl : (canonT t).ws.length = t.ws.length := by unfold canonT; simp
  refine ⟨h.deps, h.at_, h.len, h.o0, h.o1, h.num, h.prev, h.less, h.eq, fun i hi => ?_, by rw [hl]; exact h.few⟩
  rw [hl] at hi
  have h1 := h.ok i hi
  have hm := nthW_mem hi
  show okW (t.ws.map canonW) i = true
  unfold okW freshAt at h1 ⊢
  rw [Bool.and_eq_true] at h1 ⊢
  have e : ((t.ws.map canonW).take i).any (fun q => decide (q.1 = (canonW (nthW t.ws i)).1)) = (t.ws.take i).any (fun q => decide (q.1 = (nthW t.ws i).1)) := by
    rw [← List.map_take, List.any_map]
    rfl
  rw [nthW_map _ hi, e]
  refine ⟨h1.1, ?_⟩
  rw [← fits_same _ (canonW_same (ok.ws _ hm).2 h1.2)]
  exact h1.2
theorem canonT_ok {t : TxnL} (h : TxParts t) (ok : TxOk t) : TxOk (canonT t) := by
  refine ⟨ok.o, ok.num, ok.prev, fun p hp => ?_⟩
  obtain ⟨q, hq, rfl⟩ := List.mem_map.1 (show p ∈ t.ws.map canonW from hp)
  exact ⟨(ok.ws q hq).1, canonW_ok (ok.ws q hq).2 (h.fits hq)⟩
theorem canonT_same {t : TxnL} (h : TxParts t) (ok : TxOk t) : sameT (canonT t) t = true := by
  refine sameT_iff.2 ⟨rfl, rfl, rfl, rfl, rfl, sameWs_iff.2 ⟨by show (t.ws.map canonW).length = _; simp, fun i hi => ?_⟩⟩
  have hi' : i < t.ws.length := by have : (t.ws.map canonW).length = t.ws.length := by simp
                                   rw [← this]; exact hi
  have hm := nthW_mem hi'
  have e : nthW (canonT t).ws i = canonW (nthW t.ws i) := nthW_map _ hi'
  rw [e]
  refine ⟨rfl, ?_⟩
  have hs := canonW_same (ok.ws _ hm).2 (h.fits hm)
  rw [sameA_iff] at hs ⊢
  exact ⟨hs.1.symm, hs.2.1.symm, hs.2.2.1.symm, hs.2.2.2.symm⟩
theorem headTx_len {t : TxnL} (h : validL t.deps = true) : (headTx t).length ≤ 68 := by
  have := (valid_parts h).2.1
  unfold headTx
  simp only [List.length_append, numB_len, putL_len]; omega
/-- what is laid is read, in its plainest form -/
theorem rdTx_put {t : TxnL} (hv : validT t = true) (ok : TxOk t) (hz : (putTx t).length ≤ 65000) : rdTx (putTx t) = some (canonT t) := by
  have h := validT_parts hv
  have hl : (putTx t).length = (bodyTx t).length + 4 := sealL_len _
  unfold rdTx
  rw [show (putTx t).take ((putTx t).length - 4) = bodyTx t from sealL_take _, show (putTx t).drop ((putTx t).length - 4) = numB (sumL (bodyTx t) : Int) 4 from sealL_drop _, if_pos ⟨by omega, hz, rfl⟩]
  have e : rdBodyT (bodyTx t) = some (canonT t) := by
    unfold rdBodyT bodyTx
    rw [rdHead_put h, Option.bind_some]
    dsimp only
    rw [rdWrs_put t.ws _ (Nat.le_refl _) (fun p hp => ⟨(ok.ws p hp).2, h.fits hp⟩)]
    show some (txOf _ _) = _
    unfold txOf canonT
    dsimp only
    rw [h.eq]
  rw [e, Option.bind_some, if_pos (validT_of (canonT_parts h ok))]
def outT (L : List UInt8) : List UInt8 := if L.length + 4 ≤ 65000 then sealL L else []
def outTC (L : List UInt8) : Int := if L.length + 4 ≤ 65000 then 0 else 2
/-- Put's answer -/
def ptL (t : TxnL) : List UInt8 := if validT t then outT (bodyTx t) else []
def ptC (t : TxnL) : Int := if validT t then outTC (bodyTx t) else 1
theorem ptC_put {t : TxnL} (hv : validT t = true) (hz : (putTx t).length ≤ 65000) : ptC t = 0 ∧ ptL t = putTx t := by
  unfold putTx at hz
  rw [sealL_len] at hz
  unfold ptC ptL
  rw [hv, if_pos rfl, if_pos rfl]
  unfold outTC outT
  rw [if_pos hz, if_pos hz]
  exact ⟨rfl, rfl⟩
end Go.Proofs.YtfmabjoindlfeaaGreat
end

/- writes that are read, and folded to one a key: plain definitions and laws. By an AI agent. -/
section
set_option linter.unusedVariables false
set_option linter.unusedSimpArgs false
namespace Go.Proofs.YtfmabjoindlfeaaGreat
open Go.RowKit

def readW (key : ByteArray) (v : ValL) (ws : List (ByteArray × ActL)) : ValL := ws.foldl (fun v p => if p.1 = key then afterL key v p.2 else v) v
theorem readW_snoc (key : ByteArray) (v : ValL) (ws : List (ByteArray × ActL)) (p : ByteArray × ActL) : readW key v (ws ++ [p]) = if p.1 = key then afterL key (readW key v ws) p.2 else readW key v ws := by
  unfold readW
  rw [List.foldl_append]; rfl
theorem readW_ok {key : ByteArray} {v : ValL} (ov : v.Ok) : ∀ ws : List (ByteArray × ActL), (∀ p ∈ ws, p.2.Ok) → (readW key v ws).Ok := by
  intro ws
  induction ws generalizing v with
  | nil => intro _; exact ov
  | cons p ws ih =>
    intro h
    unfold readW
    rw [List.foldl_cons]
    refine ih ?_ (fun q hq => h q (by simp [hq]))
    split
    · exact after_ok ov (h p (by simp))
    · exact ov
/-- one more write -/
def addW (out : List (ByteArray × ActL)) (p : ByteArray × ActL) : List (ByteArray × ActL) :=
  if out.any (fun q => decide (q.1 = p.1)) then out.map (fun q => if q.1 = p.1 then (q.1, bothL p.1 q.2 p.2) else q) else out ++ [p]
theorem any_key {out : List (ByteArray × ActL)} {k : ByteArray} : out.any (fun q => decide (q.1 = k)) = true ↔ k ∈ out.map (·.1) := by
  rw [List.any_eq_true, List.mem_map]
  constructor
  · rintro ⟨q, h1, h2⟩; exact ⟨q, h1, by simpa using h2⟩
  · rintro ⟨q, h1, h2⟩; exact ⟨q, h1, by simpa using h2⟩
theorem addW_old {out : List (ByteArray × ActL)} {p : ByteArray × ActL} (h : p.1 ∈ out.map (·.1)) : addW out p = out.map (fun q => if q.1 = p.1 then (q.1, bothL p.1 q.2 p.2) else q) := by
  unfold addW
  rw [if_pos (any_key.2 h)]
theorem addW_new {out : List (ByteArray × ActL)} {p : ByteArray × ActL} (h : p.1 ∉ out.map (·.1)) : addW out p = out ++ [p] := by
  unfold addW
  rw [if_neg (fun q => h (any_key.1 q))]
def foldW (ws : List (ByteArray × ActL)) : List (ByteArray × ActL) := ws.foldl addW []
theorem foldW_snoc (ws : List (ByteArray × ActL)) (p : ByteArray × ActL) : foldW (ws ++ [p]) = addW (foldW ws) p := by unfold foldW; rw [List.foldl_append]; rfl
theorem addW_mem {out : List (ByteArray × ActL)} {p q : ByteArray × ActL} (h : q ∈ addW out p) (P : ByteArray × ActL → Prop) (ho : ∀ x ∈ out, P x) (hp : P p) (hb : ∀ x ∈ out, P x → x.1 = p.1 → P (x.1, bothL p.1 x.2 p.2)) : P q := by
  rcases Classical.em (p.1 ∈ out.map (·.1)) with hk | hk
  · rw [addW_old hk] at h
    obtain ⟨x, hx, rfl⟩ := List.mem_map.1 h
    split
    · rename_i e; exact hb x hx (ho x hx) e
    · exact ho x hx
  · rw [addW_new hk] at h
    rcases List.mem_append.1 h with h | h
    · exact ho q h
    · rw [List.mem_singleton] at h; subst h; exact hp
theorem foldl_okW : ∀ (ws out : List (ByteArray × ActL)), (∀ p ∈ ws, WrOk p) → (∀ p ∈ out, WrOk p) → ∀ p ∈ ws.foldl addW out, WrOk p
  | [], out, _, h, p, hp => h p hp
  | p :: ws, out, hw, ho, q, hq => by
    rw [List.foldl_cons] at hq
    refine foldl_okW ws (addW out p) (fun x hx => hw x (by simp [hx])) (fun x hx => ?_) q hq
    exact addW_mem hx WrOk ho (hw p (by simp)) (fun y hy h e => ⟨h.1, both_ok h.2 (hw p (by simp)).2⟩)
theorem foldW_okW {ws : List (ByteArray × ActL)} (h : ∀ p ∈ ws, WrOk p) : ∀ p ∈ foldW ws, WrOk p := foldl_okW ws [] h (fun p hp => by simp at hp)
theorem sameWs_refl (ws : List (ByteArray × ActL)) : sameWs ws ws = true := by
  simp only [sameWs, Bool.and_eq_true, decide_eq_true_eq, List.all_eq_true]
  exact ⟨trivial, fun i _ => ⟨trivial, by simp [sameA]⟩⟩
end Go.Proofs.YtfmabjoindlfeaaGreat
end

/- slices of writes, own rows of writes. By an AI agent. -/
section
set_option linter.unusedVariables false
set_option linter.unusedSimpArgs false
namespace Go.Proofs.YtfmabjoindlfeaaGreat
open Go.RowKit

def writeCs (p : ByteArray × ActL) : List Value := [.string p.1, .int .i64 p.2.k, .float .f64 p.2.x, .int .i64 p.2.n, .string p.2.s]
/-- the five cells of a pair -/
structure WC (w : World) (b off : Nat) (p : ByteArray × ActL) : Prop where
  c0 : w.cell? ⟨b, off, none⟩ = some (.string p.1)
  c1 : w.cell? ⟨b, off + 1, none⟩ = some (.int .i64 p.2.k)
  c2 : w.cell? ⟨b, off + 2, none⟩ = some (.float .f64 p.2.x)
  c3 : w.cell? ⟨b, off + 3, none⟩ = some (.int .i64 p.2.n)
  c4 : w.cell? ⟨b, off + 4, none⟩ = some (.string p.2.s)
theorem WC.keep {w w' : World} {b off : Nat} {p : ByteArray × ActL} (h : WC w b off p) (k : Bl w w') : WC w' b off p := ⟨k.cell h.c0, k.cell h.c1, k.cell h.c2, k.cell h.c3, k.cell h.c4⟩
/-- a slice that reads as pairs -/
structure WA (w : World) (a : Option Addr) (n : Nat) (ps : List (ByteArray × ActL)) : Prop where
  len : ps.length = n
  cap : n ≤ 1000000
  cells : ∀ j, j < n → ∃ b off, a = some ⟨b, off, none⟩ ∧ ∀ j, j < n → WC w b (off + j * 5) (nthW ps j)
theorem WA.keep {w w' : World} {a : Option Addr} {n : Nat} {ps : List (ByteArray × ActL)} (h : WA w a n ps) (k : Bl w w') : WA w' a n ps :=
  ⟨h.len, h.cap, fun j hj => by
    obtain ⟨b, off, e, hc⟩ := h.cells j hj
    exact ⟨b, off, e, fun j hj => (hc j hj).keep k⟩⟩
theorem WA.get {w W : World} {b off n : Nat} {ps : List (ByteArray × ActL)} (h : WA w (some ⟨b, off, none⟩) n ps) (hb : Bl w W) {k : Nat} (hk : k < n) : WC W b (off + k * 5) (nthW ps k) := by
  obtain ⟨b', off', e, hc⟩ := h.cells k hk
  cases e
  exact (hc k hk).keep hb

/-! ### a slice of pairs that lies from a block on -/
theorem WA.apart {w : World} {a : Option Addr} {n : Nat} {ps : List (ByteArray × ActL)} (h : WA w a n ps) {q : Nat} (hq : ∀ b off, a = some ⟨b, off, none⟩ → n = 0 ∨ b ≠ q) (j : Nat) (u : Value) : WA (w.setCell ⟨q, j, none⟩ u) a n ps := by
  refine ⟨h.len, h.cap, fun i hi => ?_⟩
  obtain ⟨b, off, e, hc⟩ := h.cells i hi
  refine ⟨b, off, e, fun i hi => ?_⟩
  have hne : b ≠ q := by
    have := hq b off e
    omega
  have key : ∀ k v, w.cell? ⟨b, k, none⟩ = some v → (w.setCell ⟨q, j, none⟩ u).cell? ⟨b, k, none⟩ = some v := fun k v hv => by
    rw [← hv]
    unfold World.cell?
    rw [Below.heap_setCell _ _ _ _ hne]
  have c := hc i hi
  exact ⟨key _ _ c.c0, key _ _ c.c1, key _ _ c.c2, key _ _ c.c3, key _ _ c.c4⟩
def FarWA (B : Nat) (w : World) (a : Option Addr) (n : Nat) (ps : List (ByteArray × ActL)) : Prop := WA w a n ps ∧ ∀ b off, a = some ⟨b, off, none⟩ → n = 0 ∨ B ≤ b
theorem FarWA.keep {B : Nat} {w w' : World} {a : Option Addr} {n : Nat} {ps : List (ByteArray × ActL)} (h : FarWA B w a n ps) (hb : Bl w w') : FarWA B w' a n ps := ⟨h.1.keep hb, h.2⟩
theorem FarWA.mono {B B' : Nat} {w : World} {a : Option Addr} {n : Nat} {ps : List (ByteArray × ActL)} (h : FarWA B w a n ps) (hB : B' ≤ B) : FarWA B' w a n ps := ⟨h.1, fun b off e => by have := h.2 b off e; omega⟩
theorem FarWA.set {B : Nat} {w : World} {a : Option Addr} {n : Nat} {ps : List (ByteArray × ActL)} (h : FarWA B w a n ps) {q : Nat} (hq : q < B) (j : Nat) (u : Value) : FarWA B (w.setCell ⟨q, j, none⟩ u) a n ps :=
  ⟨h.1.apart (fun b off e => by have := h.2 b off e; omega) j u, h.2⟩
theorem FarWA.nil (B : Nat) (w : World) : FarWA B w none 0 [] := ⟨⟨rfl, by decide, fun j hj => absurd hj (Nat.not_lt_zero _)⟩, fun _ _ _ => .inl rfl⟩

/-! ### own rows of pairs -/
def cellsW (ps : List (ByteArray × ActL)) : List Value := ps.flatMap writeCs
theorem cellsW_snoc (ps : List (ByteArray × ActL)) (p : ByteArray × ActL) : cellsW (ps ++ [p]) = cellsW ps ++ writeCs p := by simp [cellsW]
theorem cellsW_len (ps : List (ByteArray × ActL)) : (cellsW ps).length = ps.length * 5 := by
  induction ps with
  | nil => rfl
  | cons p ps ih =>
    have : cellsW (p :: ps) = writeCs p ++ cellsW ps := by simp [cellsW]
    rw [this, List.length_append, ih]
    show 5 + _ = _
    rw [List.length_cons]; omega
theorem cellsW_get : ∀ (ps : List (ByteArray × ActL)) (j : Nat), j < ps.length → ∀ r, r < 5 → (cellsW ps)[j * 5 + r]? = (writeCs (nthW ps j))[r]?
  | [], j, hj, _, _ => by simp at hj
  | p :: ps, 0, _, r, hr => by
    have e : cellsW (p :: ps) = writeCs p ++ cellsW ps := by simp [cellsW]
    rw [e, Nat.zero_mul, Nat.zero_add, List.getElem?_append_left (show r < (writeCs p).length from hr)]
    rfl
  | p :: ps, j + 1, hj, r, hr => by
    have e : cellsW (p :: ps) = writeCs p ++ cellsW ps := by simp [cellsW]
    have hl : (writeCs p).length = 5 := rfl
    rw [e, List.getElem?_append_right (by rw [hl]; omega), hl, show (j + 1) * 5 + r - 5 = j * 5 + r by omega]
    have h1 := cellsW_get ps j (by simpa using hj) r hr
    rw [h1]
    have h2 : nthW (p :: ps) (j + 1) = nthW ps j := by unfold nthW; simp
    rw [h2]
def OWR (B : Nat) (w : World) (v : Value) (k : Nat) (ps : List (ByteArray × ActL)) : Prop := ps.length = k ∧ w.ownsRow B 63 5 v k (cellsW ps)
theorem OWR.nil (B : Nat) (w : World) : OWR B w (.slice none 0 0) 0 [] := ⟨rfl, World.ownsRow_nil _ _ _ _⟩
theorem OWR.keep {B : Nat} {w w' : World} {v : Value} {k : Nat} {ps : List (ByteArray × ActL)} (h : OWR B w v k ps) (hb : Bl w w') : OWR B w' v k ps := ⟨h.1, ownsRow_bl h.2 hb⟩
theorem OWR.set {B : Nat} {w : World} {v : Value} {k : Nat} {ps : List (ByteArray × ActL)} (h : OWR B w v k ps) {q : Nat} (hq : q < B) (j : Nat) (u : Value) : OWR B (w.setCell ⟨q, j, none⟩ u) v k ps := by
  refine ⟨h.1, ?_⟩
  obtain ⟨h1, h2 | ⟨g, cap, cur, hv, hB, hg, r⟩⟩ := h.2
  · exact ⟨h1, .inl h2⟩
  · exact ⟨h1, .inr ⟨g, cap, cur, hv, hB, by rw [Below.heap_setCell _ _ _ _ (show g ≠ q by omega)]; exact hg, r⟩⟩
theorem OWR.form {B : Nat} {w : World} {v : Value} {k : Nat} {ps : List (ByteArray × ActL)} (h : OWR B w v k ps) : ∃ a ca, v = .slice a k ca := by
  obtain ⟨h1, ⟨hv, hk⟩ | ⟨g, cap, cur, hv, hB, hg, r⟩⟩ := h.2
  · subst hk; exact ⟨_, _, hv⟩
  · exact ⟨_, _, hv⟩
theorem OWR.far {B : Nat} {w : World} {a : Option Addr} {k k' ca : Nat} {ps : List (ByteArray × ActL)} (h : OWR B w (.slice a k' ca) k ps) (hk : k ≤ 1000000) : FarWA B w a k ps := by
  obtain ⟨h0, hown⟩ := h
  obtain ⟨h1, ⟨hv, hk0⟩ | ⟨g, cap, cur, hv, hB, hg, r⟩⟩ := hown
  · simp only [Value.slice.injEq] at hv
    obtain ⟨rfl, -, -⟩ := hv
    subst hk0
    have : ps = [] := List.eq_nil_of_length_eq_zero h0
    subst this
    exact FarWA.nil _ _
  · simp only [Value.slice.injEq] at hv
    obtain ⟨rfl, rfl, rfl⟩ := hv
    have hown : w.ownsRow B 63 5 (.slice (some ⟨g, 0, none⟩) k' ca) k' (cellsW ps) := ⟨h1, .inr ⟨g, ca, cur, rfl, hB, hg, r⟩⟩
    refine ⟨⟨h0, hk, fun j0 _ => ⟨g, 0, rfl, fun j hj => ?_⟩⟩, fun b off e => ?_⟩
    · have key : ∀ r, r < 5 → w.cell? ⟨g, 0 + j * 5 + r, none⟩ = (writeCs (nthW ps j))[r]? := fun r hr => by
        rw [show 0 + j * 5 + r = j * 5 + r by omega, hown.cellAt (j * 5 + r) (by omega), cellsW_get ps j (by omega) r hr]
      exact ⟨key 0 (by decide), key 1 (by decide), key 2 (by decide), key 3 (by decide), key 4 (by decide)⟩
    · simp only [Option.some.injEq, Addr.mk.injEq, and_true] at e
      exact .inr (by omega)
theorem el_wr : EL 24 63 5 56 := el_of Tryz.underlying24 (by kernel_rfl) (by decide)
end Go.Proofs.YtfmabjoindlfeaaGreat
end

/- what it is that a value reads as a transaction, a slice as transactions. By an AI agent. -/
section
set_option linter.unusedVariables false
set_option linter.unusedSimpArgs false
namespace Go.Proofs.YtfmabjoindlfeaaGreat
open Go.RowKit

/-- a slice that reads as writes, however long -/
structure WW (w : World) (a : Option Addr) (n : Nat) (ps : List (ByteArray × ActL)) : Prop where
  len : ps.length = n
  cap : n * 56 ≤ 140737488351232
  cells : ∀ j, j < n → ∃ b off, a = some ⟨b, off, none⟩ ∧ ∀ j, j < n → WC w b (off + j * 5) (nthW ps j)
  ok : ∀ p ∈ ps, WrOk p
theorem WW.keep {w w' : World} {a : Option Addr} {n : Nat} {ps : List (ByteArray × ActL)} (h : WW w a n ps) (k : Bl w w') : WW w' a n ps :=
  ⟨h.len, h.cap, fun j hj => by
    obtain ⟨b, off, e, hc⟩ := h.cells j hj
    exact ⟨b, off, e, fun j hj => (hc j hj).keep k⟩, h.ok⟩
theorem WW.get {w W : World} {b off n : Nat} {ps : List (ByteArray × ActL)} (h : WW w (some ⟨b, off, none⟩) n ps) (hb : Bl w W) {k : Nat} (hk : k < n) : WC W b (off + k * 5) (nthW ps k) := by
  obtain ⟨b', off', e, hc⟩ := h.cells k hk
  cases e
  exact (hc k hk).keep hb
theorem WW.wa {w : World} {a : Option Addr} {n : Nat} {ps : List (ByteArray × ActL)} (h : WW w a n ps) (hn : n ≤ 1000000) : WA w a n ps := ⟨h.len, hn, h.cells⟩
theorem WA.ww {w : World} {a : Option Addr} {n : Nat} {ps : List (ByteArray × ActL)} (h : WA w a n ps) (ok : ∀ p ∈ ps, WrOk p) : WW w a n ps := ⟨h.len, by have := h.cap; omega, h.cells, ok⟩
theorem WW.nil (w : World) (a : Option Addr) : WW w a 0 [] := ⟨rfl, by decide, fun j hj => absurd hj (Nat.not_lt_zero _), fun p h => by simp at h⟩

/-- where a transaction's three lists lie -/
structure TxAt where
  da : Option Addr
  dn : Nat
  dc : Nat
  aa : Option Addr
  an : Nat
  ac : Nat
  wa : Option Addr
  wn : Nat
  wc : Nat
def txCs (t : TxnL) (s : TxAt) : List Value := [.int .i64 t.o, .int .i64 t.num, .int .i64 t.prev, .slice s.da s.dn s.dc, .slice s.aa s.an s.ac, .slice s.wa s.wn s.wc]
def txV (t : TxnL) (s : TxAt) : Value := .agg #[.int .i64 t.o, .int .i64 t.num, .int .i64 t.prev, .slice s.da s.dn s.dc, .slice s.aa s.an s.ac, .slice s.wa s.wn s.wc]
structure TX (w : World) (s : TxAt) (t : TxnL) : Prop where
  deps : IA w s.da s.dn t.deps
  at_ : IA w s.aa s.an t.at_
  ws : WW w s.wa s.wn t.ws
  o : -9223372036854775808 ≤ t.o ∧ t.o ≤ 9223372036854775807
  num : -9223372036854775808 ≤ t.num ∧ t.num ≤ 9223372036854775807
  prev : -9223372036854775808 ≤ t.prev ∧ t.prev ≤ 9223372036854775807
theorem TX.keep {w w' : World} {s : TxAt} {t : TxnL} (h : TX w s t) (k : Bl w w') : TX w' s t := ⟨h.deps.keep k, h.at_.keep k, h.ws.keep k, h.o, h.num, h.prev⟩
theorem TX.txOk {w : World} {s : TxAt} {t : TxnL} (h : TX w s t) : TxOk t := ⟨h.o, h.num, h.prev, h.ws.ok⟩
theorem AC.tx {w : World} {g : Nat} {t : TxnL} {s : TxAt} (h : AC w g (txCs t s)) :
    w.cell? ⟨g, 0, none⟩ = some (.int .i64 t.o) ∧ w.cell? ⟨g, 1, none⟩ = some (.int .i64 t.num) ∧ w.cell? ⟨g, 2, none⟩ = some (.int .i64 t.prev) ∧ w.cell? ⟨g, 3, none⟩ = some (.slice s.da s.dn s.dc) ∧ w.cell? ⟨g, 4, none⟩ = some (.slice s.aa s.an s.ac) ∧ w.cell? ⟨g, 5, none⟩ = some (.slice s.wa s.wn s.wc) :=
  ⟨h.cell 0 _ rfl, h.cell 1 _ rfl, h.cell 2 _ rfl, h.cell 3 _ rfl, h.cell 4 _ rfl, h.cell 5 _ rfl⟩
def nilTx : TxnL := ⟨0, 0, 0, [], [], []⟩
end Go.Proofs.YtfmabjoindlfeaaGreat
end

/- bedrockref21.SameWrites, bedrockref21.Same. By an AI agent. -/
section
set_option linter.unusedVariables false
set_option linter.unusedSimpArgs false
namespace Go.Proofs.YtfmabjoindlfeaaGreat
open Go.RowKit
attribute [local go_sem] eOp eOper eUpon

theorem beq_key (a b : ByteArray) : (a.toList == b.toList) = decide (a = b) := by
  rw [Bool.eq_iff_iff, beq_iff_eq, decide_eq_true_iff, ByteArray.toList_eq, ByteArray.toList_eq]
  exact ⟨fun h => ByteArray.ext (Array.toList_inj.1 h), fun h => by rw [h]⟩
theorem rsameAct_any (a d : ActL) (w : World) (oa : a.Ok) (ob : d.Ok) :
    Calls Tryz.prog 131 #[.agg #[.int .i64 a.k, .float .f64 a.x, .int .i64 a.n, .string a.s], .agg #[.int .i64 d.k, .float .f64 d.x, .int .i64 d.n, .string d.s]] w fun e w' => e = .returned (.bool (sameA a d)) ∧ Bl w w' := refSameA_any a d w oa ob
set_option maxHeartbeats 6400000 in
set_option maxRecDepth 100000 in
theorem rsameWs_any (a : Option Addr) (n ca : Nat) (xs : List (ByteArray × ActL)) (b : Option Addr) (m cb : Nat) (ys : List (ByteArray × ActL)) (w : World) (hx : WW w a n xs) (hy : WW w b m ys) :
    Calls Tryz.prog 46 #[.slice a n ca, .slice b m cb] w fun e w' => e = .returned (.bool (sameWs xs ys)) ∧ Bl w w' := by
  have hn := hx.cap
  have hm := hy.cap
  have HX := Lib.hid hx
  have HY := Lib.hid hy
  have HL := Lib.hid hx.len
  have HM := Lib.hid hy.len
  clear hx hy
  by_cases hnm : n = m
  case neg =>
    have q : ((n : Int) != (m : Int)) = true := by rw [bne_iff_ne]; omega
    have HF : Hid (sameWs xs ys = false) := Lib.hid (by
      cases h : sameWs xs ys
      · rfl
      · have := (sameWs_iff.1 h).1; have := HL.out; have := HM.out; omega)
    clear hnm
    go_enter Tryz.func46, Tryz.ntmps46
    go_wp2_with fail
    go_ret
    exact ⟨ret_bool HF.out.symm, Bl.refl _⟩
  subst hnm
  have q : ((n : Int) != (n : Int)) = false := by simp
  go_enter Tryz.func46, Tryz.ntmps46
  go_wp2_with fail
  go_loopw [5] (fun i wr => ∃ k : Nat, k ≤ n ∧ i = .int .i64 k ∧ Bl w wr ∧ ∀ j, j < k → (nthW xs j).1 = (nthW ys j).1 ∧ sameA (nthW xs j).2 (nthW ys j).2 = true) (fun i _ => n - (intOf i).toNat)
  case atStart => exact ⟨0, Nat.zero_le _, rfl, Bl.refl _, fun j hj => absurd hj (Nat.not_lt_zero _)⟩
  case round =>
    obtain ⟨k, hk, rfl, hbl, hok⟩ := hrel
    have HBL := Lib.hid hbl
    have HOK := Lib.hid hok
    clear hbl hok
    by_cases hlt : k < n
    · have hkx : k < xs.length := by rw [HL.out]; exact hlt
      have hky : k < ys.length := by rw [HM.out]; exact hlt
      obtain ⟨ba, oa, rfl, _⟩ := HX.out.cells k hlt
      obtain ⟨bb, ob, rfl, _⟩ := HY.out.cells k hlt
      have HCX := Lib.hid (HX.out.get HBL.out.drew hlt)
      have HCY := Lib.hid (HY.out.get HBL.out.drew hlt)
      have HOX : Hid (WrOk (nthW xs k)) := Lib.hid (HX.out.ok _ (by rw [nthW_eq hkx]; exact List.getElem_mem hkx))
      have HOY : Hid (WrOk (nthW ys k)) := Lib.hid (HY.out.ok _ (by rw [nthW_eq hky]; exact List.getElem_mem hky))
      have HNO : Hid (¬ ((nthW xs k).1 = (nthW ys k).1 ∧ sameA (nthW xs k).2 (nthW ys k).2 = true) → sameWs xs ys = false) := Lib.hid (fun h => by
        cases h2 : sameWs xs ys
        · rfl
        · exact absurd ((sameWs_iff.1 h2).2 k hkx) h)
      have HYES : Hid ((nthW xs k).1 = (nthW ys k).1 ∧ sameA (nthW xs k).2 (nthW ys k).2 = true → ∀ j, j < k + 1 → (nthW xs j).1 = (nthW ys j).1 ∧ sameA (nthW xs j).2 (nthW ys j).2 = true) := Lib.hid (fun h j hj => by
        rcases Nat.lt_succ_iff_lt_or_eq.1 hj with h1 | rfl
        · exact HOK.out j h1
        · exact h)
      generalize nthW xs k = p at *
      generalize nthW ys k = r at *
      obtain ⟨kx, ax⟩ := p
      obtain ⟨ky, ay⟩ := r
      dsimp only at HNO HYES
      have HA := Lib.hid (fun (q : Ext wr.drew) => rsameAct_any ax ay q.at HOX.out.2 HOY.out.2)
      have x0 : ∀ q : Ext wr.drew, _ := fun q => (HCX.out.keep q.bl).c0
      have x1 : ∀ q : Ext wr.drew, _ := fun q => (HCX.out.keep q.bl).c1
      have x2 : ∀ q : Ext wr.drew, _ := fun q => (HCX.out.keep q.bl).c2
      have x3 : ∀ q : Ext wr.drew, _ := fun q => (HCX.out.keep q.bl).c3
      have x4 : ∀ q : Ext wr.drew, _ := fun q => (HCX.out.keep q.bl).c4
      have y0 : ∀ q : Ext wr.drew, _ := fun q => (HCY.out.keep q.bl).c0
      have y1 : ∀ q : Ext wr.drew, _ := fun q => (HCY.out.keep q.bl).c1
      have y2 : ∀ q : Ext wr.drew, _ := fun q => (HCY.out.keep q.bl).c2
      have y3 : ∀ q : Ext wr.drew, _ := fun q => (HCY.out.keep q.bl).c3
      have y4 : ∀ q : Ext wr.drew, _ := fun q => (HCY.out.keep q.bl).c4
      dsimp only at x0 x1 x2 x3 x4 y0 y1 y2 y3 y4
      clear hkx hky
      by_cases hkey : kx = ky
      case neg =>
        have qk : (kx.toList == ky.toList) = false := by rw [beq_key]; exact decide_eq_false hkey
        have HF := Lib.hid (HNO.out (fun h => hkey h.1))
        clear hkey
        go_upto_region 6 with fail
        refine wp_region_allS (by kernel_rfl) (by kernel_rfl) ?_
        repeat (refine wpS_step (fun K hK => ?_); go_simp; first | (refine hK _ ?_; clear hK K) | (apply Exists.intro; refine ⟨fun q => ?_, hK _ ?_⟩; (with_reducible exact HA.out q); clear hK K))
        refine wpS_nil ?_
        intro q1
        have HBN := Lib.hid (HBL.out.trans (((Bl.refl wr).drew).trans q1.bl))
        clear x0 x1 x2 x3 x4 y0 y1 y2 y3 y4
        generalize ExtC.at q1 = Y at *
        go_wp2_with fail
        go_ret
        exact ⟨ret_bool HF.out.symm, HBN.out⟩
      have qk : (kx.toList == ky.toList) = true := by rw [beq_key]; exact decide_eq_true hkey
      cases hs : sameA ax ay
      · have HF := Lib.hid (HNO.out (fun h => by rw [hs] at h; cases h.2))
        have HAF := Lib.hid (fun q => by have := HA.out q; rw [hs] at this; exact this)
        clear hkey hs
        go_upto_region 6 with fail
        refine wp_region_allS (by kernel_rfl) (by kernel_rfl) ?_
        repeat (refine wpS_step (fun K hK => ?_); go_simp; first | (refine hK _ ?_; clear hK K) | (apply Exists.intro; refine ⟨fun q => ?_, hK _ ?_⟩; (with_reducible exact HAF.out q); clear hK K))
        refine wpS_nil ?_
        intro q1
        have HBN := Lib.hid (HBL.out.trans (((Bl.refl wr).drew).trans q1.bl))
        clear x0 x1 x2 x3 x4 y0 y1 y2 y3 y4
        generalize ExtC.at q1 = Y at *
        go_wp2_with fail
        go_ret
        exact ⟨ret_bool HF.out.symm, HBN.out⟩
      · have HF := Lib.hid (HYES.out ⟨hkey, hs⟩)
        have HAF := Lib.hid (fun q => by have := HA.out q; rw [hs] at this; exact this)
        clear hkey hs
        go_upto_region 6 with fail
        refine wp_region_allS (by kernel_rfl) (by kernel_rfl) ?_
        repeat (refine wpS_step (fun K hK => ?_); go_simp; first | (refine hK _ ?_; clear hK K) | (apply Exists.intro; refine ⟨fun q => ?_, hK _ ?_⟩; (with_reducible exact HAF.out q); clear hK K))
        refine wpS_nil ?_
        intro q1
        have HBN := Lib.hid (HBL.out.trans (((Bl.refl wr).drew).trans q1.bl))
        clear x0 x1 x2 x3 x4 y0 y1 y2 y3 y4
        generalize ExtC.at q1 = Y at *
        go_wp2_with fail
        go_roundw
        case rel => exact ⟨k + 1, by omega, by go_num, HBN.out, HF.out⟩
        case measure => simp [intOf]; omega
    · obtain rfl : k = n := by omega
      have HF : Hid (sameWs xs ys = true) := Lib.hid (sameWs_iff.2 ⟨by rw [HL.out, HM.out], fun i hi => HOK.out i (by rw [HL.out] at hi; exact hi)⟩)
      go_wp2_with fail
      go_ret
      exact ⟨ret_bool HF.out.symm, HBL.out⟩
theorem sameT_parts {a b : TxnL} (h : sameT a b = true) : a.o = b.o ∧ a.num = b.num ∧ a.prev = b.prev ∧ a.deps = b.deps ∧ a.at_ = b.at_ ∧ sameWs a.ws b.ws = true := by
  unfold sameT at h
  rw [Bool.and_eq_true, Bool.and_eq_true, Bool.and_eq_true, decide_eq_true_eq, decide_eq_true_eq, decide_eq_true_eq] at h
  exact ⟨h.1.1, h.1.2.1, h.1.2.2, h.2.1, h.2.2.1, h.2.2.2⟩
set_option maxHeartbeats 6400000 in
set_option maxRecDepth 100000 in
theorem rsameT_any (t r : TxnL) (s u : TxAt) (w : World) (ht : TX w s t) (hr : TX w u r) :
    Calls Tryz.prog 14 #[txV t s, txV r u] w fun e w' => e = .returned (.bool (sameT t r)) ∧ Bl w w' := by
  have HN : Hid (¬ (t.o = r.o ∧ t.num = r.num ∧ t.prev = r.prev ∧ t.deps = r.deps ∧ t.at_ = r.at_ ∧ sameWs t.ws r.ws = true) → sameT t r = false) := Lib.hid (fun h => by
    cases h2 : sameT t r
    · rfl
    · exact absurd (sameT_parts h2) h)
  have HY : Hid (t.o = r.o → t.num = r.num → t.prev = r.prev → t.deps = r.deps → t.at_ = r.at_ → sameT t r = sameWs t.ws r.ws) := Lib.hid (fun h1 h2 h3 h4 h5 => by
    unfold sameT; rw [h1, h2, h3, h4, h5]; simp)
  have HT := Lib.hid ht
  have HR := Lib.hid hr
  have hg := AC.new w _ rfl (txCs t s) 26
  have hb := (Bl.refl w).alloc (.cells (txCs t s).toArray 26)
  have hsz : (w.alloc (.cells (txCs t s).toArray 26)).heap.size = w.heap.size + 1 := by simp
  unfold txV
  clear ht hr
  obtain ⟨o, num, prev, ds, xs, ws⟩ := t
  obtain ⟨o', num', prev', ds', xs', ws'⟩ := r
  obtain ⟨da, dn, dc, aa, an, ac, wa, wn, wc⟩ := s
  obtain ⟨da', dn', dc', aa', an', ac', wa', wn', wc'⟩ := u
  unfold txCs at hg hb hsz
  dsimp only at HN HY hg hb hsz ⊢
  go_enter Tryz.func14, Tryz.ntmps14
  go_upto_region 1 with fail
  generalize w.alloc _ = W1 at *
  have hg2 := AC.new W1 _ rfl [.int .i64 o', .int .i64 num', .int .i64 prev', .slice da' dn' dc', .slice aa' an' ac', .slice wa' wn' wc'] 26
  have hbb := (Bl.refl W1).alloc (.cells [Value.int .i64 o', .int .i64 num', .int .i64 prev', .slice da' dn' dc', .slice aa' an' ac', .slice wa' wn' wc'].toArray 26)
  rw [hsz] at hg2
  have hg1 := hg.keep hbb
  have hb1 := hb.trans hbb
  clear hg hb hbb hsz
  generalize W1.alloc _ = W at *
  generalize w.heap.size = g1 at *
  have HG1 := Lib.hid hg1
  have HG2 := Lib.hid hg2
  have HB := Lib.hid hb1
  have c0 := hg1.cell 0 _ rfl
  have c1 := hg1.cell 1 _ rfl
  have c2 := hg1.cell 2 _ rfl
  have c3 := hg1.cell 3 _ rfl
  have c4 := hg1.cell 4 _ rfl
  have c5 := hg1.cell 5 _ rfl
  have e0 := hg2.cell 0 _ rfl
  have e1 := hg2.cell 1 _ rfl
  have e2 := hg2.cell 2 _ rfl
  have e3 := hg2.cell 3 _ rfl
  have e4 := hg2.cell 4 _ rfl
  have e5 := hg2.cell 5 _ rfl
  clear hg1 hg2 hb1
  by_cases h1 : o = o'
  case neg =>
    have q1 : (o == o') = false := by rw [beq_eq_false_iff_ne]; exact h1
    have HF := Lib.hid (HN.out (fun h => h1 h.1))
    clear h1
    go_wp2_with fail
    go_ret
    exact ⟨ret_bool HF.out.symm, HB.out⟩
  have q1 : (o == o') = true := by rw [beq_iff_eq]; exact h1
  by_cases h2 : num = num'
  case neg =>
    have q2 : (num == num') = false := by rw [beq_eq_false_iff_ne]; exact h2
    have HF := Lib.hid (HN.out (fun h => h2 h.2.1))
    clear h1 h2
    go_wp2_with fail
    go_ret
    exact ⟨ret_bool HF.out.symm, HB.out⟩
  have q2 : (num == num') = true := by rw [beq_iff_eq]; exact h2
  by_cases h3 : prev = prev'
  case neg =>
    have q3 : (prev == prev') = false := by rw [beq_eq_false_iff_ne]; exact h3
    have HF := Lib.hid (HN.out (fun h => h3 h.2.2.1))
    clear h1 h2 h3
    go_wp2_with fail
    go_ret
    exact ⟨ret_bool HF.out.symm, HB.out⟩
  have q3 : (prev == prev') = true := by rw [beq_iff_eq]; exact h3
  have HE := Lib.hid (And.intro h1 (And.intro h2 h3))
  clear h1 h2 h3
  go_wp2_with fail
  refine (rsame_any _ _ _ _ _ _ ds ds' _ (HT.out.deps.keep HB.out) (HR.out.deps.keep HB.out)).mono ?_
  rintro e W2 ⟨rfl, hb2⟩
  have HB2 := Lib.hid (HB.out.trans hb2)
  replace c4 := hb2.cell c4
  replace c5 := hb2.cell c5
  replace e4 := hb2.cell e4
  replace e5 := hb2.cell e5
  clear hb2 c0 c1 c2 c3 e0 e1 e2 e3
  by_cases h4 : ds = ds'
  case neg =>
    have HF := Lib.hid (HN.out (fun h => h4 h.2.2.2.1))
    rw [decide_eq_false h4]
    clear h4
    go_wp2_with fail
    go_ret
    exact ⟨ret_bool HF.out.symm, HB2.out⟩
  have H4 := Lib.hid h4
  rw [decide_eq_true h4]
  clear h4
  go_wp2_with fail
  refine (rsame_any _ _ _ _ _ _ xs xs' _ (HT.out.at_.keep HB2.out) (HR.out.at_.keep HB2.out)).mono ?_
  rintro e W3 ⟨rfl, hb3⟩
  have HB3 := Lib.hid (HB2.out.trans hb3)
  replace c5 := hb3.cell c5
  replace e5 := hb3.cell e5
  clear hb3 c4 e4
  by_cases h5 : xs = xs'
  case neg =>
    have HF := Lib.hid (HN.out (fun h => h5 h.2.2.2.2.1))
    rw [decide_eq_false h5]
    clear h5
    go_wp2_with fail
    go_ret
    exact ⟨ret_bool HF.out.symm, HB3.out⟩
  have HF := Lib.hid (HY.out HE.out.1 HE.out.2.1 HE.out.2.2 H4.out h5)
  rw [decide_eq_true h5]
  clear h5
  go_wp2_with fail
  refine (rsameWs_any _ _ _ ws _ _ _ ws' _ (HT.out.ws.keep HB3.out) (HR.out.ws.keep HB3.out)).mono ?_
  rintro e W4 ⟨rfl, hb4⟩
  have HB4 := Lib.hid (HB3.out.trans hb4)
  clear hb4 c5 e5
  rw [← HF.out]
  go_wp2_with fail
  go_ret
  exact ⟨rfl, HB4.out⟩
end Go.Proofs.YtfmabjoindlfeaaGreat
end
