import Derived.Test.YtaplefelfiefaaaGreatQArchiveTellsUptoP2
import Derived.Test.YtaplefelfiefaaaGreatQArchiveTellsUptoP5
import Derived.Test.YtaplefelfiefaaaGreatQArchiveTellsUptoP8
import Derived.Test.YtaplefelfiefaaaGreatQArchiveTellsUptoP9
import Derived.Test.YtaplefelfiefaaaGreatQArchiveTellsUptoP6
import Derived.Test.YtaplefelfiefaaaGreatQArchiveTellsUptoP3
import Derived.StillTailTactics
import Derived.Test.YtaplefelfiefaaaGreatQArchiveTellsUptoP11
import Derived.Test.YtaplefelfiefaaaGreatQArchiveTellsUptoP12

/- what is the same, part by part. By an AI agent. -/
section
set_option linter.unusedVariables false
namespace Go.Proofs.YtaplefelfiefaaaGreat
open Go.RowKit

theorem size_nil (s : ByteArray) : s.data.toList.length = s.size := by simp
theorem toList_inj {s t : ByteArray} (h : s.toList = t.toList) : s = t := by
  rw [ByteArray.toList_eq, ByteArray.toList_eq] at h
  exact ByteArray.ext (Array.toList_inj.1 h)
theorem sameA_parts {a b : ActL} (h : sameA a b = true) : a.k = b.k ∧ fkey a.x = fkey b.x ∧ a.n = b.n ∧ a.s = b.s := by
  simp only [sameA, Bool.and_eq_true, decide_eq_true_eq, beq_iff_eq] at h
  exact ⟨h.1, h.2.1, h.2.2.1, toList_inj h.2.2.2⟩
theorem sameV_parts {a b : ValL} (h : sameV a b = true) : a.there = b.there ∧ fkey a.x = fkey b.x ∧ a.n = b.n ∧ a.s = b.s := by
  simp only [sameV, Bool.and_eq_true, decide_eq_true_eq, beq_iff_eq] at h
  exact ⟨h.1, h.2.1, h.2.2.1, toList_inj h.2.2.2⟩
end Go.Proofs.YtaplefelfiefaaaGreat
end

/- laws of acts, values and sealed bytes. By an AI agent. -/
section
set_option linter.unusedVariables false
set_option linter.unusedSimpArgs false
namespace Go.Proofs.YtaplefelfiefaaaGreat
open Go.RowKit

theorem fits_same (key : ByteArray) {a b : ActL} (h : sameA a b = true) : fitsB key a = fitsB key b := by
  obtain ⟨h1, h2, h3, h4⟩ := sameA_parts h
  have hn : noughtB a.x = noughtB b.x := by unfold noughtB; rw [h2]
  unfold fitsB rightB
  rw [h1, h3, h4, hn]
theorem valOf_same {a b : ActL} (h : sameA a b = true) : sameV (valOf a) (valOf b) = true := by
  obtain ⟨h1, h2, h3, h4⟩ := sameA_parts h
  unfold valOf
  rw [h1]
  split
  · exact sameV_refl _
  · exact sameV_of rfl h2 h3 h4
theorem sameV_trans {a b c : ValL} (h : sameV a b = true) (k : sameV b c = true) : sameV a c = true := by
  obtain ⟨h1, h2, h3, h4⟩ := sameV_parts h
  obtain ⟨k1, k2, k3, k4⟩ := sameV_parts k
  exact sameV_of (h1.trans k1) (h2.trans k2) (h3.trans k3) (h4.trans k4)
theorem sameV_symm {a b : ValL} (h : sameV a b = true) : sameV b a = true := by
  obtain ⟨h1, h2, h3, h4⟩ := sameV_parts h
  exact sameV_of h1.symm h2.symm h3.symm h4.symm
theorem key_size {key : ByteArray} (h : isKeyB key = true) : key.size ≤ 64 := by
  simp only [isKeyB, Bool.and_eq_true, decide_eq_true_eq] at h
  exact h.2.1
theorem rdV_put {xs : List Int} (h : validL xs = true) (m : List UInt8) : rdV (putL xs ++ m) = some (xs, m) := by
  have hv := valid_parts h
  have e : (UInt8.ofNat xs.length).toNat = xs.length := by simp; omega
  have hb : (putBodyL xs).length = 6 * xs.length := putBodyL_len xs
  unfold putL
  rw [List.cons_append, rdV_cons, e, if_pos ⟨⟨hv.1, hv.2.1⟩, by rw [List.length_append]; omega⟩, vals_put xs m hv.2.2, List.drop_left' hb]
theorem rdTake_put (l m : List UInt8) {n : Nat} (h : l.length = n) : rdTake n (l ++ m) = some (l, m) := by
  subst h
  unfold rdTake
  rw [if_pos (by rw [List.length_append]; omega), List.take_left, List.drop_left]
def sealL (l : List UInt8) : List UInt8 := l ++ numB (sumL l : Int) 4
theorem sealL_len (l : List UInt8) : (sealL l).length = l.length + 4 := by unfold sealL; rw [List.length_append, numB_len]
theorem sealL_take (l : List UInt8) : (sealL l).take ((sealL l).length - 4) = l := by
  rw [sealL_len, Nat.add_sub_cancel]
  unfold sealL
  exact List.take_left
theorem sealL_drop (l : List UInt8) : (sealL l).drop ((sealL l).length - 4) = numB (sumL l : Int) 4 := by
  rw [sealL_len, Nat.add_sub_cancel]
  unfold sealL
  exact List.drop_left
theorem putS_right {a : ActL} (h : rightB a = true) : putS a = putA a ∧ putC a = 0 := by unfold putS putC; rw [if_pos h, if_pos h]; exact ⟨rfl, rfl⟩
/-- worlds that go on from W1 and hold a box -/
def HoldB (W1 : World) (g : Nat) (cs : List Value) (W' : World) : Prop := Bl W1 W' ∧ AC W' g cs
theorem HoldB.keep {W1 : World} {g : Nat} {cs : List Value} (w w' : World) (h : HoldB W1 g cs w) (k : Bl w w') : HoldB W1 g cs w' := ⟨h.1.trans k, h.2.keep k⟩
end Go.Proofs.YtaplefelfiefaaaGreat
end

/- archives in bytes: plain definitions and laws. · archive: num, want, reader's take and num, Act. By an AI agent. -/
section
set_option linter.unusedVariables false
set_option linter.unusedSimpArgs false
namespace Go.Proofs.YtaplefelfiefaaaGreat
open Go.RowKit

/-! ### the act that makes a value of nothing -/
def actOf (key : ByteArray) (v : ValL) : ActL :=
  if isKeyB key then
    if hd key = 114 then ⟨0, v.x, 0, nilS⟩
    else if hd key = 116 then ⟨0, 0, 0, v.s⟩
    else if hd key = 99 then ⟨1, 0, v.n, nilS⟩
    else if hd key = 120 then ⟨2, v.x, 0, nilS⟩
    else ⟨3, v.x, 0, nilS⟩
  else ⟨0, 0, 0, nilS⟩
theorem actOf_ok (key : ByteArray) {v : ValL} (h : v.Ok) : (actOf key v).Ok := by
  unfold actOf
  have hz : (0 : Nat) < two64 := by decide
  (repeat' split) <;> first | exact actOkB (by decide) h.x (by decide) nil_small | exact actOkB (by decide) hz (by decide) h.s | exact actOkB (by decide) hz h.n nil_small | exact actOkB (by decide) hz (by decide) nil_small
theorem actOf_kind (key : ByteArray) (v : ValL) : (actOf key v).k ≠ 4 := by
  unfold actOf
  (repeat' split) <;> first | exact (by decide : ¬ (0 : Int) = 4) | exact (by decide : ¬ (1 : Int) = 4) | exact (by decide : ¬ (2 : Int) = 4) | exact (by decide : ¬ (3 : Int) = 4)
theorem after_new {key : ByteArray} {a : ActL} (h : fitsB key a = true) : afterL key noVal a = valOf a := by
  unfold afterL
  rw [if_pos h]
  rfl
/-- a fitting act is what makes its value -/
theorem actOf_valOf {key : ByteArray} {a : ActL} (ok : a.Ok) (h : fitsB key a = true) (h4 : a.k ≠ 4) : actOf key (valOf a) = a := by
  have hi := (fits_key h).1
  have hr := (fits_key h).2
  have hv : valOf a = ⟨true, a.x, a.n, a.s⟩ := by unfold valOf; rw [if_neg h4]
  rw [hv]
  unfold actOf
  rw [if_pos hi]
  have h3 := h
  simp only [fitsB, Bool.and_eq_true] at h3
  have h3 := h3.2.2
  rcases key_head hi with k | k | k | k | k
  · rw [if_pos k]
    simp only [k, if_true, Bool.or_eq_true, Bool.and_eq_true, decide_eq_true_eq] at h3
    rcases h3 with ⟨k0, hs⟩ | k4
    · have hs2 : a.s = nilS := nil_of (by simpa using hs)
      clear hs
      rcases right_kind ok hr with ⟨_, n0, _⟩ | ⟨k1, _⟩ | ⟨k1, _⟩ | ⟨k1, _⟩
      · obtain ⟨ak, ax, an, az⟩ := a
        simp only at k0 n0 hs2
        subst k0; subst n0; subst hs2; rfl
      · omega
      · omega
      · omega
    · exact absurd k4 h4
  · rw [if_neg (by omega), if_pos k]
    simp only [k, Bool.or_eq_true, Bool.and_eq_true, decide_eq_true_eq] at h3
    rw [if_neg (by decide), if_pos trivial] at h3
    simp only [Bool.or_eq_true, Bool.and_eq_true, decide_eq_true_eq] at h3
    rcases h3 with ⟨k0, hx⟩ | k4
    · replace hx := nought_eq ok.x hx
      rcases right_kind ok hr with ⟨_, n0, _⟩ | ⟨k1, _⟩ | ⟨k1, _⟩ | ⟨k1, _⟩
      · obtain ⟨ak, ax, an, az⟩ := a
        simp only at k0 n0 hx
        subst k0; subst n0; subst hx; rfl
      · omega
      · omega
      · omega
    · exact absurd k4 h4
  · rw [if_neg (by omega), if_neg (by omega), if_pos k]
    exact (fits_add ok k h).symm
  · rw [if_neg (by omega), if_neg (by omega), if_neg (by omega), if_pos k]
    exact (fits_max k h).symm
  · rw [if_neg (by omega), if_neg (by omega), if_neg (by omega), if_neg (by omega)]
    exact (fits_min k h).symm

/-! ### archives -/
structure ArcL where
  n : Int
  parts : Int
  at_ : List Int
  pairs : List (ByteArray × ValL)
def pairB (p : ByteArray × ValL) : Bool := fitsB p.1 (actOf p.1 p.2) && sameV (afterL p.1 noVal (actOf p.1 p.2)) p.2
def lessK (s t : ByteArray) : Bool := decide (Lib.compareBytes s.data.toList t.data.toList < 0)
def okAt (ps : List (ByteArray × ValL)) (i : Nat) : Bool := (decide (i = 0) || lessK (nthQ ps (i - 1)).1 (nthQ ps i).1) && pairB (nthQ ps i)
def frontB (a : ArcL) : Bool := decide (1 ≤ a.n ∧ a.n ≤ 8 ∧ 1 ≤ a.parts ∧ a.parts ≤ 64 ∧ (a.at_.length : Int) = a.n ∧ a.pairs.length ≤ 10000)
def validArc (a : ArcL) : Bool := frontB a && (validL a.at_ && (decide (a.pairs.length = 0 ∨ a.at_ ≠ zeroL a.at_.length) && (List.range a.pairs.length).all (okAt a.pairs)))
structure ArcParts (a : ArcL) : Prop where
  n : 1 ≤ a.n ∧ a.n ≤ 8
  parts : 1 ≤ a.parts ∧ a.parts ≤ 64
  len : (a.at_.length : Int) = a.n
  few : a.pairs.length ≤ 10000
  at_ : validL a.at_ = true
  zero : a.pairs.length = 0 ∨ a.at_ ≠ zeroL a.at_.length
  ok : ∀ i, i < a.pairs.length → okAt a.pairs i = true
theorem validArc_parts {a : ArcL} (h : validArc a = true) : ArcParts a := by
  simp only [validArc, frontB, Bool.and_eq_true, decide_eq_true_eq, List.all_eq_true, List.mem_range] at h
  exact ⟨⟨h.1.1, h.1.2.1⟩, ⟨h.1.2.2.1, h.1.2.2.2.1⟩, h.1.2.2.2.2.1, h.1.2.2.2.2.2, h.2.1, h.2.2.1, h.2.2.2⟩
theorem validArc_of {a : ArcL} (h : ArcParts a) : validArc a = true := by
  simp only [validArc, frontB, Bool.and_eq_true, decide_eq_true_eq, List.all_eq_true, List.mem_range]
  exact ⟨⟨h.n.1, h.n.2, h.parts.1, h.parts.2, h.len, h.few⟩, h.at_, h.zero, h.ok⟩
/-- what is stored within Go's bounds -/
def ArcOk (a : ArcL) : Prop := ∀ p ∈ a.pairs, p.1.size ≤ 140737488351232 ∧ p.2.Ok
theorem ArcParts.pair {a : ArcL} (h : ArcParts a) {p : ByteArray × ValL} (hp : p ∈ a.pairs) : pairB p = true := by
  obtain ⟨i, hi, rfl⟩ := List.getElem_of_mem hp
  have := h.ok i hi
  simp only [okAt, Bool.and_eq_true] at this
  rw [nthQ_eq hi] at this
  exact this.2
theorem pairB_parts {p : ByteArray × ValL} (h : pairB p = true) : fitsB p.1 (actOf p.1 p.2) = true ∧ sameV (valOf (actOf p.1 p.2)) p.2 = true := by
  simp only [pairB, Bool.and_eq_true] at h
  rw [after_new h.1] at h
  exact h
/-! ### in bytes -/
def beginL : List UInt8 := [66, 69, 68, 82, 79, 67, 75, 49]
def putPairC (p : ByteArray × ValL) : List UInt8 := numB (p.1.size : Int) 1 ++ (p.1.data.toList ++ (numB ((putA (actOf p.1 p.2)).length : Int) 2 ++ putA (actOf p.1 p.2)))
def headArc (a : ArcL) : List UInt8 := beginL ++ (numB a.n 1 ++ (numB a.parts 1 ++ (putL a.at_ ++ numB (a.pairs.length : Int) 4)))
def bodyArc (a : ArcL) : List UInt8 := headArc a ++ a.pairs.flatMap putPairC
def putArc (a : ArcL) : List UInt8 := sealL (bodyArc a)
def rdPairC (l : List UInt8) : Option ((ByteArray × ValL) × List UInt8) :=
  (rdNum 1 l).bind fun p1 => (rdTake p1.1.toNat p1.2).bind fun p2 => (rdNum 2 p2.2).bind fun p3 => (rdTake p3.1.toNat p3.2).bind fun p4 =>
    if (getA p4.1).2 = 0 ∧ fitsB ⟨p2.1.toArray⟩ (getA p4.1).1 = true then some ((⟨p2.1.toArray⟩, afterL ⟨p2.1.toArray⟩ noVal (getA p4.1).1), p4.2) else none
def rdPairsC : Nat → List UInt8 → Option (List (ByteArray × ValL) × List UInt8)
  | 0, l => some ([], l)
  | n + 1, l => (rdPairC l).bind fun p => (rdPairsC n p.2).map fun q => (p.1 :: q.1, q.2)
def rdFront (l : List UInt8) : Option ((Int × Int × List Int × Int) × List UInt8) :=
  (rdTake 8 l).bind fun p0 => if p0.1 = beginL then (rdNum 1 p0.2).bind fun p1 => (rdNum 1 p1.2).bind fun p2 => (rdV p2.2).bind fun p3 => (rdNum 4 p3.2).bind fun p4 => some ((p1.1, p2.1, p3.1, p4.1), p4.2) else none
def rdBody (l : List UInt8) : Option (ArcL × List UInt8) :=
  (rdFront l).bind fun p => (rdPairsC p.1.2.2.2.toNat p.2).map fun q => (⟨p.1.1, p.1.2.1, p.1.2.2.1, q.1⟩, q.2)
def rdArc (l : List UInt8) : Option ArcL :=
  if 12 ≤ l.length ∧ l.length ≤ 524288 ∧ numB (sumL (l.take (l.length - 4)) : Int) 4 = l.drop (l.length - 4) then
    (rdBody (l.take (l.length - 4))).bind fun p => if validArc p.1 = true ∧ putArc p.1 = l then some p.1 else none
  else none
def canonP (p : ByteArray × ValL) : ByteArray × ValL := (p.1, valOf (getA (putA (actOf p.1 p.2))).1)
def canonArc (a : ArcL) : ArcL := ⟨a.n, a.parts, a.at_, a.pairs.map canonP⟩

structure CanonOf (p : ByteArray × ValL) (a : ActL) : Prop where
  code : (getA (putA (actOf p.1 p.2))).2 = 0
  same : sameA (actOf p.1 p.2) a = true
  ok : a.Ok
  fits : fitsB p.1 a = true
  kind : a.k ≠ 4
  put : putA a = putA (actOf p.1 p.2)
theorem canon_of {p : ByteArray × ValL} (h : pairB p = true) (hv : p.2.Ok) : CanonOf p (getA (putA (actOf p.1 p.2))).1 := by
  have hf := (pairB_parts h).1
  have hr := (fits_key hf).2
  have ok := actOf_ok p.1 hv
  obtain ⟨h1, h2⟩ := getA_putA ok hr
  obtain ⟨h3, h4, h5⟩ := putA_getA _ h1
  refine ⟨h1, h2, h5, by rw [← fits_same p.1 h2]; exact hf, ?_, h3⟩
  rw [← (sameA_parts h2).1]
  exact actOf_kind _ _
theorem canonP_act {p : ByteArray × ValL} (h : pairB p = true) (hv : p.2.Ok) : actOf (canonP p).1 (canonP p).2 = (getA (putA (actOf p.1 p.2))).1 :=
  actOf_valOf (canon_of h hv).ok (canon_of h hv).fits (canon_of h hv).kind
theorem canonP_put {p : ByteArray × ValL} (h : pairB p = true) (hv : p.2.Ok) : putPairC (canonP p) = putPairC p := by
  unfold putPairC
  rw [canonP_act h hv, (canon_of h hv).put]
  rfl
theorem canonP_ok {p : ByteArray × ValL} (h : pairB p = true) (hv : p.2.Ok) : pairB (canonP p) = true ∧ sameV (canonP p).2 p.2 = true ∧ (canonP p).2.Ok := by
  have c := canon_of h hv
  refine ⟨?_, ?_, valOf_ok c.ok⟩
  · unfold pairB
    rw [canonP_act h hv, show (canonP p).1 = p.1 from rfl, c.fits, after_new c.fits]
    exact sameV_refl _
  · exact sameV_trans (sameV_symm (valOf_same c.same)) (pairB_parts h).2
theorem putPairC_len {p : ByteArray × ValL} (h : pairB p = true) : (putPairC p).length ≤ 1093 := by
  have hf := (pairB_parts h).1
  have h1 := key_size (fits_key hf).1
  have h2 := putA_len (fits_key hf).2
  have h3 := size_nil p.1
  unfold putPairC
  simp only [List.length_append, numB_len]
  omega
theorem rdPairC_put {p : ByteArray × ValL} (h : pairB p = true) (hv : p.2.Ok) (m : List UInt8) : rdPairC (putPairC p ++ m) = some (canonP p, m) := by
  have c := canon_of h hv
  have hf := (pairB_parts h).1
  have h1 := key_size (fits_key hf).1
  have h2 := putA_len (fits_key hf).2
  have e1 : (⟨p.1.data.toList.toArray⟩ : ByteArray) = p.1 := by simp
  unfold rdPairC putPairC
  simp only [List.append_assoc]
  rw [rdNum_put 1 _ _ (by omega) (by rw [show (256 : Int) ^ 1 = 256 from rfl]; omega), Option.bind_some]
  dsimp only
  rw [rdTake_put p.1.data.toList _ (by rw [size_nil, Int.toNat_natCast]), Option.bind_some]
  dsimp only
  rw [rdNum_put 2 _ _ (by omega) (by rw [show (256 : Int) ^ 2 = 65536 from rfl]; omega), Option.bind_some]
  dsimp only
  rw [rdTake_put (putA (actOf p.1 p.2)) _ (by rw [Int.toNat_natCast]), Option.bind_some]
  dsimp only
  rw [e1, if_pos ⟨c.code, c.fits⟩, after_new c.fits]
  rfl
theorem rdPairsC_put : ∀ (ps : List (ByteArray × ValL)) (m : List UInt8), (∀ p ∈ ps, pairB p = true ∧ p.2.Ok) → rdPairsC ps.length (ps.flatMap putPairC ++ m) = some (ps.map canonP, m)
  | [], m, _ => rfl
  | p :: ps, m, h => by
    have hp := h p (by simp)
    show (rdPairC ((p :: ps).flatMap putPairC ++ m)).bind _ = _
    rw [List.flatMap_cons, List.append_assoc, rdPairC_put hp.1 hp.2, Option.bind_some]
    dsimp only
    rw [rdPairsC_put ps m (fun q hq => h q (by simp [hq]))]
    rfl
theorem rdFront_put {a : ArcL} (h : ArcParts a) (m : List UInt8) : rdFront (headArc a ++ m) = some ((a.n, a.parts, a.at_, (a.pairs.length : Int)), m) := by
  have h1 := h.n
  have h2 := h.parts
  have h3 := h.few
  unfold rdFront headArc
  simp only [List.append_assoc]
  rw [rdTake_put (n := 8) beginL _ rfl, Option.bind_some]
  dsimp only
  rw [if_pos rfl, rdNum_put 1 _ _ (by omega) (by rw [show (256 : Int) ^ 1 = 256 from rfl]; omega), Option.bind_some]
  dsimp only
  rw [rdNum_put 1 _ _ (by omega) (by rw [show (256 : Int) ^ 1 = 256 from rfl]; omega), Option.bind_some]
  dsimp only
  rw [rdV_put h.at_, Option.bind_some]
  dsimp only
  rw [rdNum_put 4 _ _ (by omega) (by rw [show (256 : Int) ^ 4 = 4294967296 from rfl]; omega), Option.bind_some]
theorem rdBody_put {a : ArcL} (h : ArcParts a) (ok : ArcOk a) (m : List UInt8) : rdBody (bodyArc a ++ m) = some (canonArc a, m) := by
  unfold rdBody bodyArc
  rw [List.append_assoc, rdFront_put h, Option.bind_some]
  dsimp only
  rw [Int.toNat_natCast, rdPairsC_put a.pairs m (fun p hp => ⟨h.pair hp, (ok p hp).2⟩)]
  rfl
theorem canon_flat : ∀ ps : List (ByteArray × ValL), (∀ p ∈ ps, pairB p = true ∧ p.2.Ok) → (ps.map canonP).flatMap putPairC = ps.flatMap putPairC
  | [], _ => rfl
  | p :: ps, hp => by
    rw [List.map_cons, List.flatMap_cons, List.flatMap_cons, canon_flat ps (fun q hq => hp q (by simp [hq])), canonP_put (hp p (by simp)).1 (hp p (by simp)).2]
theorem canonArc_body {a : ArcL} (h : ArcParts a) (ok : ArcOk a) : bodyArc (canonArc a) = bodyArc a := by
  have e : (canonArc a).pairs = a.pairs.map canonP := rfl
  have e2 : ((a.pairs.map canonP).length : Int) = (a.pairs.length : Int) := by rw [List.length_map]
  unfold bodyArc headArc
  rw [e, e2, canon_flat a.pairs (fun p hp => ⟨h.pair hp, (ok p hp).2⟩)]
  rfl
theorem nthQ_map (ps : List (ByteArray × ValL)) {i : Nat} (hi : i < ps.length) : nthQ (ps.map canonP) i = canonP (nthQ ps i) := by
  rw [nthQ_eq (by simpa using hi), nthQ_eq hi, List.getElem_map]
theorem canonArc_parts {a : ArcL} (h : ArcParts a) (ok : ArcOk a) : ArcParts (canonArc a) := by
  have hl : (canonArc a).pairs.length = a.pairs.length := by unfold canonArc; simp
  refine ⟨h.n, h.parts, h.len, by rw [hl]; exact h.few, h.at_, by rw [hl]; exact h.zero, fun i hi => ?_⟩
  rw [hl] at hi
  have h1 := h.ok i hi
  have hm := nthQ_mem hi
  show okAt (a.pairs.map canonP) i = true
  unfold okAt at h1 ⊢
  rw [Bool.and_eq_true] at h1 ⊢
  rw [nthQ_map _ hi, nthQ_map _ (by omega : i - 1 < a.pairs.length)]
  exact ⟨h1.1, (canonP_ok h1.2 (ok _ hm).2).1⟩
theorem headArc_len {a : ArcL} (h : ArcParts a) : (headArc a).length ≤ 64 ∧ 14 ≤ (headArc a).length := by
  have := (valid_parts h.at_).2.1
  unfold headArc
  simp only [List.length_append, numB_len, putL_len]
  show _ ≤ _ ∧ _
  rw [show beginL.length = 8 from rfl]
  omega
/-- what is laid is read, in its plainest form -/
theorem rdArc_put {a : ArcL} (hv : validArc a = true) (ok : ArcOk a) (hz : (putArc a).length ≤ 524288) : rdArc (putArc a) = some (canonArc a) := by
  have h := validArc_parts hv
  have hl := sealL_len (bodyArc a)
  have hb : (bodyArc a).length = (headArc a).length + (a.pairs.flatMap putPairC).length := by unfold bodyArc; rw [List.length_append]
  have h14 := (headArc_len h).2
  have e := canonArc_body h ok
  unfold rdArc
  have e1 : (putArc a).take ((putArc a).length - 4) = bodyArc a := sealL_take _
  have e2 : (putArc a).drop ((putArc a).length - 4) = numB (sumL (bodyArc a) : Int) 4 := sealL_drop _
  have e3 : (putArc a).length = (bodyArc a).length + 4 := hl
  rw [e1, e2, if_pos ⟨by omega, hz, rfl⟩]
  have e4 := rdBody_put h ok []
  rw [List.append_nil] at e4
  rw [e4, Option.bind_some]
  dsimp only
  rw [if_pos ⟨validArc_of (canonArc_parts h ok), by unfold putArc; rw [e]⟩]
/-! ### what is read lies within Go's bounds -/
theorem rdPairC_ok {l m : List UInt8} {p : ByteArray × ValL} (h : rdPairC l = some (p, m)) : p.1.size ≤ 255 ∧ p.2.Ok ∧ m.length + 3 ≤ l.length := by
  unfold rdPairC at h
  obtain ⟨p1, h1, h⟩ := Option.bind_eq_some_iff.1 h
  obtain ⟨p2, h2, h⟩ := Option.bind_eq_some_iff.1 h
  obtain ⟨p3, h3, h⟩ := Option.bind_eq_some_iff.1 h
  obtain ⟨p4, h4, h⟩ := Option.bind_eq_some_iff.1 h
  split at h
  · rename_i hc
    simp only [Option.some.injEq, Prod.mk.injEq] at h
    obtain ⟨rfl, rfl⟩ := h
    obtain ⟨e1, a1, b1⟩ := rdNum_back (x := p1.1) (m := p1.2) h1
    obtain ⟨e2, l2⟩ := rdTake_back (t := p2.1) (m := p2.2) h2
    obtain ⟨e3, a3, b3⟩ := rdNum_back (x := p3.1) (m := p3.2) h3
    obtain ⟨e4, l4⟩ := rdTake_back (t := p4.1) (m := p4.2) h4
    rw [show (256 : Int) ^ 1 = 256 from rfl] at b1
    refine ⟨?_, ?_, ?_⟩
    · show (⟨p2.1.toArray⟩ : ByteArray).size ≤ _
      rw [(SB.mk p2.1).size]; omega
    · exact after_ok noVal_ok (putA_getA _ hc.1).2.2
    · have k1 := congrArg List.length e1
      have k2 := congrArg List.length e2
      have k3 := congrArg List.length e3
      have k4 := congrArg List.length e4
      simp only [List.length_append, numB_len] at k1 k2 k3 k4
      omega
  · cases h
theorem rdPairsC_ok : ∀ (n : Nat) (l m : List UInt8) (ps : List (ByteArray × ValL)), rdPairsC n l = some (ps, m) → ps.length = n ∧ (∀ p ∈ ps, p.1.size ≤ 255 ∧ p.2.Ok) ∧ m.length + 3 * n ≤ l.length
  | 0, l, m, ps, h => by
    simp only [rdPairsC, Option.some.injEq, Prod.mk.injEq] at h
    obtain ⟨rfl, rfl⟩ := h
    exact ⟨rfl, fun p h => by simp at h, by omega⟩
  | n + 1, l, m, ps, h => by
    unfold rdPairsC at h
    obtain ⟨p, h1, h⟩ := Option.bind_eq_some_iff.1 h
    obtain ⟨q, h2, h⟩ := Option.map_eq_some_iff.1 h
    simp only [Prod.mk.injEq] at h
    obtain ⟨rfl, rfl⟩ := h
    obtain ⟨a1, b1, c1⟩ := rdPairC_ok (p := p.1) (m := p.2) h1
    obtain ⟨a2, b2, c2⟩ := rdPairsC_ok n p.2 q.2 q.1 h2
    refine ⟨by simp [a2], fun x hx => ?_, by omega⟩
    rcases List.mem_cons.1 hx with rfl | hx
    · exact ⟨a1, b1⟩
    · exact b2 x hx
theorem rdBody_ok {l m : List UInt8} {a : ArcL} (h : rdBody l = some (a, m)) : ArcOk a := by
  unfold rdBody at h
  obtain ⟨p, h1, h⟩ := Option.bind_eq_some_iff.1 h
  obtain ⟨q, h2, h⟩ := Option.map_eq_some_iff.1 h
  simp only [Prod.mk.injEq] at h
  obtain ⟨rfl, rfl⟩ := h
  intro x hx
  have := (rdPairsC_ok _ p.2 q.2 q.1 h2).2.1 x hx
  exact ⟨by omega, this.2⟩
theorem rdArc_back {l : List UInt8} {a : ArcL} (h : rdArc l = some a) : validArc a = true ∧ ArcOk a ∧ putArc a = l := by
  unfold rdArc at h
  split at h
  · obtain ⟨p, h1, h⟩ := Option.bind_eq_some_iff.1 h
    split at h
    · rename_i hc
      simp only [Option.some.injEq] at h
      subst h
      exact ⟨hc.1, rdBody_ok (a := p.1) (m := p.2) h1, hc.2⟩
    · cases h
  · cases h
/-! ### nothing else is an archive -/
end Go.Proofs.YtaplefelfiefaaaGreat

set_option linter.unusedVariables false
set_option linter.unusedSimpArgs false
namespace Go.Proofs.YtaplefelfiefaaaGreat
open Go.RowKit

theorem arnum_any (v : Int) (n : Nat) (w : World) (hv : 0 ≤ v) (hn : 1 ≤ n) (hn1 : n ≤ 7) (hvn : v / 2 ^ (8 * n) = 0) :
    Calls Tryz.prog 34 #[.int .i64 v, .int .i64 n] w fun e w' => e = .returned (.string (strL (numB v n))) ∧ Bl w w' := by
  have H := Lib.hid (fun w => put_any v n w hv hn hn1 hvn)
  go_enter Tryz.func34, Tryz.ntmps34
  go_wp2_with fail
  refine (H.out _).mono ?_
  rintro e w' ⟨rfl, hb⟩
  rw [strL_nums]
  go_wp2_with fail
  go_ret
  exact ⟨rfl, hb⟩
theorem arnum1 (v : Int) (w : World) (h0 : 0 ≤ v) (h1 : v < 256) :
    Calls Tryz.prog 34 #[.int .i64 v, .int .i64 1] w fun e w' => e = .returned (.string (strL (numB v 1))) ∧ Bl w w' :=
  arnum_any v 1 w h0 (by decide) (by decide) (by rw [show (2 : Int) ^ (8 * 1) = 256 by decide]; omega)
theorem arnum2 (v : Int) (w : World) (h0 : 0 ≤ v) (h1 : v < 65536) :
    Calls Tryz.prog 34 #[.int .i64 v, .int .i64 2] w fun e w' => e = .returned (.string (strL (numB v 2))) ∧ Bl w w' :=
  arnum_any v 2 w h0 (by decide) (by decide) (by rw [show (2 : Int) ^ (8 * 2) = 65536 by decide]; omega)
theorem arnum4 (v : Int) (w : World) (h0 : 0 ≤ v) (h1 : v < 4294967296) :
    Calls Tryz.prog 34 #[.int .i64 v, .int .i64 4] w fun e w' => e = .returned (.string (strL (numB v 4))) ∧ Bl w w' :=
  arnum_any v 4 w h0 (by decide) (by decide) (by rw [show (2 : Int) ^ (8 * 4) = 4294967296 by decide]; omega)

/-- given up with ErrArchive -/
def panR : Ending := .panicked [{ v := .iface 49 (.int .i64 70), recovered := false }]
theorem arwant_yes (w : World) : Calls Tryz.prog 131 #[.bool true] w fun e w' => e = .returned (.tuple #[]) ∧ w = w' := by
  go_enter Tryz.func131, Tryz.ntmps131
  go_wp2_with fail
  go_end0
  exact ⟨rfl, rfl⟩
theorem arwant_no (w : World) : Calls Tryz.prog 131 #[.bool false] w fun e w' => e = panR ∧ w = w' := by
  go_enter Tryz.func131, Tryz.ntmps131
  go_wp2_with fail
  exact ⟨rfl, rfl, rfl⟩
theorem artake_some (b : Nat) (l : List UInt8) (n : Nat) (w : World) (hc : C1 w b (.string (strL l))) (hn : n ≤ l.length) :
    Calls Tryz.prog 132 #[.pointer (some ⟨b, 0, none⟩), .int .i64 n] w fun e w' => e = .returned (.string (strL (l.take n))) ∧ w' = w.setCell ⟨b, 0, none⟩ (.string (strL (l.drop n))) := by
  have h0 := hc.cell
  have hf := hc.frozen
  have z := strL_size l
  have e1 := strL_take l n
  have e2 := strL_drop l n
  rw [z] at e2
  clear hc
  generalize strL (l.take n) = q1 at *
  generalize strL (l.drop n) = q2 at *
  generalize strL l = s at *
  go_enter Tryz.func132, Tryz.ntmps132
  go_wp2_with fail
  refine (arwant_yes _).mono ?_
  rintro e w' ⟨rfl, rfl⟩
  go_wp2_with fail
  go_ret
  exact ⟨rfl, rfl⟩
theorem artake_none (b : Nat) (l : List UInt8) (n : Nat) (w : World) (hc : C1 w b (.string (strL l))) (hn : l.length < n) :
    Calls Tryz.prog 132 #[.pointer (some ⟨b, 0, none⟩), .int .i64 n] w fun e w' => e = panR ∧ w = w' := by
  have h0 := hc.cell
  have z := strL_size l
  have q : decide (n ≤ l.length) = false := by rw [decide_eq_false_iff_not]; omega
  clear hc
  generalize strL l = s at *
  go_enter Tryz.func132, Tryz.ntmps132
  go_wp2_with fail
  refine (arwant_no _).mono ?_
  rintro e w' ⟨rfl, rfl⟩
  unfold panR
  go_wp2_with fail
  exact ⟨rfl, rfl, rfl⟩
theorem artake_any (b : Nat) (l : List UInt8) (n : Nat) (w : World) (hc : C1 w b (.string (strL l))) :
    Calls Tryz.prog 132 #[.pointer (some ⟨b, 0, none⟩), .int .i64 n] w fun e w' =>
      (∃ t r, rdTake n l = some (t, r) ∧ e = .returned (.string (strL t)) ∧ w' = w.setCell ⟨b, 0, none⟩ (.string (strL r))) ∨ (rdTake n l = none ∧ e = panR ∧ w = w') := by
  unfold rdTake
  by_cases hn : n ≤ l.length
  · rw [if_pos hn]
    refine (artake_some b l n w hc hn).mono ?_
    rintro e w' ⟨rfl, rfl⟩
    exact .inl ⟨_, _, rfl, rfl, rfl⟩
  · rw [if_neg hn]
    refine (artake_none b l n w hc (by omega)).mono ?_
    rintro e w' ⟨rfl, rfl⟩
    exact .inr ⟨rfl, rfl, rfl⟩
theorem arnumR_some (b : Nat) (l : List UInt8) (n : Nat) (w : World) (hc : C1 w b (.string (strL l))) (hn : n ≤ l.length) (h1 : 1 ≤ n) (h7 : n ≤ 7) :
    Calls Tryz.prog 133 #[.pointer (some ⟨b, 0, none⟩), .int .i64 n] w fun e w' => e = .returned (.int .i64 (getN (l.take n))) ∧ w' = w.setCell ⟨b, 0, none⟩ (.string (strL (l.drop n))) := by
  have HG := Lib.hid (fun w => getL_any (l.take n) w (by rw [List.length_take]; omega) (by rw [List.length_take]; omega))
  go_enter Tryz.func133, Tryz.ntmps133
  go_wp2_with fail
  refine (artake_some b l n _ hc hn).mono ?_
  rintro e w1 ⟨rfl, rfl⟩
  go_wp2_with fail
  refine (HG.out _).mono ?_
  rintro e w1 ⟨rfl, rfl⟩
  go_wp2_with fail
  go_ret
  exact ⟨rfl, rfl⟩
theorem arnumR_none (b : Nat) (l : List UInt8) (n : Nat) (w : World) (hc : C1 w b (.string (strL l))) (hn : l.length < n) :
    Calls Tryz.prog 133 #[.pointer (some ⟨b, 0, none⟩), .int .i64 n] w fun e w' => e = panR ∧ w = w' := by
  go_enter Tryz.func133, Tryz.ntmps133
  go_wp2_with fail
  refine (artake_none b l n _ hc hn).mono ?_
  rintro e w1 ⟨rfl, rfl⟩
  unfold panR
  go_wp2_with fail
  exact ⟨rfl, rfl, rfl⟩
theorem arnumR_any (b : Nat) (l : List UInt8) (n : Nat) (w : World) (hc : C1 w b (.string (strL l))) (h1 : 1 ≤ n) (h7 : n ≤ 7) :
    Calls Tryz.prog 133 #[.pointer (some ⟨b, 0, none⟩), .int .i64 n] w fun e w' =>
      (∃ v r, rdNum n l = some (v, r) ∧ e = .returned (.int .i64 v) ∧ w' = w.setCell ⟨b, 0, none⟩ (.string (strL r))) ∨ (rdNum n l = none ∧ e = panR ∧ w = w') := by
  unfold rdNum
  by_cases hn : n ≤ l.length
  · rw [if_pos hn]
    refine (arnumR_some b l n w hc hn h1 h7).mono ?_
    rintro e w' ⟨rfl, rfl⟩
    exact .inl ⟨_, _, rfl, rfl, rfl⟩
  · rw [if_neg hn]
    refine (arnumR_none b l n w hc (by omega)).mono ?_
    rintro e w' ⟨rfl, rfl⟩
    exact .inr ⟨rfl, rfl, rfl⟩

/-! ### Act -/
structure AG (w W : World) (vb : Bool) (vx : Nat) (vn : Int) (vs : ByteArray) : Prop where
  bl : Bl w W
  v : AC W w.heap.size [.bool vb, .float .f64 vx, .int .i64 vn, .string vs]
  r : AC W (w.heap.size + 1) [.int .i64 0, .float .f64 0, .int .i64 0, .string ⟨#[]⟩]
theorem AG.new (w : World) (vb : Bool) (vx : Nat) (vn : Int) (vs : ByteArray) (T U : TypeId) :
    AG w ((w.alloc (.cells #[.bool vb, .float .f64 vx, .int .i64 vn, .string vs] T)).alloc (.cells #[.int .i64 0, .float .f64 0, .int .i64 0, .string ⟨#[]⟩] U)) vb vx vn vs :=
  ⟨((Bl.refl w).alloc _).alloc _, (AC.new w _ rfl [_, _, _, _] _).keep ((Bl.refl _).alloc _), AC.new _ (w.heap.size + 1) (by simp) [_, _, _, _] _⟩
theorem act_results {tmps : Array Value} {W : World} {g : Nat} {k : Int} {x : Nat} {n : Int} {s : ByteArray} (h : tmps.getD 4 undef = .pointer (some ⟨g, 0, none⟩)) (hc : AC W g [.int .i64 k, .float .f64 x, .int .i64 n, .string s]) :
    (results Tryz.f16 tmps).run Tryz.prog W = .ok (.agg #[.int .i64 k, .float .f64 x, .int .i64 n, .string s]) W := by
  rw [Array.getD_eq_getD_getElem?] at h
  obtain ⟨c0, c1, c2, c3⟩ := hc.act
  simp [results, Tryz.results16, go_sem, h, c0, c1, c2, c3]
set_option maxHeartbeats 1600000 in
set_option maxRecDepth 100000 in
theorem arcAct_agg (key : ByteArray) (vb : Bool) (vx : Nat) (vn : Int) (vs : ByteArray) (k : Int) (x : Nat) (n : Int) (s : ByteArray) (w : World) (hkey : key.size ≤ 140737488351232) (h : Hid (actOf key ⟨vb, vx, vn, vs⟩ = ⟨k, x, n, s⟩)) :
    Calls Tryz.prog 16 #[.string key, .agg #[.bool vb, .float .f64 vx, .int .i64 vn, .string vs]] w fun e w' => e = .returned (.agg #[.int .i64 k, .float .f64 x, .int .i64 n, .string s]) ∧ Bl w w' := by
  have hsf := store_float
  have h' := h.out
  unfold actOf at h'
  have G := AG.new w vb vx vn vs 29 66
  go_enter Tryz.func16, Tryz.ntmps16
  go_wp2_with fail
  generalize (w.alloc (.cells #[.bool vb, .float .f64 vx, .int .i64 vn, .string vs] 29)).alloc (.cells #[.int .i64 0, .float .f64 0, .int .i64 0, .string ⟨#[]⟩] 66) = W at *
  obtain ⟨v0, v1, v2, v3⟩ := G.v.val
  obtain ⟨r0, r1, r2, r3⟩ := G.r.act
  have f0 := G.r.frozen 0
  have f1 := G.r.frozen 1
  have f2 := G.r.frozen 2
  have f3 := G.r.frozen 3
  have HG := Lib.hid G
  clear G
  refine (isKey_any key _ hkey).mono ?_
  rintro e w1 ⟨rfl, rfl⟩
  cases hi : isKeyB key
  · rw [hi] at h'
    simp only [Bool.false_eq_true, if_false, ActL.mk.injEq] at h'
    obtain ⟨rfl, rfl, rfl, rfl⟩ := h'
    clear hi
    go_wp2_with fail
    refine bodyPost_ret (act_results rfl (HG.out.r.set4 (.int .i64 0) (.float .f64 0) (.int .i64 0) (.string ⟨#[]⟩))) rfl ?_
    exact ⟨rfl, HG.out.bl.store4 (Nat.le_succ _) _ _ _ _⟩
  · have hp := key_pos hi
    have HH := Lib.hid (hd_get hp)
    rw [hi] at h'
    have HI := Lib.hid hi
    simp only [if_true] at h'
    rcases key_head hi with q | q | q | q | q
    · rw [if_pos q, ActL.mk.injEq] at h'
      obtain ⟨rfl, rfl, rfl, rfl⟩ := h'
      have hq := HH.out.trans q
      clear hi q
      go_wp2_with fail
      refine bodyPost_ret (act_results rfl (HG.out.r.set4 (.int .i64 0) (.float .f64 vx) (.int .i64 0) (.string ⟨#[]⟩))) rfl ?_
      exact ⟨rfl, HG.out.bl.store4 (Nat.le_succ _) _ _ _ _⟩
    · rw [if_neg (by omega), if_pos q, ActL.mk.injEq] at h'
      obtain ⟨rfl, rfl, rfl, rfl⟩ := h'
      have hq := HH.out.trans q
      clear hi q
      go_wp2_with fail
      refine bodyPost_ret (act_results rfl (HG.out.r.set4 (.int .i64 0) (.float .f64 0) (.int .i64 0) (.string vs))) rfl ?_
      exact ⟨rfl, HG.out.bl.store4 (Nat.le_succ _) _ _ _ _⟩
    · rw [if_neg (by omega), if_neg (by omega), if_pos q, ActL.mk.injEq] at h'
      obtain ⟨rfl, rfl, rfl, rfl⟩ := h'
      have hq := HH.out.trans q
      clear hi q
      go_wp2_with fail
      refine bodyPost_ret (act_results rfl (HG.out.r.set4 (.int .i64 1) (.float .f64 0) (.int .i64 vn) (.string ⟨#[]⟩))) rfl ?_
      exact ⟨rfl, HG.out.bl.store4 (Nat.le_succ _) _ _ _ _⟩
    · rw [if_neg (by omega), if_neg (by omega), if_neg (by omega), if_pos q, ActL.mk.injEq] at h'
      obtain ⟨rfl, rfl, rfl, rfl⟩ := h'
      have hq := HH.out.trans q
      clear hi q
      go_wp2_with fail
      refine bodyPost_ret (act_results rfl (HG.out.r.set4 (.int .i64 2) (.float .f64 vx) (.int .i64 0) (.string ⟨#[]⟩))) rfl ?_
      exact ⟨rfl, HG.out.bl.store4 (Nat.le_succ _) _ _ _ _⟩
    · rw [if_neg (by omega), if_neg (by omega), if_neg (by omega), if_neg (by omega), ActL.mk.injEq] at h'
      obtain ⟨rfl, rfl, rfl, rfl⟩ := h'
      have hq := HH.out.trans q
      clear hi q
      go_wp2_with fail
      refine bodyPost_ret (act_results rfl (HG.out.r.set4 (.int .i64 3) (.float .f64 vx) (.int .i64 0) (.string ⟨#[]⟩))) rfl ?_
      exact ⟨rfl, HG.out.bl.store4 (Nat.le_succ _) _ _ _ _⟩
end Go.Proofs.YtaplefelfiefaaaGreat
end
