import Derived.Test.YtfjjnffifnohkaaGreatRows
import Derived.WalkKit
import Derived.WalkSpells
import Derived.Lib.Hide
import Derived.Deep.QuietTactic
import Derived.BigQuiet
import Derived.Laws.FloatBits
import Derived.Test.YtfjjnffifnohkaaGreatShelf
import Derived.WalkLawsBesides

/- Plain facts on lists of ints. No program is named here. · Vocabulary of these proofs: what it is that a value reads as, and how worlds follow each other. · Numbers as bytes and as digits: plain facts. By an AI agent. -/
section
namespace Go.Proofs.YtfjjnffifnohkaaGreat

/-- the j-th number of a list -/
def nth (xs : List Int) (j : Nat) : Int := xs.getD j 0
@[simp] theorem nth_cons_zero (x : Int) (xs : List Int) : nth (x :: xs) 0 = x := rfl
@[simp] theorem nth_cons_succ (x : Int) (xs : List Int) (j : Nat) : nth (x :: xs) (j + 1) = nth xs j := by simp [nth]
theorem nth_eq {xs : List Int} {j : Nat} (h : j < xs.length) : nth xs j = xs[j] := by simp [nth, h]

def leqL : List Int → List Int → Bool
  | x :: xs, y :: ys => decide (x ≤ y) && leqL xs ys
  | [], [] => true
  | _, _ => false

theorem leqL_len {xs ys : List Int} (h : xs.length ≠ ys.length) : leqL xs ys = false := by
  induction xs generalizing ys with
  | nil => cases ys <;> simp_all [leqL]
  | cons x xs ih => cases ys <;> simp_all [leqL]

theorem leqL_iff {xs ys : List Int} (h : xs.length = ys.length) : leqL xs ys = true ↔ ∀ j, j < xs.length → nth xs j ≤ nth ys j := by
  induction xs generalizing ys with
  | nil => cases ys <;> simp_all [leqL]
  | cons x xs ih =>
    cases ys with
    | nil => simp at h
    | cons y ys =>
      have h' : xs.length = ys.length := by simpa using h
      simp only [leqL, Bool.and_eq_true, decide_eq_true_eq, ih h', List.length_cons]
      constructor
      · rintro ⟨h1, h2⟩ j hj
        cases j with
        | zero => simpa using h1
        | succ j => simpa using h2 j (by omega)
      · intro h3
        exact ⟨by simpa using h3 0 (by omega), fun j hj => by simpa using h3 (j+1) (by omega)⟩

theorem leqL_false {xs ys : List Int} (h : xs.length = ys.length) {k : Nat} (hk : k < xs.length) (hgt : nth ys k < nth xs k) : leqL xs ys = false := by
  rw [Bool.eq_false_iff]; intro hc
  have := (leqL_iff h).1 hc k hk
  omega

theorem getD_ext {xs ys : List Int} (h : xs.length = ys.length) (hall : ∀ j, j < xs.length → nth xs j = nth ys j) : xs = ys := by
  apply List.ext_getElem h
  intro i h1 h2
  have := hall i h1
  rwa [nth_eq h1, nth_eq h2] at this
end Go.Proofs.YtfjjnffifnohkaaGreat

namespace Go.Proofs.YtfjjnffifnohkaaGreat
open Go.RowKit

theorem ret_bool {a b : Bool} (h : a = b) : Ending.returned (.bool a) = Ending.returned (.bool b) := by rw [h]
theorem ret_int {k : IntKind} {a b : Int} (h : a = b) : Ending.returned (.int k a) = Ending.returned (.int k b) := by rw [h]



/-! ### worlds -/
/-- w' is w with more behind it: nothing that was there has turned. -/
def Bl (w w' : World) : Prop := Below w.heap.size w w'
theorem Bl.refl (w : World) : Bl w w := Below.refl _ _
theorem Bl.trans {a b c : World} (h : Bl a b) (k : Bl b c) : Bl a c := Below.trans h (Below.mono k h.size)
theorem Bl.drew {a b : World} (h : Bl a b) : Bl a b.drew := Below.drew h
theorem Bl.drewN {a b : World} (h : Bl a b) (k : Nat) : Bl a (b.drewN k) := ⟨h.os, h.tape, h.output, h.size, h.block⟩
theorem Bl.ofDrew {a b : World} (h : Bl a.drew b) : Bl a b := ⟨h.os, h.tape, h.output, h.size, h.block⟩
theorem Bl.alloc {a b : World} (h : Bl a b) (o : Obj) : Bl a (b.alloc o) := Below.alloc h h.size o
theorem Bl.cell {a b : World} (h : Bl a b) {p : Addr} {v : Value} (hp : a.cell? p = some v) : b.cell? p = some v := by
  rw [Below.cell h (World.block_lt_of_cell? _ _ hp)]; exact hp
theorem Bl.size {a b : World} (h : Bl a b) : a.heap.size ≤ b.heap.size := Below.size h

theorem lt_of_heap {w : World} {g : Nat} {o : Obj} (h : w.heap[g]? = some o) : g < w.heap.size := (Array.getElem?_eq_some_iff.1 h).1
theorem Bl.heap {a b : World} (h : Bl a b) {g : Nat} {o : Obj} (hg : a.heap[g]? = some o) : b.heap[g]? = some o := by
  rw [h.block g (lt_of_heap hg)]; exact hg
theorem ownsRow_bl {w w' : World} {B : Nat} {e : TypeId} {s : Nat} {v : Value} {n : Nat} {xs : List Value} (h : w.ownsRow B e s v n xs) (hb : Bl w w') : w'.ownsRow B e s v n xs := by
  obtain ⟨h1, h2 | ⟨g, cap, cur, hv, hB, hg, r⟩⟩ := h
  · exact ⟨h1, .inl h2⟩
  · exact ⟨h1, .inr ⟨g, cap, cur, hv, hB, hb.heap hg, r⟩⟩

/-! ### slices of ints -/
/-- a slice at a, of n ints, reads as xs -/
structure IA (w : World) (a : Option Addr) (n : Nat) (xs : List Int) : Prop where
  len : xs.length = n
  cap : n * 8 ≤ 140737488351232
  cells : ∀ j, j < n → ∃ b off, a = some ⟨b, off, none⟩ ∧ ∀ j, j < n → w.cell? ⟨b, off + j, none⟩ = some (.int .i64 (nth xs j))
  wf : ∀ x ∈ xs, -9223372036854775808 ≤ x ∧ x ≤ 9223372036854775807

theorem IA.keep {w w' : World} {a : Option Addr} {n : Nat} {xs : List Int} (h : IA w a n xs) (hb : Bl w w') : IA w' a n xs :=
  ⟨h.len, h.cap, fun j hj => by
    obtain ⟨b, off, e, hc⟩ := h.cells j hj
    exact ⟨b, off, e, fun j hj => hb.cell (hc j hj)⟩, h.wf⟩

theorem IA.nil (w : World) (a : Option Addr) : IA w a 0 [] := ⟨rfl, by omega, fun j hj => by omega, fun _ h => by simp at h⟩


/-- the value v reads as the list xs of ints, in w -/
def SI (w : World) (v : Value) (xs : List Int) : Prop := ∃ a n cap, v = .slice a n cap ∧ IA w a n xs
theorem SI.keep {w w' : World} {v : Value} {xs : List Int} (h : SI w v xs) (hb : Bl w w') : SI w' v xs := by
  obtain ⟨a, n, cap, e, hI⟩ := h
  exact ⟨a, n, cap, e, hI.keep hb⟩

/-! ### slices of ints that the call itself has made, from block B on -/
theorem info_int : (Tryz.prog.info? 3).map (fun i => (i.zero, i.size, i.bytes)) = some (some (.int .i64 0), 1, 8) := by kernel_rfl
def OI (B : Nat) (w : World) (v : Value) (xs : List Int) : Prop := w.ownsRow B 3 1 v xs.length (xs.map (Value.int .i64))
theorem OI.nil (B : Nat) (w : World) : OI B w (.slice none 0 0) [] := World.ownsRow_nil _ _ _ _
theorem OI.si {B : Nat} {w : World} {v : Value} {xs : List Int} (h : OI B w v xs) (hc : xs.length * 8 ≤ 140737488351232) (hw : ∀ x ∈ xs, -9223372036854775808 ≤ x ∧ x ≤ 9223372036854775807) : SI w v xs := by
  obtain ⟨h1, ⟨rfl, h2⟩ | ⟨g, cap, cur, rfl, hB, hg, hn, hm, hs, ht⟩⟩ := h
  · have : xs = [] := List.eq_nil_of_length_eq_zero h2
    subst this
    exact ⟨none, 0, 0, rfl, IA.nil _ _⟩
  · refine ⟨some ⟨g, 0, none⟩, xs.length, cap, rfl, rfl, hc, fun j hj => ⟨g, 0, rfl, fun j hj => ?_⟩, hw⟩
    have hown : w.ownsRow B 3 1 (.slice (some ⟨g, 0, none⟩) xs.length cap) xs.length (xs.map (Value.int .i64)) := ⟨h1, .inr ⟨g, cap, cur, rfl, hB, hg, hn, hm, hs, ht⟩⟩
    rw [Nat.zero_add, hown.cellAt j (by omega)]
    simp [nth_eq hj, hj]
/-- ... and whose numbers are ints -/
structure FI (B : Nat) (w : World) (v : Value) (xs : List Int) : Prop where
  own : OI B w v xs
  cap : xs.length * 8 ≤ 140737488351232
  wf : ∀ x ∈ xs, -9223372036854775808 ≤ x ∧ x ≤ 9223372036854775807
theorem FI.si {B : Nat} {w : World} {v : Value} {xs : List Int} (h : FI B w v xs) : SI w v xs := h.own.si h.cap h.wf
theorem OI.keep {B : Nat} {w w' : World} {v : Value} {xs : List Int} (h : OI B w v xs) (hb : Bl w w') : OI B w' v xs := ownsRow_bl h hb
theorem FI.keep {B : Nat} {w w' : World} {v : Value} {xs : List Int} (h : FI B w v xs) (hb : Bl w w') : FI B w' v xs := ⟨h.own.keep hb, h.cap, h.wf⟩
theorem FI.nil (B : Nat) (w : World) : FI B w (.slice none 0 0) [] := ⟨OI.nil _ _, by simp, by simp⟩
/-- behind 'append(v, x)' -/
theorem OI.push {B : Nat} {w0 w w1 : World} {v v' : Value} {xs : List Int} {x : Int} {o : Obj} (hb : Below B w0 w) (hB : B ≤ w.heap.size) (hown : OI B w v xs)
    (hown' : w1.ownsRow B 3 1 v' (xs.length + 1) (xs.map (Value.int .i64) ++ [.int .i64 x])) (hg : (w.alloc o).grownBy w1 v.ownBlock) : OI B w1 v' (xs ++ [x]) ∧ Below B w0 w1 :=
  ⟨by simpa [OI] using hown', (hb.alloc hB o).grown hg (by simp; omega) (fun j hj => (World.ownsRow.lt hown j hj).1)⟩

/-! ### slices of bytes that the call itself has made -/
theorem info_byte : (Tryz.prog.info? 5).map (fun i => (i.zero, i.size, i.bytes)) = some (some (.int .u8 0), 1, 1) := by kernel_rfl
def OB (B : Nat) (w : World) (v : Value) (xs : List Int) : Prop := w.ownsRow B 5 1 v xs.length (xs.map (Value.int .u8))
theorem OB.nil (B : Nat) (w : World) : OB B w (.slice none 0 0) [] := World.ownsRow_nil _ _ _ _
theorem OB.push {B : Nat} {w0 w w1 : World} {v v' : Value} {xs : List Int} {x : Int} {o : Obj} (hb : Below B w0 w) (hB : B ≤ w.heap.size) (hown : OB B w v xs)
    (hown' : w1.ownsRow B 5 1 v' (xs.length + 1) (xs.map (Value.int .u8) ++ [.int .u8 x])) (hg : (w.alloc o).grownBy w1 v.ownBlock) : OB B w1 v' (xs ++ [x]) ∧ Below B w0 w1 :=
  ⟨by simpa [OB] using hown', (hb.alloc hB o).grown hg (by simp; omega) (fun j hj => (World.ownsRow.lt hown j hj).1)⟩
theorem OB.cell {B : Nat} {w : World} {g cap n : Nat} {xs : List Int} (h : OB B w (.slice (some ⟨g, 0, none⟩) n cap) xs) (hn : xs.length = n) (j : Nat) (hj : j < n) : w.cell? ⟨g, j, none⟩ = some (.int .u8 (nth xs j)) := by
  subst hn
  have hown : w.ownsRow B 5 1 (.slice (some ⟨g, 0, none⟩) xs.length cap) xs.length (xs.map (Value.int .u8)) := h
  rw [hown.cellAt j (by omega)]
  simp [nth_eq hj, hj]
/-- behind 'b[j] = x' -/
theorem OB.set {B : Nat} {w : World} {g cap n : Nat} {xs : List Int} (h : OB B w (.slice (some ⟨g, 0, none⟩) n cap) xs) (hn : xs.length = n) (j : Nat) (x : Int) :
    OB B (w.setCell ⟨g, j, none⟩ (.int .u8 x)) (.slice (some ⟨g, 0, none⟩) n cap) (xs.set j x) := by
  subst hn
  have hown : w.ownsRow B 5 1 (.slice (some ⟨g, 0, none⟩) xs.length cap) xs.length (xs.map (Value.int .u8)) := h
  have := (hown.stored j (.int .u8 x)).1
  rw [OB, List.length_set, List.map_set]
  exact this
theorem OB.frozen {B : Nat} {w : World} {g cap n : Nat} {xs : List Int} (h : OB B w (.slice (some ⟨g, 0, none⟩) n cap) xs) (hn : xs.length = n) (j : Nat) : w.frozen? ⟨g, j, none⟩ = false := by
  subst hn
  exact World.ownsRow.frozenAt h j
/-- 'string(b)' -/
theorem OB.string {B : Nat} {w : World} {g cap n : Nat} {xs : List Int} (h : OB B w (.slice (some ⟨g, 0, none⟩) n cap) xs) (hn : xs.length = n) :
    (convert 201 9 (.slice (some ⟨g, 0, none⟩) n cap)).run Tryz.prog w = .ok (.string (strOfNums xs)) w :=
  run_convert_bytes_arg w 201 5 Tryz.underlying201 Tryz.underlying5 g 0 n cap xs hn (fun i hi => by rw [Nat.zero_add]; exact h.cell hn i hi) 9 Tryz.underlying9

/-! ### a block of bytes, known whole -/


/-! ### strings -/
/-- the string s has the bytes l -/
def SB (s : ByteArray) (l : List UInt8) : Prop := s.data.toList = l
theorem SB.beq {s t : ByteArray} {l m : List UInt8} (hs : SB s l) (ht : SB t m) : (s.toList == t.toList) = decide (l = m) := by
  rw [ByteArray.toList_eq, ByteArray.toList_eq, hs, ht, Bool.eq_iff_iff]; simp
theorem SB.size {s : ByteArray} {l : List UInt8} (hs : SB s l) : s.size = l.length := by
  rw [← hs]; simp
theorem SB.get {s : ByteArray} {l : List UInt8} (hs : SB s l) (i : Nat) (h : i < s.size) (h' : i < l.length) : s[i] = l[i] := by
  subst hs; rfl
theorem SB.eq {s t : ByteArray} {l : List UInt8} (hs : SB s l) (ht : SB t l) : s = t := ByteArray.ext (Array.toList_inj.1 (hs.trans ht.symm))
theorem SB.append {s t : ByteArray} {l m : List UInt8} (hs : SB s l) (ht : SB t m) : SB (s ++ t) (l ++ m) := by
  rw [SB] at *; simp [hs, ht]
theorem SB.mk (l : List UInt8) : SB ⟨l.toArray⟩ l := rfl
end Go.Proofs.YtfjjnffifnohkaaGreat

namespace Go.Proofs.YtfjjnffifnohkaaGreat
open Go.RowKit

/-- the j-th of n bytes of v, the greatest first -/
def byteAt (v : Int) (n j : Nat) : Int := v / 2 ^ (8 * (n - 1 - j)) % 256
def putN (v : Int) (n k : Nat) : List Int := (List.range n).map (fun j => if n - k ≤ j then byteAt v n j else 0)

theorem putN_len (v : Int) (n k : Nat) : (putN v n k).length = n := by simp [putN]
theorem putN_zero (v : Int) (n : Nat) : putN v n 0 = List.replicate n 0 := by
  apply List.ext_getElem (by simp [putN])
  intro i h1 h2
  simp [putN] at h1
  simp [putN]; omega
theorem putN_set (v : Int) (n k : Nat) (hk : k < n) : (putN v n k).set (n - 1 - k) (byteAt v n (n - 1 - k)) = putN v n (k + 1) := by
  apply List.ext_getElem (by simp [putN])
  intro i h1 h2
  simp [putN] at h1
  rw [List.getElem_set]
  simp only [putN, List.getElem_map, List.getElem_range]
  by_cases e : n - 1 - k = i
  · subst e; rw [if_pos rfl, if_pos (by omega)]
  · rw [if_neg e]
    by_cases h : n - k ≤ i
    · rw [if_pos h, if_pos (by omega)]
    · rw [if_neg h, if_neg (by omega)]






/-! ### digits -/




end Go.Proofs.YtfjjnffifnohkaaGreat
end

/- float64 words, their order and their key. Plain facts over the model's Ieee. · real.Put, real.Compare, real.Max, real.Ratio. · real.Compare, real.Max. · real.Same, real.Min; what the order keys of numbers tell. By an AI agent. -/
section
namespace Go.Proofs.YtfjjnffifnohkaaGreat
open Ieee

def two63 : Nat := 9223372036854775808
def two64 : Nat := 18446744073709551616
def two52 : Nat := 4503599627370496
def infR : Nat := 9218868437227405312
theorem d_binade : Ieee.double.binade = two52 := by decide +kernel
theorem d_infRung : Ieee.double.infRung = infR := by decide +kernel
theorem d_signWeight : Ieee.double.signWeight = two63 := by decide +kernel
theorem d_leastPlace : Ieee.double.leastPlace = -1074 := by decide +kernel

/-- is it no number? -/
def nanB (x : Nat) : Bool := decide (infR < x % two63)
/-- the word in the numbers' order -/
def fkey (x : Nat) : Nat := if nanB x then 0 else if two63 ≤ x then two64 - 1 - x else x + two63
/-- a rung's worth, in units of the least number -/
def uval (r : Nat) : Nat := if r < two52 then r else (two52 + r % two52) * 2 ^ (r / two52 - 1)
/-- a word's worth -/
def sval (x : Nat) : Int := if two63 ≤ x then -(uval (x % two63) : Int) else (uval (x % two63) : Int)

theorem uval_lt {r s : Nat} (h : r < s) : uval r < uval s := by
  unfold uval
  have hp : ∀ k : Nat, 1 ≤ 2 ^ k := fun k => Nat.one_le_two_pow
  by_cases h1 : s < two52
  · rw [if_pos (by omega), if_pos h1]; exact h
  · rw [if_neg h1]
    have hs : two52 ≤ (two52 + s % two52) * 2 ^ (s / two52 - 1) := by
      calc two52 ≤ two52 + s % two52 := by omega
        _ ≤ (two52 + s % two52) * 2 ^ (s / two52 - 1) := Nat.le_mul_of_pos_right _ (hp _)
    by_cases h2 : r < two52
    · rw [if_pos h2]; omega
    · rw [if_neg h2]
      have hr1 : 1 ≤ r / two52 := by unfold two52 at *; omega
      have hs1 : 1 ≤ s / two52 := by unfold two52 at *; omega
      have hle : r / two52 ≤ s / two52 := Nat.div_le_div_right (by omega)
      rcases Nat.lt_or_ge (r / two52) (s / two52) with hlt | hge
      · have e1 : (two52 + r % two52) * 2 ^ (r / two52 - 1) < two52 * 2 ^ (r / two52) := by
          have e : 2 ^ (r / two52) = 2 * 2 ^ (r / two52 - 1) := by
            rw [← Nat.pow_succ']; congr 1; omega
          rw [e, ← Nat.mul_assoc]
          exact Nat.mul_lt_mul_of_pos_right (by unfold two52 at *; omega) (hp _)
        have e2 : two52 * 2 ^ (r / two52) ≤ two52 * 2 ^ (s / two52 - 1) := Nat.mul_le_mul_left _ (Nat.pow_le_pow_right (by decide) (by omega))
        have e3 : two52 * 2 ^ (s / two52 - 1) ≤ (two52 + s % two52) * 2 ^ (s / two52 - 1) := Nat.mul_le_mul_right _ (by omega)
        omega
      · have e : r / two52 = s / two52 := by omega
        rw [e]
        refine Nat.mul_lt_mul_of_pos_right ?_ (hp _)
        have := Nat.div_add_mod r two52
        have := Nat.div_add_mod s two52
        rw [e] at *
        omega
theorem uval_lt_iff {r s : Nat} : uval r < uval s ↔ r < s := by
  refine ⟨fun h => ?_, uval_lt⟩
  rcases Nat.lt_trichotomy r s with h1 | h1 | h1
  · exact h1
  · subst h1; omega
  · have := uval_lt h1; omega

theorem neg_of {x : Nat} (hx : x < two64) : (x / two63 % 2 == 1) = decide (two63 ≤ x) := by
  unfold two63 two64 at *
  rw [Bool.eq_iff_iff, beq_iff_eq, decide_eq_true_eq]; omega

/-- what a word stands for -/
theorem read_fin {x : Nat} (hx : x < two64) (h : x % two63 < infR) : ∃ (m : Nat) (p : Int), Ieee.double.read x = .number (decide (two63 ≤ x)) m p ∧ -1074 ≤ p ∧ m * 2 ^ (p + 1074).toNat = uval (x % two63) := by
  unfold Format.read
  rw [d_signWeight, d_binade, d_infRung, d_leastPlace, neg_of hx]
  simp only
  by_cases h1 : x % two63 < two52
  · rw [if_pos h1]
    exact ⟨_, _, rfl, by omega, by simp [uval, h1]⟩
  · rw [if_neg h1, if_pos h]
    refine ⟨_, _, rfl, by omega, ?_⟩
    rw [uval, if_neg h1]
    congr 2
    omega
theorem read_inf {x : Nat} (hx : x < two64) (h : x % two63 = infR) : Ieee.double.read x = .infinity (decide (two63 ≤ x)) := by
  unfold Format.read
  rw [d_signWeight, d_binade, d_infRung, d_leastPlace, neg_of hx]
  simp only
  rw [if_neg (by rw [h]; decide), if_neg (by omega), if_pos h]
theorem read_nan' {x : Nat} (h : nanB x = true) : ∃ s f, Ieee.double.read x = .nan s f := by
  have h' : infR < x % two63 := by simpa [nanB] using h
  unfold Format.read
  rw [d_signWeight, d_binade, d_infRung, d_leastPlace]
  simp only
  have hlt : two52 ≤ infR := by decide
  rw [if_neg (by omega), if_neg (by omega), if_neg (by omega)]
  exact ⟨_, _, rfl⟩

theorem signed_eq (s : Bool) (m up : Nat) : signed s m up = (if s then -1 else 1) * ((m * 2 ^ up : Nat) : Int) := by
  unfold signed
  rw [Nat.shiftLeft_eq]
  cases s <;> simp
theorem compare_scale (a b : Int) (c : Nat) : compare (a * (2 ^ c : Nat)) (b * (2 ^ c : Nat)) = compare a b := by
  have hc : (0 : Int) < ((2 ^ c : Nat) : Int) := by exact_mod_cast Nat.two_pow_pos c
  rcases Int.lt_trichotomy a b with h | h | h
  · rw [Int.compare_eq_lt.2 h, Int.compare_eq_lt.2 (Int.mul_lt_mul_of_pos_right h hc)]
  · subst h; simp
  · rw [Int.compare_eq_gt.2 h, Int.compare_eq_gt.2 (Int.mul_lt_mul_of_pos_right h hc)]

theorem fin_or_inf {x : Nat} (h : nanB x = false) : x % two63 < infR ∨ x % two63 = infR := by
  simp [nanB] at h; omega

theorem order_fin {x y : Nat} (hx : x < two64) (hy : y < two64) (h1 : x % two63 < infR) (h2 : y % two63 < infR) : Ieee.double.order x y = some (compare (sval x) (sval y)) := by
  obtain ⟨m, i, e1, p1, u1⟩ := read_fin hx h1
  obtain ⟨n, j, e2, p2, u2⟩ := read_fin hy h2
  unfold Format.order
  rw [e1, e2]
  simp only [Datum.order]
  congr 1
  have hb : -1074 ≤ min i j := by omega
  have k1 : (i - min i j).toNat + (min i j + 1074).toNat = (i + 1074).toNat := by omega
  have k2 : (j - min i j).toNat + (min i j + 1074).toNat = (j + 1074).toNat := by omega
  rw [← compare_scale _ _ (min i j + 1074).toNat, signed_eq, signed_eq]
  have g1 : ((if decide (two63 ≤ x) = true then -1 else 1) * ((m * 2 ^ (i - min i j).toNat : Nat) : Int)) * ((2 ^ (min i j + 1074).toNat : Nat) : Int) = sval x := by
    rw [Int.mul_assoc, ← Int.natCast_mul, Nat.mul_assoc, ← Nat.pow_add, k1, u1]
    unfold sval
    by_cases h : two63 ≤ x <;> simp [h]
  have g2 : ((if decide (two63 ≤ y) = true then -1 else 1) * ((n * 2 ^ (j - min i j).toNat : Nat) : Int)) * ((2 ^ (min i j + 1074).toNat : Nat) : Int) = sval y := by
    rw [Int.mul_assoc, ← Int.natCast_mul, Nat.mul_assoc, ← Nat.pow_add, k2, u2]
    unfold sval
    by_cases h : two63 ≤ y <;> simp [h]
  rw [g1, g2]

theorem order_eq {x y : Nat} (hx : x < two64) (hy : y < two64) (nx : nanB x = false) (ny : nanB y = false) : Ieee.double.order x y = some (compare (sval x) (sval y)) := by
  rcases fin_or_inf nx with h1 | h1 <;> rcases fin_or_inf ny with h2 | h2
  · exact order_fin hx hy h1 h2
  · obtain ⟨m, i, e1, p1, u1⟩ := read_fin hx h1
    unfold Format.order
    rw [e1, read_inf hy h2]
    simp only [Datum.order]
    have hlt := uval_lt h1
    congr 1
    unfold sval
    rw [h2]
    by_cases hn : two63 ≤ y
    · simp only [hn, decide_true, if_true]
      symm; rw [Int.compare_eq_gt]; split <;> omega
    · simp only [hn, decide_false, if_false, Bool.false_eq_true]
      symm; rw [Int.compare_eq_lt]; split <;> omega
  · obtain ⟨m, i, e1, p1, u1⟩ := read_fin hy h2
    unfold Format.order
    rw [e1, read_inf hx h1]
    simp only [Datum.order]
    have hlt := uval_lt h2
    congr 1
    unfold sval
    rw [h1]
    by_cases hn : two63 ≤ x
    · simp only [hn, decide_true, if_true]
      symm; rw [Int.compare_eq_lt]; split <;> omega
    · simp only [hn, decide_false, if_false, Bool.false_eq_true]
      symm; rw [Int.compare_eq_gt]; split <;> omega
  · unfold Format.order
    rw [read_inf hx h1, read_inf hy h2]
    simp only [Datum.order]
    congr 1
    have hpos : 0 < uval infR := by decide +kernel
    unfold sval
    rw [h1, h2]
    by_cases hn : two63 ≤ x <;> by_cases hm : two63 ≤ y <;> simp [hn, hm]
    · rw [Int.compare_eq_lt.2 (by omega)]; rfl
    · rw [Int.compare_eq_gt.2 (by omega)]; rfl
theorem order_nan {x y : Nat} (h : nanB x = true ∨ nanB y = true) : Ieee.double.order x y = none := by
  unfold Format.order
  rcases h with h | h
  · obtain ⟨s, f, e⟩ := read_nan' h
    rw [e]; rfl
  · obtain ⟨s, f, e⟩ := read_nan' h
    rw [e]
    cases Ieee.double.read x <;> rfl

theorem fkey_num {x : Nat} (h : nanB x = false) : fkey x = if two63 ≤ x then two64 - 1 - x else x + two63 := by simp [fkey, h]
theorem key_lt_of_sval {x y : Nat} (hx : x < two64) (hy : y < two64) (nx : nanB x = false) (ny : nanB y = false) (h : sval x < sval y) : fkey x < fkey y := by
  unfold sval at h
  rw [fkey_num nx, fkey_num ny]
  by_cases h1 : two63 ≤ x <;> by_cases h2 : two63 ≤ y
  · rw [if_pos h1, if_pos h2] at h ⊢
    have : uval (y % two63) < uval (x % two63) := by omega
    rw [uval_lt_iff] at this
    unfold two63 two64 at *; omega
  · rw [if_pos h1, if_neg h2]; unfold two63 two64 at *; omega
  · rw [if_neg h1, if_pos h2] at h
    omega
  · rw [if_neg h1, if_neg h2] at h ⊢
    have : uval (x % two63) < uval (y % two63) := by omega
    rw [uval_lt_iff] at this
    unfold two63 two64 at *; omega
theorem key_lt {x y : Nat} (hx : x < two64) (hy : y < two64) (h : Ieee.double.order x y = some .lt) : fkey x < fkey y := by
  cases nx : nanB x
  · cases ny : nanB y
    · rw [order_eq hx hy nx ny] at h
      exact key_lt_of_sval hx hy nx ny (Int.compare_eq_lt.1 (Option.some.inj h))
    · rw [order_nan (.inr ny)] at h; cases h
  · rw [order_nan (.inl nx)] at h; cases h
theorem key_gt {x y : Nat} (hx : x < two64) (hy : y < two64) (h : Ieee.double.order x y = some .gt) : fkey y < fkey x := by
  cases nx : nanB x
  · cases ny : nanB y
    · rw [order_eq hx hy nx ny] at h
      exact key_lt_of_sval hy hx ny nx (Int.compare_eq_gt.1 (Option.some.inj h))
    · rw [order_nan (.inr ny)] at h; cases h
  · rw [order_nan (.inl nx)] at h; cases h
/-- 'x != x' -/
theorem self_nan {x : Nat} (hx : x < two64) : (Ieee.double.order x x != some .eq) = nanB x := by
  cases nx : nanB x
  · rw [order_eq hx hx nx nx]; simp
  · rw [order_nan (.inl nx)]; rfl
theorem fkey_lt {x : Nat} (hx : x < two64) : fkey x < two64 := by
  unfold fkey
  split
  · decide
  · split <;> (unfold two63 two64 at *; omega)
end Go.Proofs.YtfjjnffifnohkaaGreat

namespace Go.Proofs.YtfjjnffifnohkaaGreat
open Go.RowKit

theorem xor_max (x : Nat) (hx : x < two64) : bits .xor .u64 IntKind.u64.max (x : Int) = ((two64 - 1 - x : Nat) : Int) := by
  unfold two64 at *
  rw [show IntKind.u64.max = ((18446744073709551615 : Nat) : Int) from rfl, bits_xor_u64_nat _ _ (by decide) hx]
  have e1 : (BitVec.allOnes 64 ^^^ BitVec.ofNat 64 x).toNat = 18446744073709551615 ^^^ x := by
    rw [BitVec.toNat_xor, BitVec.toNat_allOnes, BitVec.toNat_ofNat, Nat.mod_eq_of_lt (by omega)]
  rw [← e1, BitVec.allOnes_xor, BitVec.toNat_not, BitVec.toNat_ofNat, Nat.mod_eq_of_lt (by omega)]
theorem or_top (x : Nat) (hx : x < two63) : bits .or .u64 (x : Int) 9223372036854775808 = ((x + two63 : Nat) : Int) := by
  unfold two63 at *
  rw [show (9223372036854775808 : Int) = ((9223372036854775808 : Nat) : Int) from rfl, u64_or_nat _ _ (by omega) (by decide), Nat.or_comm]
  have h : 9223372036854775808 + x = 9223372036854775808 ||| x := Nat.two_pow_add_eq_or_of_lt (i := 63) (b := x) (by omega) 1
  congr 1
  omega
theorem run_bits (x : Nat) (w : World) : (callFunc 200 #[.float .f64 x]).run Tryz.prog w = .ok (.value (.int .u64 x)) w := by
  rw [run_callFunc_extern Tryz.func200 (by kernel_rfl) (by kernel_rfl) (by kernel_rfl) (e := Extern.MathFloatBits.float64bits) (by kernel_rfl)]
  rfl
theorem signbit_any (x : Nat) (w : World) (hx : x < two64) : Calls Tryz.prog 207 #[.float .f64 x] w fun e w' => e = .returned (.bool (decide (two63 ≤ x))) ∧ w = w' := by
  have hrb := run_bits x
  by_cases h : two63 ≤ x
  · have HD := Lib.hid (decide_eq_true h)
    have hw : wrap64 (x : Int) < 0 := by unfold wrap64; unfold two63 two64 at *; omega
    clear h
    go_enter Tryz.func207, Tryz.ntmps207
    go_wp2_with fail
    go_ret
    exact ⟨ret_bool HD.out.symm, rfl⟩
  · have HD := Lib.hid (decide_eq_false h)
    have hw : ¬ wrap64 (x : Int) < 0 := by unfold wrap64; unfold two63 two64 at *; omega
    clear h
    go_enter Tryz.func207, Tryz.ntmps207
    go_wp2_with fail
    go_ret
    exact ⟨ret_bool HD.out.symm, rfl⟩

set_option maxHeartbeats 1600000 in
set_option maxRecDepth 100000 in
theorem rput_any (x : Nat) (w : World) (hx : x < two64) : Calls Tryz.prog 205 #[.float .f64 x] w fun e w' => e = .returned (.string (strOfNums (putN (fkey x) 8 8))) ∧ Bl w w' := by
  obtain ⟨i0, hi, hz0, hz1, hz2⟩ := info_parts info_byte
  have hrb := run_bits x
  have hn : (FloatKind.f64.format.order x x != some .eq) = nanB x := self_nan hx
  cases hx0 : nanB x
  · rw [hx0] at hn
    have HK := Lib.hid (fkey_num hx0)
    by_cases h : two63 ≤ x
    · have HK2 := Lib.hid (HK.out.trans (if_pos h))
      go_enter Tryz.func205, Tryz.ntmps205
      go_wp2_with fail
      refine (signbit_any x _ hx).mono ?_
      rintro e w1 ⟨rfl, rfl⟩
      rw [decide_eq_true h]
      go_wp2_with (at_make; refine wpList_make_full _ rfl _ _ 201 rfl w.heap.size 5 i0 (.int .u8 0) 1 Tryz.underlying201 hi hz0 hz1 .i64 .i64 _ _ 8 rfl rfl rfl rfl ?b1 ?b2 ?b3 ?_)
      case b1 => rw [hz2]; omega
      case b2 => unfold maxLen; omega
      case b3 => exact Nat.le_refl _
      intro w1 hown hgrow
      have hb : Bl w w1 := Below.grown (Bl.refl w) hgrow (Nat.le_refl _) (by simp)
      have hob : OB w.heap.size w1 (.slice (some ⟨w.heap.size, 0, none⟩) 8 8) (putN (fkey x) 8 0) := by
        rw [OB, putN_len, putN_zero]
        have e : (madeCells #[Value.int .u8 0] 8).toList = List.map (Value.int .u8) (List.replicate 8 0) := by
          rw [List.map_replicate]
          exact toList_madeCells_one _ _
        rw [← e]
        exact hown
      clear hown hgrow
      go_wp2_with fail
      go_loopw [22] (fun i wr => ∃ k : Nat, k ≤ 8 ∧ i = .int .i64 k ∧ Bl w wr ∧ OB w.heap.size wr (.slice (some ⟨w.heap.size, 0, none⟩) 8 8) (putN (fkey x) 8 k)) (fun i _ => 8 - (intOf i).toNat)
      case atStart => exact ⟨0, Nat.zero_le _, rfl, hb, hob⟩
      case round =>
        clear hb hob
        obtain ⟨k, hk, rfl, hb, hob⟩ := hrel
        by_cases hlt : k < 8
        · have hc := hob.cell (putN_len (fkey x) 8 k) (8 - 1 - k) (by omega)
          have hfz := hob.frozen (putN_len (fkey x) 8 k) (8 - 1 - k)
          generalize nth (putN (fkey x) 8 k) (8 - 1 - k) = old at hc
          have e8 : 8 - 1 - k = 7 - k := by omega
          rw [e8] at hc hfz
          have HOB := Lib.hid hob; clear hob
          clear e8
          go_wp2_with fail
          go_roundw
          case rel =>
            refine ⟨k + 1, by omega, by go_num, hb.setCell (Nat.le_refl _) _, ?_⟩
            have h1 := HOB.out.set (putN_len (fkey x) 8 k) (8 - 1 - k) (byteAt (fkey x) 8 (8 - 1 - k))
            rw [putN_set (fkey x) 8 k hlt] at h1
            have e : byteAt (fkey x) 8 (8 - 1 - k) = (fkey x : Int) / 2 ^ (8 * k) % 256 := by unfold byteAt; rw [show 8 - 1 - (8 - 1 - k) = k by omega]
            rw [e, show 8 - 1 - k = 7 - k by omega] at h1
            rw [xor_max x hx, ← HK2.out]
            exact h1
          case measure => simp [intOf]; omega
        · have hkn : k = 8 := by omega
          subst hkn
          have hs := hob.string (putN_len (fkey x) 8 8)
          clear hob
          go_wp2_with fail
          go_ret
          exact ⟨rfl, hb⟩
    · have HK2 := Lib.hid (HK.out.trans (if_neg h))
      go_enter Tryz.func205, Tryz.ntmps205
      go_wp2_with fail
      refine (signbit_any x _ hx).mono ?_
      rintro e w1 ⟨rfl, rfl⟩
      rw [decide_eq_false h]
      go_wp2_with (at_make; refine wpList_make_full _ rfl _ _ 201 rfl w.heap.size 5 i0 (.int .u8 0) 1 Tryz.underlying201 hi hz0 hz1 .i64 .i64 _ _ 8 rfl rfl rfl rfl ?b1 ?b2 ?b3 ?_)
      case b1 => rw [hz2]; omega
      case b2 => unfold maxLen; omega
      case b3 => exact Nat.le_refl _
      intro w1 hown hgrow
      have hb : Bl w w1 := Below.grown (Bl.refl w) hgrow (Nat.le_refl _) (by simp)
      have hob : OB w.heap.size w1 (.slice (some ⟨w.heap.size, 0, none⟩) 8 8) (putN (fkey x) 8 0) := by
        rw [OB, putN_len, putN_zero]
        have e : (madeCells #[Value.int .u8 0] 8).toList = List.map (Value.int .u8) (List.replicate 8 0) := by
          rw [List.map_replicate]
          exact toList_madeCells_one _ _
        rw [← e]
        exact hown
      clear hown hgrow
      go_wp2_with fail
      go_loopw [22] (fun i wr => ∃ k : Nat, k ≤ 8 ∧ i = .int .i64 k ∧ Bl w wr ∧ OB w.heap.size wr (.slice (some ⟨w.heap.size, 0, none⟩) 8 8) (putN (fkey x) 8 k)) (fun i _ => 8 - (intOf i).toNat)
      case atStart => exact ⟨0, Nat.zero_le _, rfl, hb, hob⟩
      case round =>
        clear hb hob
        obtain ⟨k, hk, rfl, hb, hob⟩ := hrel
        by_cases hlt : k < 8
        · have hc := hob.cell (putN_len (fkey x) 8 k) (8 - 1 - k) (by omega)
          have hfz := hob.frozen (putN_len (fkey x) 8 k) (8 - 1 - k)
          generalize nth (putN (fkey x) 8 k) (8 - 1 - k) = old at hc
          have e8 : 8 - 1 - k = 7 - k := by omega
          rw [e8] at hc hfz
          have HOB := Lib.hid hob; clear hob
          clear e8
          go_wp2_with fail
          go_roundw
          case rel =>
            refine ⟨k + 1, by omega, by go_num, hb.setCell (Nat.le_refl _) _, ?_⟩
            have h1 := HOB.out.set (putN_len (fkey x) 8 k) (8 - 1 - k) (byteAt (fkey x) 8 (8 - 1 - k))
            rw [putN_set (fkey x) 8 k hlt] at h1
            have e : byteAt (fkey x) 8 (8 - 1 - k) = (fkey x : Int) / 2 ^ (8 * k) % 256 := by unfold byteAt; rw [show 8 - 1 - (8 - 1 - k) = k by omega]
            rw [e, show 8 - 1 - k = 7 - k by omega] at h1
            rw [or_top x (by omega), ← HK2.out]
            exact h1
          case measure => simp [intOf]; omega
        · have hkn : k = 8 := by omega
          subst hkn
          have hs := hob.string (putN_len (fkey x) 8 8)
          clear hob
          go_wp2_with fail
          go_ret
          exact ⟨rfl, hb⟩
  · rw [hx0] at hn
    have HK2 := Lib.hid (show fkey x = 0 by simp [fkey, hx0])
    · go_enter Tryz.func205, Tryz.ntmps205
      go_wp2_with (at_make; refine wpList_make_full _ rfl _ _ 201 rfl w.heap.size 5 i0 (.int .u8 0) 1 Tryz.underlying201 hi hz0 hz1 .i64 .i64 _ _ 8 rfl rfl rfl rfl ?b1 ?b2 ?b3 ?_)
      case b1 => rw [hz2]; omega
      case b2 => unfold maxLen; omega
      case b3 => exact Nat.le_refl _
      intro w1 hown hgrow
      have hb : Bl w w1 := Below.grown (Bl.refl w) hgrow (Nat.le_refl _) (by simp)
      have hob : OB w.heap.size w1 (.slice (some ⟨w.heap.size, 0, none⟩) 8 8) (putN (fkey x) 8 0) := by
        rw [OB, putN_len, putN_zero]
        have e : (madeCells #[Value.int .u8 0] 8).toList = List.map (Value.int .u8) (List.replicate 8 0) := by
          rw [List.map_replicate]
          exact toList_madeCells_one _ _
        rw [← e]
        exact hown
      clear hown hgrow
      go_wp2_with fail
      go_loopw [22] (fun i wr => ∃ k : Nat, k ≤ 8 ∧ i = .int .i64 k ∧ Bl w wr ∧ OB w.heap.size wr (.slice (some ⟨w.heap.size, 0, none⟩) 8 8) (putN (fkey x) 8 k)) (fun i _ => 8 - (intOf i).toNat)
      case atStart => exact ⟨0, Nat.zero_le _, rfl, hb, hob⟩
      case round =>
        clear hb hob
        obtain ⟨k, hk, rfl, hb, hob⟩ := hrel
        by_cases hlt : k < 8
        · have hc := hob.cell (putN_len (fkey x) 8 k) (8 - 1 - k) (by omega)
          have hfz := hob.frozen (putN_len (fkey x) 8 k) (8 - 1 - k)
          generalize nth (putN (fkey x) 8 k) (8 - 1 - k) = old at hc
          have e8 : 8 - 1 - k = 7 - k := by omega
          rw [e8] at hc hfz
          have HOB := Lib.hid hob; clear hob
          clear e8
          go_wp2_with fail
          go_roundw
          case rel =>
            refine ⟨k + 1, by omega, by go_num, hb.setCell (Nat.le_refl _) _, ?_⟩
            have h1 := HOB.out.set (putN_len (fkey x) 8 k) (8 - 1 - k) (byteAt (fkey x) 8 (8 - 1 - k))
            rw [putN_set (fkey x) 8 k hlt] at h1
            have e : byteAt (fkey x) 8 (8 - 1 - k) = (fkey x : Int) / 2 ^ (8 * k) % 256 := by unfold byteAt; rw [show 8 - 1 - (8 - 1 - k) = k by omega]
            rw [e, show 8 - 1 - k = 7 - k by omega] at h1
            have e0 : ((fkey x : Nat) : Int) / 2 ^ (8 * k) % 256 = 0 := by rw [HK2.out]; simp
            rw [e0] at h1
            exact h1
          case measure => simp [intOf]; omega
        · have hkn : k = 8 := by omega
          subst hkn
          have hs := hob.string (putN_len (fkey x) 8 8)
          clear hob
          go_wp2_with fail
          go_ret
          exact ⟨rfl, hb⟩

/-- -1, 0, 1 -/
def cmpN (a b : Nat) : Int := if a < b then -1 else if b < a then 1 else 0

theorem cmp_bytes (n : Nat) : ∀ (l m : List UInt8) (a b : Nat), l.length = n → m.length = n → (∀ k, k < n → (l.drop k).head?.map (·.toNat) = some (a / 256 ^ (n - 1 - k) % 256)) → (∀ k, k < n → (m.drop k).head?.map (·.toNat) = some (b / 256 ^ (n - 1 - k) % 256)) →
    Lib.compareBytes l m = cmpN (a % 256 ^ n) (b % 256 ^ n) := by
  induction n with
  | zero =>
    intro l m a b hl hm _ _
    rw [List.eq_nil_of_length_eq_zero hl, List.eq_nil_of_length_eq_zero hm]
    simp [Lib.compareBytes, cmpN, Nat.mod_one]
  | succ n ih =>
    intro l m a b hl hm h1 h2
    cases l with
    | nil => simp at hl
    | cons x l =>
      cases m with
      | nil => simp at hm
      | cons y m =>
        have e1 := h1 0 (by omega)
        have e2 := h2 0 (by omega)
        simp at e1 e2
        have ih' := ih l m a b (by simpa using hl) (by simpa using hm) (fun k hk => by have := h1 (k + 1) (by omega); simpa [show n - (k + 1) = n - 1 - k by omega] using this) (fun k hk => by have := h2 (k + 1) (by omega); simpa [show n - (k + 1) = n - 1 - k by omega] using this)
        have m1 : a % 256 ^ (n + 1) = 256 ^ n * (a / 256 ^ n % 256) + a % 256 ^ n := by rw [Nat.pow_succ, Nat.mod_mul, Nat.add_comm]
        have m2 : b % 256 ^ (n + 1) = 256 ^ n * (b / 256 ^ n % 256) + b % 256 ^ n := by rw [Nat.pow_succ, Nat.mod_mul, Nat.add_comm]
        have l1 : a % 256 ^ n < 256 ^ n := Nat.mod_lt _ (Nat.pow_pos (by decide))
        have l2 : b % 256 ^ n < 256 ^ n := Nat.mod_lt _ (Nat.pow_pos (by decide))
        rw [← e1] at m1
        rw [← e2] at m2
        simp only [Lib.compareBytes, ih']
        rw [m1, m2]
        generalize 256 ^ n = q at *
        rcases Nat.lt_trichotomy x.toNat y.toNat with h | h | h
        · rw [if_pos (UInt8.lt_iff_toNat_lt.2 h)]
          have : q * x.toNat + q ≤ q * y.toNat := by rw [← Nat.mul_succ]; exact Nat.mul_le_mul_left _ h
          unfold cmpN
          rw [if_pos (by omega)]
        · rw [if_neg (by rw [UInt8.lt_iff_toNat_lt]; omega), if_neg (by rw [UInt8.lt_iff_toNat_lt]; omega), h]
          unfold cmpN
          split <;> split <;> first | rfl | (split <;> first | rfl | omega) | omega
        · rw [if_neg (by rw [UInt8.lt_iff_toNat_lt]; omega), if_pos (UInt8.lt_iff_toNat_lt.2 h)]
          have : q * y.toNat + q ≤ q * x.toNat := by rw [← Nat.mul_succ]; exact Nat.mul_le_mul_left _ h
          unfold cmpN
          rw [if_neg (by omega), if_pos (by omega)]
end Go.Proofs.YtfjjnffifnohkaaGreat

namespace Go.Proofs.YtfjjnffifnohkaaGreat
open Go.RowKit

/-- the eight bytes of a word -/
def bytesN8 (v : Nat) : List UInt8 := (strOfNums (putN v 8 8)).data.toList
theorem bytesN8_len (v : Nat) : (bytesN8 v).length = 8 := by
  unfold bytesN8
  rw [strOfNums_data, List.length_map, putN_len]
theorem byteAt_nat (v k : Nat) : byteAt (v : Int) 8 k = ((v / 256 ^ (8 - 1 - k) % 256 : Nat) : Int) := by
  unfold byteAt
  have e : (2 : Int) ^ (8 * (8 - 1 - k)) = ((256 ^ (8 - 1 - k) : Nat) : Int) := by
    rw [show (256 : Nat) = 2 ^ 8 from rfl, ← Nat.pow_mul]
    simp
  rw [e]
  rfl
theorem put8_at (v : Nat) (k : Nat) (hk : k < 8) : ((bytesN8 v).drop k).head?.map (·.toNat) = some (v / 256 ^ (8 - 1 - k) % 256) := by
  have hl : k < (bytesN8 v).length := by rw [bytesN8_len]; exact hk
  rw [List.drop_eq_getElem_cons hl]
  simp only [List.head?_cons, Option.map_some, Option.some.injEq]
  simp only [bytesN8, strOfNums, List.getElem_map, putN, List.getElem_range]
  rw [if_pos (by omega), byteAt_nat, Int.toNat_natCast, UInt8.toNat_ofNat']
  omega
theorem cmp_put8 (a b : Nat) (ha : a < two64) (hb : b < two64) : Lib.compareBytes (bytesN8 a) (bytesN8 b) = cmpN a b := by
  rw [cmp_bytes 8 (bytesN8 a) (bytesN8 b) a b (bytesN8_len a) (bytesN8_len b) (put8_at a) (put8_at b), Nat.mod_eq_of_lt (by unfold two64 at *; omega), Nat.mod_eq_of_lt (by unfold two64 at *; omega)]

theorem rawCompare_any (s t : ByteArray) (w : World) : Calls Tryz.prog 204 #[.string s, .string t] w fun e w' => e = .returned (.int .i64 (Lib.compareBytes s.data.toList t.data.toList)) ∧ w = w' := by
  go_enter Tryz.func204, Tryz.ntmps204
  go_wp2_with fail
  refine (Tryz.strings_Compare s t _).mono ?_
  rintro e w' ⟨rfl, rfl⟩
  go_wp2_with fail
  go_ret
  exact ⟨rfl, rfl⟩

set_option maxRecDepth 100000 in
theorem rcompare_any (x y : Nat) (w : World) (hx : x < two64) (hy : y < two64) : Calls Tryz.prog 196 #[.float .f64 x, .float .f64 y] w fun e w' => e = .returned (.int .i64 (cmpN (fkey x) (fkey y))) ∧ Bl w w' := by
  by_cases h1 : FloatKind.f64.format.order x y = some .lt
  · have HR := Lib.hid (show cmpN (fkey x) (fkey y) = -1 from if_pos (key_lt hx hy h1))
    have q1 : (FloatKind.f64.format.order x y == some .lt) = true := by rw [h1]; rfl
    clear h1
    go_enter Tryz.func196, Tryz.ntmps196
    go_wp2_with fail
    go_ret
    exact ⟨ret_int HR.out.symm, Bl.refl _⟩
  · by_cases h2 : FloatKind.f64.format.order x y = some .gt
    · have HR := Lib.hid (show cmpN (fkey x) (fkey y) = 1 from by have := key_gt hx hy h2; unfold cmpN; rw [if_neg (by omega), if_pos this])
      have q1 : (FloatKind.f64.format.order x y == some .lt) = false := by rw [h2]; rfl
      have q2 : (FloatKind.f64.format.order x y == some .gt) = true := by rw [h2]; rfl
      clear h1 h2
      go_enter Tryz.func196, Tryz.ntmps196
      go_wp2_with fail
      go_ret
      exact ⟨ret_int HR.out.symm, Bl.refl _⟩
    · have q1 : (FloatKind.f64.format.order x y == some .lt) = false := by
        rw [beq_eq_false_iff_ne]; exact h1
      have q2 : (FloatKind.f64.format.order x y == some .gt) = false := by
        rw [beq_eq_false_iff_ne]; exact h2
      clear h1 h2
      have HR := Lib.hid (cmp_put8 _ _ (fkey_lt hx) (fkey_lt hy))
      go_enter Tryz.func196, Tryz.ntmps196
      go_wp2_with fail
      refine (rput_any x _ hx).mono ?_
      rintro e w1 ⟨rfl, hb1⟩
      go_wp2_with fail
      refine (rput_any y _ hy).mono ?_
      rintro e w2 ⟨rfl, hb2⟩
      go_wp2_with fail
      refine (rawCompare_any _ _ _).mono ?_
      rintro e w3 ⟨rfl, rfl⟩
      go_wp2_with fail
      go_ret
      exact ⟨ret_int HR.out, hb1.trans hb2⟩

/-- the later number -/
def rmax (x y : Nat) : Nat := if cmpN (fkey x) (fkey y) < 0 then y else x
theorem rmax_any (x y : Nat) (w : World) (hx : x < two64) (hy : y < two64) : Calls Tryz.prog 197 #[.float .f64 x, .float .f64 y] w fun e w' => e = .returned (.float .f64 (rmax x y)) ∧ Bl w w' := by
  by_cases h : cmpN (fkey x) (fkey y) < 0
  · have HR := Lib.hid (show rmax x y = y from if_pos h)
    go_enter Tryz.func197, Tryz.ntmps197
    go_wp2_with fail
    refine (rcompare_any x y _ hx hy).mono ?_
    rintro e w1 ⟨rfl, hb1⟩
    go_wp2_with fail
    go_ret
    exact ⟨congrArg (fun b => Ending.returned (.float .f64 b)) HR.out.symm, hb1⟩
  · have HR := Lib.hid (show rmax x y = x from if_neg h)
    go_enter Tryz.func197, Tryz.ntmps197
    go_wp2_with fail
    refine (rcompare_any x y _ hx hy).mono ?_
    rintro e w1 ⟨rfl, hb1⟩
    go_wp2_with fail
    go_ret
    exact ⟨congrArg (fun b => Ending.returned (.float .f64 b)) HR.out.symm, hb1⟩
end Go.Proofs.YtfjjnffifnohkaaGreat

namespace Go.Proofs.YtfjjnffifnohkaaGreat
open Go.RowKit

theorem fkey_inj' {x y : Nat} (hx : x < two64) (hy : y < two64) (h : fkey x = fkey y) (h0 : fkey y ≠ 0) : x = y := by
  unfold fkey at h h0
  unfold two63 two64 at *
  split at h <;> split at h <;> (try split at h) <;> (try split at h) <;> simp_all <;> omega
theorem rmax_key' (x y : Nat) : fkey (rmax x y) = max (fkey x) (fkey y) := by
  unfold rmax cmpN
  by_cases h : fkey x < fkey y
  · rw [if_pos h, if_pos (by decide)]; omega
  · rw [if_neg h, if_neg (by split <;> decide)]; omega
theorem rmax_lt' {x y : Nat} (hx : x < two64) (hy : y < two64) : rmax x y < two64 := by
  unfold rmax; split <;> assumption

/-- the earlier number -/
def rmin (x y : Nat) : Nat := if 0 < cmpN (fkey x) (fkey y) then y else x
theorem rmin_key (x y : Nat) : fkey (rmin x y) = min (fkey x) (fkey y) := by
  unfold rmin cmpN
  by_cases h : fkey x < fkey y
  · rw [if_pos h, if_neg (by decide)]; omega
  · rw [if_neg h]
    by_cases h2 : fkey y < fkey x
    · rw [if_pos h2, if_pos (by decide)]; omega
    · rw [if_neg h2, if_neg (by decide)]; omega
theorem rmin_lt {x y : Nat} (hx : x < two64) (hy : y < two64) : rmin x y < two64 := by
  unfold rmin; split <;> assumption
theorem cmpN_zero (a b : Nat) : (cmpN a b == 0) = decide (a = b) := by
  unfold cmpN
  by_cases h : a < b
  · rw [if_pos h, decide_eq_false (by omega)]; rfl
  · rw [if_neg h]
    by_cases h2 : b < a
    · rw [if_pos h2, decide_eq_false (by omega)]; rfl
    · rw [if_neg h2, decide_eq_true (by omega)]; rfl
theorem rsameF_any (x y : Nat) (w : World) (hx : x < two64) (hy : y < two64) : Calls Tryz.prog 177 #[.float .f64 x, .float .f64 y] w fun e w' => e = .returned (.bool (decide (fkey x = fkey y))) ∧ Bl w w' := by
  have HZ := Lib.hid (cmpN_zero (fkey x) (fkey y))
  go_enter Tryz.func177, Tryz.ntmps177
  go_wp2_with fail
  refine (rcompare_any x y _ hx hy).mono ?_
  rintro e w1 ⟨rfl, hb1⟩
  go_wp2_with fail
  go_ret
  exact ⟨ret_bool HZ.out, hb1⟩
end Go.Proofs.YtfjjnffifnohkaaGreat
end
