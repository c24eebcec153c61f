import Derived.Test.YtkpikmfijcffiaaGreatRows
import Derived.WalkKit
import Derived.WalkSpells
import Derived.Lib.Hide
import Derived.Deep.QuietTactic
import Derived.BigQuiet

/- Plain facts on lists of ints. No program is named here. · Vocabulary of these proofs: what it is that a value reads as, and how worlds follow each other. · Numbers as bytes and as digits: plain facts. By an AI agent. -/
section
namespace Go.Proofs.YtkpikmfijcffiaaGreat

/-- the j-th number of a list -/
def nth (xs : List Int) (j : Nat) : Int := xs.getD j 0
@[simp] theorem nth_cons_zero (x : Int) (xs : List Int) : nth (x :: xs) 0 = x := rfl
@[simp] theorem nth_cons_succ (x : Int) (xs : List Int) (j : Nat) : nth (x :: xs) (j + 1) = nth xs j := by simp [nth]
theorem nth_eq {xs : List Int} {j : Nat} (h : j < xs.length) : nth xs j = xs[j] := by simp [nth, h]

def leqL : List Int → List Int → Bool
  | x :: xs, y :: ys => decide (x ≤ y) && leqL xs ys
  | [], [] => true
  | _, _ => false

theorem leqL_len {xs ys : List Int} (h : xs.length ≠ ys.length) : leqL xs ys = false := by
  induction xs generalizing ys with
  | nil => cases ys <;> simp_all [leqL]
  | cons x xs ih => cases ys <;> simp_all [leqL]

theorem leqL_iff {xs ys : List Int} (h : xs.length = ys.length) : leqL xs ys = true ↔ ∀ j, j < xs.length → nth xs j ≤ nth ys j := by
  induction xs generalizing ys with
  | nil => cases ys <;> simp_all [leqL]
  | cons x xs ih =>
    cases ys with
    | nil => simp at h
    | cons y ys =>
      have h' : xs.length = ys.length := by simpa using h
      simp only [leqL, Bool.and_eq_true, decide_eq_true_eq, ih h', List.length_cons]
      constructor
      · rintro ⟨h1, h2⟩ j hj
        cases j with
        | zero => simpa using h1
        | succ j => simpa using h2 j (by omega)
      · intro h3
        exact ⟨by simpa using h3 0 (by omega), fun j hj => by simpa using h3 (j+1) (by omega)⟩

theorem leqL_false {xs ys : List Int} (h : xs.length = ys.length) {k : Nat} (hk : k < xs.length) (hgt : nth ys k < nth xs k) : leqL xs ys = false := by
  rw [Bool.eq_false_iff]; intro hc
  have := (leqL_iff h).1 hc k hk
  omega

theorem getD_ext {xs ys : List Int} (h : xs.length = ys.length) (hall : ∀ j, j < xs.length → nth xs j = nth ys j) : xs = ys := by
  apply List.ext_getElem h
  intro i h1 h2
  have := hall i h1
  rwa [nth_eq h1, nth_eq h2] at this
end Go.Proofs.YtkpikmfijcffiaaGreat

namespace Go.Proofs.YtkpikmfijcffiaaGreat
open Go.RowKit

theorem ret_bool {a b : Bool} (h : a = b) : Ending.returned (.bool a) = Ending.returned (.bool b) := by rw [h]
theorem ret_int {k : IntKind} {a b : Int} (h : a = b) : Ending.returned (.int k a) = Ending.returned (.int k b) := by rw [h]

theorem ret_int_ok {a b c : Int} (h : a = b) : Ending.returned (.tuple #[.int .i64 a, .int .i64 c]) = Ending.returned (.tuple #[.int .i64 b, .int .i64 c]) := by rw [h]

theorem ret_str {a b : List Int} (h : a = b) : Ending.returned (.string (strOfNums a)) = Ending.returned (.string (strOfNums b)) := by rw [h]

/-! ### worlds -/
/-- w' is w with more behind it: nothing that was there has turned. -/
def Bl (w w' : World) : Prop := Below w.heap.size w w'
theorem Bl.refl (w : World) : Bl w w := Below.refl _ _
theorem Bl.trans {a b c : World} (h : Bl a b) (k : Bl b c) : Bl a c := Below.trans h (Below.mono k h.size)
theorem Bl.drew {a b : World} (h : Bl a b) : Bl a b.drew := Below.drew h
theorem Bl.drewN {a b : World} (h : Bl a b) (k : Nat) : Bl a (b.drewN k) := ⟨h.os, h.tape, h.output, h.size, h.block⟩
theorem Bl.ofDrew {a b : World} (h : Bl a.drew b) : Bl a b := ⟨h.os, h.tape, h.output, h.size, h.block⟩
theorem Bl.alloc {a b : World} (h : Bl a b) (o : Obj) : Bl a (b.alloc o) := Below.alloc h h.size o
theorem Bl.of_below {B : Nat} {a b : World} (h : Below B a b) (hB : a.heap.size ≤ B) : Bl a b := Below.mono h hB
theorem Bl.cell {a b : World} (h : Bl a b) {p : Addr} {v : Value} (hp : a.cell? p = some v) : b.cell? p = some v := by
  rw [Below.cell h (World.block_lt_of_cell? _ _ hp)]; exact hp
theorem Bl.size {a b : World} (h : Bl a b) : a.heap.size ≤ b.heap.size := Below.size h

theorem lt_of_heap {w : World} {g : Nat} {o : Obj} (h : w.heap[g]? = some o) : g < w.heap.size := (Array.getElem?_eq_some_iff.1 h).1
theorem Bl.heap {a b : World} (h : Bl a b) {g : Nat} {o : Obj} (hg : a.heap[g]? = some o) : b.heap[g]? = some o := by
  rw [h.block g (lt_of_heap hg)]; exact hg
theorem ownsRow_bl {w w' : World} {B : Nat} {e : TypeId} {s : Nat} {v : Value} {n : Nat} {xs : List Value} (h : w.ownsRow B e s v n xs) (hb : Bl w w') : w'.ownsRow B e s v n xs := by
  obtain ⟨h1, h2 | ⟨g, cap, cur, hv, hB, hg, r⟩⟩ := h
  · exact ⟨h1, .inl h2⟩
  · exact ⟨h1, .inr ⟨g, cap, cur, hv, hB, hb.heap hg, r⟩⟩

/-! ### slices of ints -/
/-- a slice at a, of n ints, reads as xs -/
structure IA (w : World) (a : Option Addr) (n : Nat) (xs : List Int) : Prop where
  len : xs.length = n
  cap : n * 8 ≤ 140737488351232
  cells : ∀ j, j < n → ∃ b off, a = some ⟨b, off, none⟩ ∧ ∀ j, j < n → w.cell? ⟨b, off + j, none⟩ = some (.int .i64 (nth xs j))
  wf : ∀ x ∈ xs, -9223372036854775808 ≤ x ∧ x ≤ 9223372036854775807

theorem IA.keep {w w' : World} {a : Option Addr} {n : Nat} {xs : List Int} (h : IA w a n xs) (hb : Bl w w') : IA w' a n xs :=
  ⟨h.len, h.cap, fun j hj => by
    obtain ⟨b, off, e, hc⟩ := h.cells j hj
    exact ⟨b, off, e, fun j hj => hb.cell (hc j hj)⟩, h.wf⟩

theorem IA.nil (w : World) (a : Option Addr) : IA w a 0 [] := ⟨rfl, by omega, fun j hj => by omega, fun _ h => by simp at h⟩

theorem IA.wf_get {w : World} {a : Option Addr} {n : Nat} {xs : List Int} (h : IA w a n xs) (j : Nat) : -9223372036854775808 ≤ nth xs j ∧ nth xs j ≤ 9223372036854775807 := by
  by_cases hj : j < xs.length
  · have := h.wf xs[j] (List.getElem_mem hj)
    rwa [nth_eq hj]
  · simp [nth, List.getD, List.getElem?_eq_none (by omega : xs.length ≤ j)]

/-- the value v reads as the list xs of ints, in w -/
def SI (w : World) (v : Value) (xs : List Int) : Prop := ∃ a n cap, v = .slice a n cap ∧ IA w a n xs
theorem SI.keep {w w' : World} {v : Value} {xs : List Int} (h : SI w v xs) (hb : Bl w w') : SI w' v xs := by
  obtain ⟨a, n, cap, e, hI⟩ := h
  exact ⟨a, n, cap, e, hI.keep hb⟩

/-! ### slices of ints that the call itself has made, from block B on -/
theorem info_int : (Tryz.prog.info? 3).map (fun i => (i.zero, i.size, i.bytes)) = some (some (.int .i64 0), 1, 8) := by kernel_rfl
def OI (B : Nat) (w : World) (v : Value) (xs : List Int) : Prop := w.ownsRow B 3 1 v xs.length (xs.map (Value.int .i64))
theorem OI.nil (B : Nat) (w : World) : OI B w (.slice none 0 0) [] := World.ownsRow_nil _ _ _ _
theorem OI.si {B : Nat} {w : World} {v : Value} {xs : List Int} (h : OI B w v xs) (hc : xs.length * 8 ≤ 140737488351232) (hw : ∀ x ∈ xs, -9223372036854775808 ≤ x ∧ x ≤ 9223372036854775807) : SI w v xs := by
  obtain ⟨h1, ⟨rfl, h2⟩ | ⟨g, cap, cur, rfl, hB, hg, hn, hm, hs, ht⟩⟩ := h
  · have : xs = [] := List.eq_nil_of_length_eq_zero h2
    subst this
    exact ⟨none, 0, 0, rfl, IA.nil _ _⟩
  · refine ⟨some ⟨g, 0, none⟩, xs.length, cap, rfl, rfl, hc, fun j hj => ⟨g, 0, rfl, fun j hj => ?_⟩, hw⟩
    have hown : w.ownsRow B 3 1 (.slice (some ⟨g, 0, none⟩) xs.length cap) xs.length (xs.map (Value.int .i64)) := ⟨h1, .inr ⟨g, cap, cur, rfl, hB, hg, hn, hm, hs, ht⟩⟩
    rw [Nat.zero_add, hown.cellAt j (by omega)]
    simp [nth_eq hj, hj]
/-- ... and whose numbers are ints -/
structure FI (B : Nat) (w : World) (v : Value) (xs : List Int) : Prop where
  own : OI B w v xs
  cap : xs.length * 8 ≤ 140737488351232
  wf : ∀ x ∈ xs, -9223372036854775808 ≤ x ∧ x ≤ 9223372036854775807
theorem FI.si {B : Nat} {w : World} {v : Value} {xs : List Int} (h : FI B w v xs) : SI w v xs := h.own.si h.cap h.wf
theorem OI.keep {B : Nat} {w w' : World} {v : Value} {xs : List Int} (h : OI B w v xs) (hb : Bl w w') : OI B w' v xs := ownsRow_bl h hb
theorem FI.keep {B : Nat} {w w' : World} {v : Value} {xs : List Int} (h : FI B w v xs) (hb : Bl w w') : FI B w' v xs := ⟨h.own.keep hb, h.cap, h.wf⟩
theorem FI.nil (B : Nat) (w : World) : FI B w (.slice none 0 0) [] := ⟨OI.nil _ _, by simp, by simp⟩
/-- behind 'append(v, x)' -/
theorem OI.push {B : Nat} {w0 w w1 : World} {v v' : Value} {xs : List Int} {x : Int} {o : Obj} (hb : Below B w0 w) (hB : B ≤ w.heap.size) (hown : OI B w v xs)
    (hown' : w1.ownsRow B 3 1 v' (xs.length + 1) (xs.map (Value.int .i64) ++ [.int .i64 x])) (hg : (w.alloc o).grownBy w1 v.ownBlock) : OI B w1 v' (xs ++ [x]) ∧ Below B w0 w1 :=
  ⟨by simpa [OI] using hown', (hb.alloc hB o).grown hg (by simp; omega) (fun j hj => (World.ownsRow.lt hown j hj).1)⟩

/-! ### slices of bytes that the call itself has made -/
theorem info_byte : (Tryz.prog.info? 5).map (fun i => (i.zero, i.size, i.bytes)) = some (some (.int .u8 0), 1, 1) := by kernel_rfl
def OB (B : Nat) (w : World) (v : Value) (xs : List Int) : Prop := w.ownsRow B 5 1 v xs.length (xs.map (Value.int .u8))
theorem OB.nil (B : Nat) (w : World) : OB B w (.slice none 0 0) [] := World.ownsRow_nil _ _ _ _
theorem OB.push {B : Nat} {w0 w w1 : World} {v v' : Value} {xs : List Int} {x : Int} {o : Obj} (hb : Below B w0 w) (hB : B ≤ w.heap.size) (hown : OB B w v xs)
    (hown' : w1.ownsRow B 5 1 v' (xs.length + 1) (xs.map (Value.int .u8) ++ [.int .u8 x])) (hg : (w.alloc o).grownBy w1 v.ownBlock) : OB B w1 v' (xs ++ [x]) ∧ Below B w0 w1 :=
  ⟨by simpa [OB] using hown', (hb.alloc hB o).grown hg (by simp; omega) (fun j hj => (World.ownsRow.lt hown j hj).1)⟩
theorem OB.cell {B : Nat} {w : World} {g cap n : Nat} {xs : List Int} (h : OB B w (.slice (some ⟨g, 0, none⟩) n cap) xs) (hn : xs.length = n) (j : Nat) (hj : j < n) : w.cell? ⟨g, j, none⟩ = some (.int .u8 (nth xs j)) := by
  subst hn
  have hown : w.ownsRow B 5 1 (.slice (some ⟨g, 0, none⟩) xs.length cap) xs.length (xs.map (Value.int .u8)) := h
  rw [hown.cellAt j (by omega)]
  simp [nth_eq hj, hj]
/-- behind 'b[j] = x' -/
theorem OB.set {B : Nat} {w : World} {g cap n : Nat} {xs : List Int} (h : OB B w (.slice (some ⟨g, 0, none⟩) n cap) xs) (hn : xs.length = n) (j : Nat) (x : Int) :
    OB B (w.setCell ⟨g, j, none⟩ (.int .u8 x)) (.slice (some ⟨g, 0, none⟩) n cap) (xs.set j x) := by
  subst hn
  have hown : w.ownsRow B 5 1 (.slice (some ⟨g, 0, none⟩) xs.length cap) xs.length (xs.map (Value.int .u8)) := h
  have := (hown.stored j (.int .u8 x)).1
  rw [OB, List.length_set, List.map_set]
  exact this
theorem OB.frozen {B : Nat} {w : World} {g cap n : Nat} {xs : List Int} (h : OB B w (.slice (some ⟨g, 0, none⟩) n cap) xs) (hn : xs.length = n) (j : Nat) : w.frozen? ⟨g, j, none⟩ = false := by
  subst hn
  exact World.ownsRow.frozenAt h j
/-- 'string(b)' -/
theorem OB.string {B : Nat} {w : World} {g cap n : Nat} {xs : List Int} (h : OB B w (.slice (some ⟨g, 0, none⟩) n cap) xs) (hn : xs.length = n) :
    (convert 108 9 (.slice (some ⟨g, 0, none⟩) n cap)).run Tryz.prog w = .ok (.string (strOfNums xs)) w :=
  run_convert_bytes_arg w 108 5 Tryz.underlying108 Tryz.underlying5 g 0 n cap xs hn (fun i hi => by rw [Nat.zero_add]; exact h.cell hn i hi) 9 Tryz.underlying9

/-! ### a block of bytes, known whole -/
def AR (w : World) (g : Nat) (xs : List Int) : Prop := ∃ e, w.heap[g]? = some (.cells (xs.map (Value.int .u8)).toArray e (0, 0))
theorem AR.cell {w : World} {g : Nat} {xs : List Int} (h : AR w g xs) (j : Nat) (hj : j < xs.length) : w.cell? ⟨g, j, none⟩ = some (.int .u8 (nth xs j)) := by
  obtain ⟨e, h⟩ := h
  rw [cell_of_row w g j _ e (0, 0) h]
  simp [nth_eq hj, hj]
theorem AR.frozen {w : World} {g : Nat} {xs : List Int} (h : AR w g xs) (j : Nat) : w.frozen? ⟨g, j, none⟩ = false := by
  obtain ⟨e, h⟩ := h
  exact frozen_of_row w g j _ e h
theorem AR.set {w : World} {g : Nat} {xs : List Int} (h : AR w g xs) (j : Nat) (x : Int) : AR (w.setCell ⟨g, j, none⟩ (.int .u8 x)) g (xs.set j x) := by
  obtain ⟨e, h⟩ := h
  refine ⟨e, ?_⟩
  rw [heap_setCell_same w g j _ e _ h]
  simp [List.map_set]

/-- 'string(b[o:])' of an array -/
theorem AR.string {w : World} {g : Nat} {xs : List Int} (h : AR w g xs) (o n cap : Nat) (hn : o + n = xs.length) :
    (convert 108 9 (.slice (some ⟨g, o, none⟩) n cap)).run Tryz.prog w = .ok (.string (strOfNums (xs.drop o))) w :=
  run_convert_bytes_arg w 108 5 Tryz.underlying108 Tryz.underlying5 g o n cap (xs.drop o) (by simp; omega) (fun i hi => by rw [h.cell (o + i) (by omega)]; simp [nth]) 9 Tryz.underlying9

/-! ### strings -/
/-- the string s has the bytes l -/
def SB (s : ByteArray) (l : List UInt8) : Prop := s.data.toList = l
theorem SB.beq {s t : ByteArray} {l m : List UInt8} (hs : SB s l) (ht : SB t m) : (s.toList == t.toList) = decide (l = m) := by
  rw [ByteArray.toList_eq, ByteArray.toList_eq, hs, ht, Bool.eq_iff_iff]; simp
theorem SB.size {s : ByteArray} {l : List UInt8} (hs : SB s l) : s.size = l.length := by
  rw [← hs]; simp
theorem SB.get {s : ByteArray} {l : List UInt8} (hs : SB s l) (i : Nat) (h : i < s.size) (h' : i < l.length) : s[i] = l[i] := by
  subst hs; rfl
theorem SB.eq {s t : ByteArray} {l : List UInt8} (hs : SB s l) (ht : SB t l) : s = t := ByteArray.ext (Array.toList_inj.1 (hs.trans ht.symm))
theorem SB.append {s t : ByteArray} {l m : List UInt8} (hs : SB s l) (ht : SB t m) : SB (s ++ t) (l ++ m) := by
  rw [SB] at *; simp [hs, ht]
theorem SB.mk (l : List UInt8) : SB ⟨l.toArray⟩ l := rfl
end Go.Proofs.YtkpikmfijcffiaaGreat

namespace Go.Proofs.YtkpikmfijcffiaaGreat
open Go.RowKit

/-- the j-th of n bytes of v, the greatest first -/
def byteAt (v : Int) (n j : Nat) : Int := v / 2 ^ (8 * (n - 1 - j)) % 256
def putN (v : Int) (n k : Nat) : List Int := (List.range n).map (fun j => if n - k ≤ j then byteAt v n j else 0)

theorem putN_len (v : Int) (n k : Nat) : (putN v n k).length = n := by simp [putN]
theorem putN_zero (v : Int) (n : Nat) : putN v n 0 = List.replicate n 0 := by
  apply List.ext_getElem (by simp [putN])
  intro i h1 h2
  simp [putN] at h1
  simp [putN]; omega
theorem putN_set (v : Int) (n k : Nat) (hk : k < n) : (putN v n k).set (n - 1 - k) (byteAt v n (n - 1 - k)) = putN v n (k + 1) := by
  apply List.ext_getElem (by simp [putN])
  intro i h1 h2
  simp [putN] at h1
  rw [List.getElem_set]
  simp only [putN, List.getElem_map, List.getElem_range]
  by_cases e : n - 1 - k = i
  · subst e; rw [if_pos rfl, if_pos (by omega)]
  · rw [if_neg e]
    by_cases h : n - k ≤ i
    · rw [if_pos h, if_pos (by omega)]
    · rw [if_neg h, if_neg (by omega)]

/-- the number of some bytes -/
def getN (l : List UInt8) : Int := l.foldl (fun v b => v * 256 + b.toNat) 0

theorem getN_bound (l : List UInt8) : 0 ≤ getN l ∧ getN l < 256 ^ l.length := by
  unfold getN
  suffices h : ∀ (l : List UInt8) (a : Int) (m : Nat), 0 ≤ a → a < 256 ^ m → 0 ≤ l.foldl (fun v b => v * 256 + (b.toNat : Int)) a ∧ l.foldl (fun v b => v * 256 + (b.toNat : Int)) a < 256 ^ (m + l.length) by
    simpa using h l 0 0 (by omega) (by simp)
  intro l
  induction l with
  | nil => intro a m h0 h1; exact ⟨h0, by simpa using h1⟩
  | cons b l ih =>
    intro a m h0 h1
    have hb : b.toNat < 256 := UInt8.toNat_lt b
    have := ih (a * 256 + b.toNat) (m + 1) (by omega) (by rw [Int.pow_succ]; omega)
    simp only [List.foldl_cons, List.length_cons]
    rw [show m + (l.length + 1) = m + 1 + l.length by omega]
    exact this
theorem getN_snoc (l : List UInt8) (b : UInt8) : getN (l ++ [b]) = getN l * 256 + b.toNat := by simp [getN]

theorem wraps_i64 (n : Int) (h₀ : 0 ≤ n) (h₁ : n < 2 ^ 63) : IntKind.i64.wrap n = n := by rw [IntKind.wrap_i64]; omega
theorem or_shl8 (a b : Int) (h0 : 0 ≤ a) (h1 : a < 281474976710656) (h2 : 0 ≤ b) (h3 : b < 256) : bits .or .i64 (a * 256) (wrap64 b) = a * 256 + b := by
  have e2 : wrap64 b = b := by unfold wrap64; omega
  rw [e2]
  exact bits_join .i64 63 (by decide) wraps_i64 8 _ _ (by omega) (by omega) (by omega) h2 (by omega) (by omega)

theorem getN_take {s : ByteArray} {k : Nat} (h : k < s.size) : getN (s.data.toList.take (k + 1)) = getN (s.data.toList.take k) * 256 + s[k].toNat := by
  have h' : k < s.data.toList.length := by simpa using h
  rw [List.take_succ_eq_append_getElem h', getN_snoc]
  rfl


/-! ### digits -/
def decD (u : Nat) : List Int := if u < 10 then [48 + (u : Int)] else decD (u / 10) ++ [48 + ((u % 10 : Nat) : Int)]
  termination_by u
  decreasing_by omega

theorem decD_small {u : Nat} (h : u < 10) : decD u = [48 + (u : Int)] := by rw [decD, if_pos h]
theorem decD_big {u : Nat} (h : ¬ u < 10) : decD u = decD (u / 10) ++ [48 + ((u % 10 : Nat) : Int)] := by rw [decD, if_neg h]
theorem decD_len (k : Nat) : ∀ u, u < 10 ^ (k + 1) → 1 ≤ (decD u).length ∧ (decD u).length ≤ k + 1 := by
  induction k with
  | zero => intro u h; rw [decD_small (by simpa using h)]; simp
  | succ k ih =>
    intro u h
    by_cases hu : u < 10
    · rw [decD_small hu]; simp
    · rw [decD_big hu]
      have := ih (u / 10) (by rw [Nat.pow_succ] at h; omega)
      simp; omega
theorem decD_pos (u : Nat) : 1 ≤ (decD u).length := by
  by_cases hu : u < 10
  · rw [decD_small hu]; simp
  · rw [decD_big hu]; simp
theorem decD_digit (u : Nat) : ∀ x ∈ decD u, 48 ≤ x ∧ x ≤ 57 := by
  induction u using Nat.strongRecOn with
  | _ u ih =>
    by_cases hu : u < 10
    · rw [decD_small hu]; intro x hx; simp at hx; omega
    · rw [decD_big hu]
      intro x hx
      rcases List.mem_append.1 hx with h | h
      · exact ih (u / 10) (by omega) x h
      · simp at h; omega
/-- a number's decimal digits -/
def digL (v : Int) : List Int := if v < 0 then 45 :: decD v.natAbs else decD v.natAbs

theorem digL_len (v : Int) (h0 : -9223372036854775808 ≤ v) (h1 : v ≤ 9223372036854775807) : 1 ≤ (digL v).length ∧ (digL v).length ≤ 20 := by
  have h := decD_len 18 v.natAbs (by omega)
  unfold digL
  split
  · simp; omega
  · omega

theorem drop_set_pred {xs t : List Int} {i : Nat} (hi : 1 ≤ i) (hl : i ≤ xs.length) (h : xs.drop i = t) (x : Int) : (xs.set (i - 1) x).drop (i - 1) = x :: t := by
  have h1 : i - 1 < (xs.set (i - 1) x).length := by simp; omega
  rw [List.drop_eq_getElem_cons h1, List.getElem_set_self]
  congr 1
  rw [show i - 1 + 1 = i by omega, List.drop_set_of_lt (by omega), h]

end Go.Proofs.YtkpikmfijcffiaaGreat
end
