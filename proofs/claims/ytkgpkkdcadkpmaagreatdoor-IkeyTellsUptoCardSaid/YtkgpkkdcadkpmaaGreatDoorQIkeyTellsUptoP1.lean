import Derived.Test.YtkgpkkdcadkpmaaGreatDoorRows
import Derived.WalkKit
import Derived.WalkSpells
import Derived.Lib.Hide
import Derived.Deep.QuietTactic
import Derived.BigQuiet
import Derived.Below

/- Plain facts on lists of ints. No program is named here. · Vocabulary of these proofs: what it is that a value reads as, and how worlds follow each other. · Numbers as bytes and as digits: plain facts. By an AI agent. -/
section
namespace Go.Proofs.YtkgpkkdcadkpmaaGreatDoor

/-- the j-th number of a list -/
def nth (xs : List Int) (j : Nat) : Int := xs.getD j 0
@[simp] theorem nth_cons_zero (x : Int) (xs : List Int) : nth (x :: xs) 0 = x := rfl
@[simp] theorem nth_cons_succ (x : Int) (xs : List Int) (j : Nat) : nth (x :: xs) (j + 1) = nth xs j := by simp [nth]
theorem nth_eq {xs : List Int} {j : Nat} (h : j < xs.length) : nth xs j = xs[j] := by simp [nth, h]

def leqL : List Int → List Int → Bool
  | x :: xs, y :: ys => decide (x ≤ y) && leqL xs ys
  | [], [] => true
  | _, _ => false

theorem leqL_len {xs ys : List Int} (h : xs.length ≠ ys.length) : leqL xs ys = false := by
  induction xs generalizing ys with
  | nil => cases ys <;> simp_all [leqL]
  | cons x xs ih => cases ys <;> simp_all [leqL]

theorem leqL_iff {xs ys : List Int} (h : xs.length = ys.length) : leqL xs ys = true ↔ ∀ j, j < xs.length → nth xs j ≤ nth ys j := by
  induction xs generalizing ys with
  | nil => cases ys <;> simp_all [leqL]
  | cons x xs ih =>
    cases ys with
    | nil => simp at h
    | cons y ys =>
      have h' : xs.length = ys.length := by simpa using h
      simp only [leqL, Bool.and_eq_true, decide_eq_true_eq, ih h', List.length_cons]
      constructor
      · rintro ⟨h1, h2⟩ j hj
        cases j with
        | zero => simpa using h1
        | succ j => simpa using h2 j (by omega)
      · intro h3
        exact ⟨by simpa using h3 0 (by omega), fun j hj => by simpa using h3 (j+1) (by omega)⟩

theorem leqL_false {xs ys : List Int} (h : xs.length = ys.length) {k : Nat} (hk : k < xs.length) (hgt : nth ys k < nth xs k) : leqL xs ys = false := by
  rw [Bool.eq_false_iff]; intro hc
  have := (leqL_iff h).1 hc k hk
  omega

theorem getD_ext {xs ys : List Int} (h : xs.length = ys.length) (hall : ∀ j, j < xs.length → nth xs j = nth ys j) : xs = ys := by
  apply List.ext_getElem h
  intro i h1 h2
  have := hall i h1
  rwa [nth_eq h1, nth_eq h2] at this
end Go.Proofs.YtkgpkkdcadkpmaaGreatDoor

namespace Go.Proofs.YtkgpkkdcadkpmaaGreatDoor
open Go.RowKit

theorem ret_bool {a b : Bool} (h : a = b) : Ending.returned (.bool a) = Ending.returned (.bool b) := by rw [h]
theorem ret_int {k : IntKind} {a b : Int} (h : a = b) : Ending.returned (.int k a) = Ending.returned (.int k b) := by rw [h]

theorem ret_int_ok {a b c : Int} (h : a = b) : Ending.returned (.tuple #[.int .i64 a, .int .i64 c]) = Ending.returned (.tuple #[.int .i64 b, .int .i64 c]) := by rw [h]


/-! ### worlds -/
/-- w' is w with more behind it: nothing that was there has turned. -/
def Bl (w w' : World) : Prop := Below w.heap.size w w'
theorem Bl.refl (w : World) : Bl w w := Below.refl _ _
theorem Bl.trans {a b c : World} (h : Bl a b) (k : Bl b c) : Bl a c := Below.trans h (Below.mono k h.size)
theorem Bl.drew {a b : World} (h : Bl a b) : Bl a b.drew := Below.drew h
theorem Bl.drewN {a b : World} (h : Bl a b) (k : Nat) : Bl a (b.drewN k) := ⟨h.os, h.tape, h.output, h.size, h.block⟩
theorem Bl.alloc {a b : World} (h : Bl a b) (o : Obj) : Bl a (b.alloc o) := Below.alloc h h.size o
theorem Bl.cell {a b : World} (h : Bl a b) {p : Addr} {v : Value} (hp : a.cell? p = some v) : b.cell? p = some v := by
  rw [Below.cell h (World.block_lt_of_cell? _ _ hp)]; exact hp
theorem Bl.size {a b : World} (h : Bl a b) : a.heap.size ≤ b.heap.size := Below.size h

theorem lt_of_heap {w : World} {g : Nat} {o : Obj} (h : w.heap[g]? = some o) : g < w.heap.size := (Array.getElem?_eq_some_iff.1 h).1
theorem Bl.heap {a b : World} (h : Bl a b) {g : Nat} {o : Obj} (hg : a.heap[g]? = some o) : b.heap[g]? = some o := by
  rw [h.block g (lt_of_heap hg)]; exact hg
theorem ownsRow_bl {w w' : World} {B : Nat} {e : TypeId} {s : Nat} {v : Value} {n : Nat} {xs : List Value} (h : w.ownsRow B e s v n xs) (hb : Bl w w') : w'.ownsRow B e s v n xs := by
  obtain ⟨h1, h2 | ⟨g, cap, cur, hv, hB, hg, r⟩⟩ := h
  · exact ⟨h1, .inl h2⟩
  · exact ⟨h1, .inr ⟨g, cap, cur, hv, hB, hb.heap hg, r⟩⟩

/-! ### slices of ints -/
/-- a slice at a, of n ints, reads as xs -/
structure IA (w : World) (a : Option Addr) (n : Nat) (xs : List Int) : Prop where
  len : xs.length = n
  cap : n * 8 ≤ 140737488351232
  cells : ∀ j, j < n → ∃ b off, a = some ⟨b, off, none⟩ ∧ ∀ j, j < n → w.cell? ⟨b, off + j, none⟩ = some (.int .i64 (nth xs j))
  wf : ∀ x ∈ xs, -9223372036854775808 ≤ x ∧ x ≤ 9223372036854775807

theorem IA.keep {w w' : World} {a : Option Addr} {n : Nat} {xs : List Int} (h : IA w a n xs) (hb : Bl w w') : IA w' a n xs :=
  ⟨h.len, h.cap, fun j hj => by
    obtain ⟨b, off, e, hc⟩ := h.cells j hj
    exact ⟨b, off, e, fun j hj => hb.cell (hc j hj)⟩, h.wf⟩

theorem IA.nil (w : World) (a : Option Addr) : IA w a 0 [] := ⟨rfl, by omega, fun j hj => by omega, fun _ h => by simp at h⟩


/-- the value v reads as the list xs of ints, in w -/
def SI (w : World) (v : Value) (xs : List Int) : Prop := ∃ a n cap, v = .slice a n cap ∧ IA w a n xs
theorem SI.keep {w w' : World} {v : Value} {xs : List Int} (h : SI w v xs) (hb : Bl w w') : SI w' v xs := by
  obtain ⟨a, n, cap, e, hI⟩ := h
  exact ⟨a, n, cap, e, hI.keep hb⟩

/-! ### slices of ints that the call itself has made, from block B on -/
theorem info_int : (Tryz.prog.info? 3).map (fun i => (i.zero, i.size, i.bytes)) = some (some (.int .i64 0), 1, 8) := by kernel_rfl
def OI (B : Nat) (w : World) (v : Value) (xs : List Int) : Prop := w.ownsRow B 3 1 v xs.length (xs.map (Value.int .i64))
theorem OI.nil (B : Nat) (w : World) : OI B w (.slice none 0 0) [] := World.ownsRow_nil _ _ _ _
theorem OI.si {B : Nat} {w : World} {v : Value} {xs : List Int} (h : OI B w v xs) (hc : xs.length * 8 ≤ 140737488351232) (hw : ∀ x ∈ xs, -9223372036854775808 ≤ x ∧ x ≤ 9223372036854775807) : SI w v xs := by
  obtain ⟨h1, ⟨rfl, h2⟩ | ⟨g, cap, cur, rfl, hB, hg, hn, hm, hs, ht⟩⟩ := h
  · have : xs = [] := List.eq_nil_of_length_eq_zero h2
    subst this
    exact ⟨none, 0, 0, rfl, IA.nil _ _⟩
  · refine ⟨some ⟨g, 0, none⟩, xs.length, cap, rfl, rfl, hc, fun j hj => ⟨g, 0, rfl, fun j hj => ?_⟩, hw⟩
    have hown : w.ownsRow B 3 1 (.slice (some ⟨g, 0, none⟩) xs.length cap) xs.length (xs.map (Value.int .i64)) := ⟨h1, .inr ⟨g, cap, cur, rfl, hB, hg, hn, hm, hs, ht⟩⟩
    rw [Nat.zero_add, hown.cellAt j (by omega)]
    simp [nth_eq hj, hj]
/-- ... and whose numbers are ints -/
structure FI (B : Nat) (w : World) (v : Value) (xs : List Int) : Prop where
  own : OI B w v xs
  cap : xs.length * 8 ≤ 140737488351232
  wf : ∀ x ∈ xs, -9223372036854775808 ≤ x ∧ x ≤ 9223372036854775807
theorem FI.si {B : Nat} {w : World} {v : Value} {xs : List Int} (h : FI B w v xs) : SI w v xs := h.own.si h.cap h.wf
theorem OI.keep {B : Nat} {w w' : World} {v : Value} {xs : List Int} (h : OI B w v xs) (hb : Bl w w') : OI B w' v xs := ownsRow_bl h hb
theorem FI.keep {B : Nat} {w w' : World} {v : Value} {xs : List Int} (h : FI B w v xs) (hb : Bl w w') : FI B w' v xs := ⟨h.own.keep hb, h.cap, h.wf⟩
theorem FI.nil (B : Nat) (w : World) : FI B w (.slice none 0 0) [] := ⟨OI.nil _ _, by simp, by simp⟩
/-- behind 'append(v, x)' -/
theorem OI.push {B : Nat} {w0 w w1 : World} {v v' : Value} {xs : List Int} {x : Int} {o : Obj} (hb : Below B w0 w) (hB : B ≤ w.heap.size) (hown : OI B w v xs)
    (hown' : w1.ownsRow B 3 1 v' (xs.length + 1) (xs.map (Value.int .i64) ++ [.int .i64 x])) (hg : (w.alloc o).grownBy w1 v.ownBlock) : OI B w1 v' (xs ++ [x]) ∧ Below B w0 w1 :=
  ⟨by simpa [OI] using hown', (hb.alloc hB o).grown hg (by simp; omega) (fun j hj => (World.ownsRow.lt hown j hj).1)⟩

/-! ### slices of bytes that the call itself has made -/
theorem info_byte : (Tryz.prog.info? 5).map (fun i => (i.zero, i.size, i.bytes)) = some (some (.int .u8 0), 1, 1) := by kernel_rfl
def OB (B : Nat) (w : World) (v : Value) (xs : List Int) : Prop := w.ownsRow B 5 1 v xs.length (xs.map (Value.int .u8))
theorem OB.nil (B : Nat) (w : World) : OB B w (.slice none 0 0) [] := World.ownsRow_nil _ _ _ _
theorem OB.push {B : Nat} {w0 w w1 : World} {v v' : Value} {xs : List Int} {x : Int} {o : Obj} (hb : Below B w0 w) (hB : B ≤ w.heap.size) (hown : OB B w v xs)
    (hown' : w1.ownsRow B 5 1 v' (xs.length + 1) (xs.map (Value.int .u8) ++ [.int .u8 x])) (hg : (w.alloc o).grownBy w1 v.ownBlock) : OB B w1 v' (xs ++ [x]) ∧ Below B w0 w1 :=
  ⟨by simpa [OB] using hown', (hb.alloc hB o).grown hg (by simp; omega) (fun j hj => (World.ownsRow.lt hown j hj).1)⟩
theorem OB.cell {B : Nat} {w : World} {g cap n : Nat} {xs : List Int} (h : OB B w (.slice (some ⟨g, 0, none⟩) n cap) xs) (hn : xs.length = n) (j : Nat) (hj : j < n) : w.cell? ⟨g, j, none⟩ = some (.int .u8 (nth xs j)) := by
  subst hn
  have hown : w.ownsRow B 5 1 (.slice (some ⟨g, 0, none⟩) xs.length cap) xs.length (xs.map (Value.int .u8)) := h
  rw [hown.cellAt j (by omega)]
  simp [nth_eq hj, hj]
/-- behind 'b[j] = x' -/
theorem OB.set {B : Nat} {w : World} {g cap n : Nat} {xs : List Int} (h : OB B w (.slice (some ⟨g, 0, none⟩) n cap) xs) (hn : xs.length = n) (j : Nat) (x : Int) :
    OB B (w.setCell ⟨g, j, none⟩ (.int .u8 x)) (.slice (some ⟨g, 0, none⟩) n cap) (xs.set j x) := by
  subst hn
  have hown : w.ownsRow B 5 1 (.slice (some ⟨g, 0, none⟩) xs.length cap) xs.length (xs.map (Value.int .u8)) := h
  have := (hown.stored j (.int .u8 x)).1
  rw [OB, List.length_set, List.map_set]
  exact this
theorem OB.frozen {B : Nat} {w : World} {g cap n : Nat} {xs : List Int} (h : OB B w (.slice (some ⟨g, 0, none⟩) n cap) xs) (hn : xs.length = n) (j : Nat) : w.frozen? ⟨g, j, none⟩ = false := by
  subst hn
  exact World.ownsRow.frozenAt h j
/-- 'string(b)' -/
theorem OB.string {B : Nat} {w : World} {g cap n : Nat} {xs : List Int} (h : OB B w (.slice (some ⟨g, 0, none⟩) n cap) xs) (hn : xs.length = n) :
    (convert 66 9 (.slice (some ⟨g, 0, none⟩) n cap)).run Tryz.prog w = .ok (.string (strOfNums xs)) w :=
  run_convert_bytes_arg w 66 5 Tryz.underlying66 Tryz.underlying5 g 0 n cap xs hn (fun i hi => by rw [Nat.zero_add]; exact h.cell hn i hi) 9 Tryz.underlying9

/-! ### a block of bytes, known whole -/
def AR (w : World) (g : Nat) (xs : List Int) : Prop := ∃ e, w.heap[g]? = some (.cells (xs.map (Value.int .u8)).toArray e (0, 0))
theorem AR.cell {w : World} {g : Nat} {xs : List Int} (h : AR w g xs) (j : Nat) (hj : j < xs.length) : w.cell? ⟨g, j, none⟩ = some (.int .u8 (nth xs j)) := by
  obtain ⟨e, h⟩ := h
  rw [cell_of_row w g j _ e (0, 0) h]
  simp [nth_eq hj, hj]
theorem AR.frozen {w : World} {g : Nat} {xs : List Int} (h : AR w g xs) (j : Nat) : w.frozen? ⟨g, j, none⟩ = false := by
  obtain ⟨e, h⟩ := h
  exact frozen_of_row w g j _ e h
theorem AR.set {w : World} {g : Nat} {xs : List Int} (h : AR w g xs) (j : Nat) (x : Int) : AR (w.setCell ⟨g, j, none⟩ (.int .u8 x)) g (xs.set j x) := by
  obtain ⟨e, h⟩ := h
  refine ⟨e, ?_⟩
  rw [heap_setCell_same w g j _ e _ h]
  simp [List.map_set]

/-- 'string(b[o:])' of an array -/
theorem AR.string {w : World} {g : Nat} {xs : List Int} (h : AR w g xs) (o n cap : Nat) (hn : o + n = xs.length) :
    (convert 66 9 (.slice (some ⟨g, o, none⟩) n cap)).run Tryz.prog w = .ok (.string (strOfNums (xs.drop o))) w :=
  run_convert_bytes_arg w 66 5 Tryz.underlying66 Tryz.underlying5 g o n cap (xs.drop o) (by simp; omega) (fun i hi => by rw [h.cell (o + i) (by omega)]; simp [nth]) 9 Tryz.underlying9

/-! ### strings -/
/-- the string s has the bytes l -/
def SB (s : ByteArray) (l : List UInt8) : Prop := s.data.toList = l
theorem SB.beq {s t : ByteArray} {l m : List UInt8} (hs : SB s l) (ht : SB t m) : (s.toList == t.toList) = decide (l = m) := by
  rw [ByteArray.toList_eq, ByteArray.toList_eq, hs, ht, Bool.eq_iff_iff]; simp
theorem SB.size {s : ByteArray} {l : List UInt8} (hs : SB s l) : s.size = l.length := by
  rw [← hs]; simp
theorem SB.get {s : ByteArray} {l : List UInt8} (hs : SB s l) (i : Nat) (h : i < s.size) (h' : i < l.length) : s[i] = l[i] := by
  subst hs; rfl
theorem SB.eq {s t : ByteArray} {l : List UInt8} (hs : SB s l) (ht : SB t l) : s = t := ByteArray.ext (Array.toList_inj.1 (hs.trans ht.symm))
theorem SB.append {s t : ByteArray} {l m : List UInt8} (hs : SB s l) (ht : SB t m) : SB (s ++ t) (l ++ m) := by
  rw [SB] at *; simp [hs, ht]
theorem SB.mk (l : List UInt8) : SB ⟨l.toArray⟩ l := rfl
end Go.Proofs.YtkgpkkdcadkpmaaGreatDoor

namespace Go.Proofs.YtkgpkkdcadkpmaaGreatDoor
open Go.RowKit

/-- the j-th of n bytes of v, the greatest first -/
def byteAt (v : Int) (n j : Nat) : Int := v / 2 ^ (8 * (n - 1 - j)) % 256
def putN (v : Int) (n k : Nat) : List Int := (List.range n).map (fun j => if n - k ≤ j then byteAt v n j else 0)

theorem putN_len (v : Int) (n k : Nat) : (putN v n k).length = n := by simp [putN]
theorem putN_zero (v : Int) (n : Nat) : putN v n 0 = List.replicate n 0 := by
  apply List.ext_getElem (by simp [putN])
  intro i h1 h2
  simp [putN] at h1
  simp [putN]; omega
theorem putN_set (v : Int) (n k : Nat) (hk : k < n) : (putN v n k).set (n - 1 - k) (byteAt v n (n - 1 - k)) = putN v n (k + 1) := by
  apply List.ext_getElem (by simp [putN])
  intro i h1 h2
  simp [putN] at h1
  rw [List.getElem_set]
  simp only [putN, List.getElem_map, List.getElem_range]
  by_cases e : n - 1 - k = i
  · subst e; rw [if_pos rfl, if_pos (by omega)]
  · rw [if_neg e]
    by_cases h : n - k ≤ i
    · rw [if_pos h, if_pos (by omega)]
    · rw [if_neg h, if_neg (by omega)]

/-- the number of some bytes -/
def getN (l : List UInt8) : Int := l.foldl (fun v b => v * 256 + b.toNat) 0

theorem getN_bound (l : List UInt8) : 0 ≤ getN l ∧ getN l < 256 ^ l.length := by
  unfold getN
  suffices h : ∀ (l : List UInt8) (a : Int) (m : Nat), 0 ≤ a → a < 256 ^ m → 0 ≤ l.foldl (fun v b => v * 256 + (b.toNat : Int)) a ∧ l.foldl (fun v b => v * 256 + (b.toNat : Int)) a < 256 ^ (m + l.length) by
    simpa using h l 0 0 (by omega) (by simp)
  intro l
  induction l with
  | nil => intro a m h0 h1; exact ⟨h0, by simpa using h1⟩
  | cons b l ih =>
    intro a m h0 h1
    have hb : b.toNat < 256 := UInt8.toNat_lt b
    have := ih (a * 256 + b.toNat) (m + 1) (by omega) (by rw [Int.pow_succ]; omega)
    simp only [List.foldl_cons, List.length_cons]
    rw [show m + (l.length + 1) = m + 1 + l.length by omega]
    exact this
theorem getN_snoc (l : List UInt8) (b : UInt8) : getN (l ++ [b]) = getN l * 256 + b.toNat := by simp [getN]

theorem wraps_i64 (n : Int) (h₀ : 0 ≤ n) (h₁ : n < 2 ^ 63) : IntKind.i64.wrap n = n := by rw [IntKind.wrap_i64]; omega
theorem or_shl8 (a b : Int) (h0 : 0 ≤ a) (h1 : a < 281474976710656) (h2 : 0 ≤ b) (h3 : b < 256) : bits .or .i64 (a * 256) (wrap64 b) = a * 256 + b := by
  have e2 : wrap64 b = b := by unfold wrap64; omega
  rw [e2]
  exact bits_join .i64 63 (by decide) wraps_i64 8 _ _ (by omega) (by omega) (by omega) h2 (by omega) (by omega)

theorem getN_take {s : ByteArray} {k : Nat} (h : k < s.size) : getN (s.data.toList.take (k + 1)) = getN (s.data.toList.take k) * 256 + s[k].toNat := by
  have h' : k < s.data.toList.length := by simpa using h
  rw [List.take_succ_eq_append_getElem h', getN_snoc]
  rfl


/-! ### digits -/




end Go.Proofs.YtkgpkkdcadkpmaaGreatDoor
end

/- raw.Put, raw.Get. By an AI agent. -/
section
namespace Go.Proofs.YtkgpkkdcadkpmaaGreatDoor
open Go.RowKit

set_option maxHeartbeats 800000 in
set_option maxRecDepth 100000 in
theorem put_any (v : Int) (n : Nat) (w : World) (hv : 0 ≤ v) (hn : 1 ≤ n) (hn1 : n ≤ 7) (hvn : v / 2 ^ (8 * n) = 0) :
    Calls Tryz.prog 21 #[.int .i64 v, .int .i64 n] w fun e w' => e = .returned (.tuple #[.string (strOfNums (putN v n n)), .int .i64 0]) ∧ Bl w w' := by
  obtain ⟨i0, hi, hz0, hz1, hz2⟩ := info_parts info_byte
  have hv0 : (v / 2 ^ (8 * n) != 0) = false := by simp [hvn]
  clear hvn
  go_enter Tryz.func21, Tryz.ntmps21
  go_wp2_with (at_make; refine wpList_make_full _ rfl _ _ 66 rfl w.heap.size 5 i0 (.int .u8 0) 1 Tryz.underlying66 hi hz0 hz1 .i64 .i64 _ _ n rfl rfl rfl rfl ?b1 ?b2 ?b3 ?_)
  case b1 => rw [hz2]; omega
  case b2 => unfold maxLen; omega
  case b3 => exact Nat.le_refl _
  intro w1 hown hgrow
  have hb : Bl w w1 := Below.grown (Bl.refl w) hgrow (Nat.le_refl _) (by simp)
  have hob : OB w.heap.size w1 (.slice (some ⟨w.heap.size, 0, none⟩) n n) (putN v n 0) := by
    rw [OB, putN_len, putN_zero]
    have e : (madeCells #[Value.int .u8 0] n).toList = List.map (Value.int .u8) (List.replicate n 0) := by
      rw [List.map_replicate]
      exact toList_madeCells_one _ _
    rw [e] at hown
    exact hown
  clear hown hgrow
  go_wp2
  go_loopw [29] (fun i wr => ∃ k : Nat, k ≤ n ∧ i = .int .i64 k ∧ Bl w wr ∧ OB w.heap.size wr (.slice (some ⟨w.heap.size, 0, none⟩) n n) (putN v n k)) (fun i _ => n - (intOf i).toNat)
  case atStart => exact ⟨0, Nat.zero_le _, rfl, hb, hob⟩
  case round =>
    clear hb hob
    obtain ⟨k, hk, rfl, hb, hob⟩ := hrel
    by_cases hlt : k < n
    · have hc := hob.cell (putN_len v n k) (n - 1 - k) (by omega)
      have hfz := hob.frozen (putN_len v n k) (n - 1 - k)
      generalize nth (putN v n k) (n - 1 - k) = old at hc
      have HOB := Lib.hid hob; clear hob
      go_wp2
      go_roundw
      case rel =>
        refine ⟨k + 1, by omega, by go_num, hb.setCell (Nat.le_refl _) _, ?_⟩
        have h1 := HOB.out.set (putN_len v n k) (n - 1 - k) (v / 2 ^ (8 * k) % 256)
        have e : v / 2 ^ (8 * k) % 256 = byteAt v n (n - 1 - k) := by unfold byteAt; rw [show n - 1 - (n - 1 - k) = k by omega]
        have h2 := putN_set v n k hlt
        rw [← e] at h2
        rw [h2] at h1
        exact h1
      case measure => simp [intOf]; omega
    · have hkn : k = n := by omega
      subst hkn
      have hs := hob.string (putN_len v k k)
      clear hob
      go_wp2
      go_ret2
      exact ⟨rfl, hb⟩


set_option maxHeartbeats 800000 in
set_option maxRecDepth 100000 in
theorem get_any (s : ByteArray) (w : World) (h1 : 1 ≤ s.size) (h7 : s.size ≤ 7) :
    Calls Tryz.prog 144 #[.string s] w fun e w' => e = .returned (.tuple #[.int .i64 (getN s.data.toList), .int .i64 0]) ∧ w = w' := by
  go_enter Tryz.func144, Tryz.ntmps144
  go_wp2
  go_loop [4, 16] (fun v i => ∃ (k : Nat) (a : Int), k ≤ s.size ∧ i = .int .i64 k ∧ v = .int .i64 a ∧ a = getN (s.data.toList.take k)) (fun _ i => s.size - (intOf i).toNat)
  case atStart => exact ⟨0, 0, Nat.zero_le _, rfl, rfl, rfl⟩
  case round =>
    obtain ⟨k, a, hk, rfl, rfl, ha⟩ := hrel
    have hbd := getN_bound (s.data.toList.take k)
    rw [← ha] at hbd
    have HA := Lib.hid ha; clear ha
    by_cases hlt : k < s.size
    · have h6 : a < 281474976710656 := by
        have h2 := hbd.2
        have : (s.data.toList.take k).length ≤ 6 := Nat.le_trans (List.length_take_le _ _) (by omega)
        have h3 : (256 : Int) ^ (s.data.toList.take k).length ≤ 256 ^ 6 := by
          have := Nat.pow_le_pow_right (show 0 < 256 by decide) this
          exact_mod_cast this
        omega
      have h0 := hbd.1
      clear hbd
      have HO := Lib.hid (or_shl8 a s[k].toNat h0 h6 (by omega) (by have := UInt8.toNat_lt s[k]; omega))
      have HT := Lib.hid (getN_take hlt)
      go_wp2
      go_round
      case rel => exact ⟨k + 1, _, by omega, by go_num, rfl, by rw [HO.out, HT.out, HA.out]⟩
      case measure => simp [intOf]; omega
    · have HE := Lib.hid (show s.data.toList.take k = s.data.toList from List.take_of_length_le (by simp; omega))
      go_wp2
      go_ret2
      exact ⟨ret_int_ok (HA.out.trans (congrArg getN HE.out)), rfl⟩
end Go.Proofs.YtkgpkkdcadkpmaaGreatDoor
end

/- vec.Valid (lines of the text Vec2). By an AI agent. -/
section
set_option linter.unusedVariables false
namespace Go.Proofs.YtkgpkkdcadkpmaaGreatDoor
open Go.RowKit

theorem take_nth {xs : List Int} {k : Nat} (h : k < xs.length) : xs.take (k + 1) = xs.take k ++ [nth xs k] := by
  rw [List.take_succ_eq_append_getElem h, nth_eq h]
theorem bad_any (x : Int) (w : World) : Calls Tryz.prog 108 #[.int .i64 x] w fun e w' => e = .returned (.bool (decide (x < 0 ∨ 281474976710656 ≤ x))) ∧ w = w' := by
  by_cases h0 : x < 0
  · go_enter Tryz.func108, Tryz.ntmps108
    go_wp2
    go_ret
    exact ⟨ret_bool (by simp [h0]), rfl⟩
  · by_cases h1 : 281474976710656 ≤ x
    · go_enter Tryz.func108, Tryz.ntmps108
      go_wp2
      go_ret
      exact ⟨ret_bool (by simp_all), rfl⟩
    · go_enter Tryz.func108, Tryz.ntmps108
      go_wp2
      go_ret
      exact ⟨ret_bool (by simp; omega), rfl⟩

def badT (x : Int) : Bool := decide (x < 0 ∨ 281474976710656 ≤ x)

set_option maxHeartbeats 400000 in
theorem indexBad_any (a : Option Addr) (n ca : Nat) (xs : List Int) (w : World) (hx : IA w a n xs) :
    Calls Tryz.prog 148 #[.slice a n ca, .func (.func 108) #[] #[]] w fun e w' => ∃ k : Int, e = .returned (.int .i64 k) ∧ (k ≥ 0 ↔ xs.any badT = true) ∧ w = w' := by
  have hx1 := hx.cap
  have HX := Lib.hid hx.len
  go_enter Tryz.func148, Tryz.ntmps148
  go_wp2
  go_loop [8] (fun i => ∃ k : Nat, k ≤ n ∧ i = .int .i64 k ∧ ∀ j, j < k → badT (nth xs j) = false) (fun i => n - (intOf i).toNat)
  case atStart => exact ⟨0, Nat.zero_le _, rfl, fun j h => by omega⟩
  case round =>
    obtain ⟨k, hk, rfl, hle⟩ := hrel
    have HLE := Lib.hid hle; clear hle
    by_cases hlt : k < n
    · obtain ⟨ba, oa, rfl, hca⟩ := hx.cells k hlt
      have ha := hca k hlt
      clear hca
      go_wp2_with fail
      refine (bad_any _ _).mono ?_
      rintro e w' ⟨rfl, rfl⟩
      have hbt : decide (nth xs k < 0 ∨ 281474976710656 ≤ nth xs k) = badT (nth xs k) := rfl
      cases hbad : badT (nth xs k)
      · have HB := Lib.hid hbad
        rw [hbad] at hbt
        clear hbad
        rw [hbt]
        clear hbt
        go_wp2
        go_round
        case rel => exact ⟨k + 1, by omega, by go_num, fun j hj => by
            by_cases e : j = k
            · subst e; exact HB.out
            · exact HLE.out j (by omega)⟩
        case measure => simp [intOf]; omega
      · have HB := Lib.hid hbad
        rw [hbad] at hbt
        clear hbad
        rw [hbt]
        clear hbt
        go_wp2
        go_ret
        refine ⟨(k : Int), rfl, ⟨fun _ => ?_, fun _ => by omega⟩, rfl⟩
        rw [List.any_eq_true]
        have hkx : k < xs.length := by rw [HX.out]; exact hlt
        exact ⟨nth xs k, by rw [nth_eq hkx]; exact List.getElem_mem hkx, HB.out⟩
    · go_wp2
      go_ret
      refine ⟨-1, rfl, ⟨fun h => by omega, fun h => ?_⟩, rfl⟩
      obtain ⟨x, hxm, hb⟩ := h
      obtain ⟨j, hj, rfl⟩ := List.getElem_of_mem hxm
      have := HLE.out j (by rw [HX.out] at hj; omega)
      rw [nth_eq hj, hb] at this
      cases this

theorem containsBad_any (a : Option Addr) (n ca : Nat) (xs : List Int) (w : World) (hx : IA w a n xs) :
    Calls Tryz.prog 107 #[.slice a n ca, .func (.func 108) #[] #[]] w fun e w' => e = .returned (.bool (xs.any badT)) ∧ w = w' := by
  go_enter Tryz.func107, Tryz.ntmps107
  go_wp2_with fail
  refine (indexBad_any a n ca xs _ hx).mono ?_
  rintro e w' ⟨k, rfl, hk, rfl⟩
  have HK := Lib.hid hk; clear hk
  by_cases h : k ≥ 0
  · have HA := Lib.hid (HK.out.1 h)
    go_wp2
    go_ret
    exact ⟨ret_bool (by rw [HA.out]), rfl⟩
  · have HA := Lib.hid (show xs.any badT = false by rw [Bool.eq_false_iff]; exact fun h' => h (HK.out.2 h'))
    go_wp2
    go_ret
    exact ⟨ret_bool (by rw [HA.out]; simp; omega), rfl⟩

/-- is it a vector? -/
def validL (xs : List Int) : Bool := decide (1 ≤ xs.length) && decide (xs.length ≤ 8) && !xs.any badT

theorem valid_any (a : Option Addr) (n ca : Nat) (xs : List Int) (w : World) (hx : IA w a n xs) :
    Calls Tryz.prog 33 #[.slice a n ca] w fun e w' => e = .returned (.bool (validL xs)) ∧ w = w' := by
  have hx1 := hx.cap
  have HX := Lib.hid hx.len
  by_cases h0 : 1 ≤ n
  · by_cases h1 : n ≤ 8
    · go_enter Tryz.func33, Tryz.ntmps33
      go_wp2_with fail
      refine (containsBad_any a n ca xs _ hx).mono ?_
      rintro e w' ⟨rfl, rfl⟩
      cases hb : xs.any badT
      · have HB := Lib.hid hb; clear hb
        go_wp2
        go_ret
        exact ⟨ret_bool (by simp [validL, HX.out, h0, h1, HB.out]), rfl⟩
      · have HB := Lib.hid hb; clear hb
        go_wp2
        go_ret
        exact ⟨ret_bool (by simp [validL, HX.out, HB.out]), rfl⟩
    · go_enter Tryz.func33, Tryz.ntmps33
      go_wp2
      go_ret
      exact ⟨ret_bool (by simp [validL, HX.out, h1]), rfl⟩
  · go_enter Tryz.func33, Tryz.ntmps33
    go_wp2
    go_ret
    exact ⟨ret_bool (by simp [validL, HX.out, h0]), rfl⟩
theorem valid_parts {xs : List Int} (h : validL xs = true) : 1 ≤ xs.length ∧ xs.length ≤ 8 ∧ ∀ j, j < xs.length → 0 ≤ nth xs j ∧ nth xs j < 281474976710656 := by
  simp only [validL, Bool.and_eq_true, decide_eq_true_eq, Bool.not_eq_true'] at h
  obtain ⟨⟨h1, h2⟩, h3⟩ := h
  refine ⟨h1, h2, fun j hj => ?_⟩
  have h4 : badT (nth xs j) = false := by
    cases hb : badT (nth xs j)
    · rfl
    · have : xs.any badT = true := List.any_eq_true.2 ⟨nth xs j, by rw [nth_eq hj]; exact List.getElem_mem hj, hb⟩
      rw [h3] at this; cases this
  simp [badT] at h4; omega
end Go.Proofs.YtkgpkkdcadkpmaaGreatDoor
end
