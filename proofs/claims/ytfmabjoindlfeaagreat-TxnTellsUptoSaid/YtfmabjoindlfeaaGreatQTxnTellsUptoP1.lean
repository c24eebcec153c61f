import Derived.Test.YtfmabjoindlfeaaGreatRows
import Derived.WalkKit
import Derived.WalkSpells
import Derived.Lib.Hide
import Derived.Deep.QuietTactic
import Derived.BigQuiet

/- Plain facts on lists of ints. No program is named here. · Vocabulary of these proofs: what it is that a value reads as, and how worlds follow each other. · Numbers as bytes and as digits: plain facts. By an AI agent. -/
section
namespace Go.Proofs.YtfmabjoindlfeaaGreat

/-- the j-th number of a list -/
def nth (xs : List Int) (j : Nat) : Int := xs.getD j 0
@[simp] theorem nth_cons_zero (x : Int) (xs : List Int) : nth (x :: xs) 0 = x := rfl
@[simp] theorem nth_cons_succ (x : Int) (xs : List Int) (j : Nat) : nth (x :: xs) (j + 1) = nth xs j := by simp [nth]
theorem nth_eq {xs : List Int} {j : Nat} (h : j < xs.length) : nth xs j = xs[j] := by simp [nth, h]

def leqL : List Int → List Int → Bool
  | x :: xs, y :: ys => decide (x ≤ y) && leqL xs ys
  | [], [] => true
  | _, _ => false

theorem leqL_len {xs ys : List Int} (h : xs.length ≠ ys.length) : leqL xs ys = false := by
  induction xs generalizing ys with
  | nil => cases ys <;> simp_all [leqL]
  | cons x xs ih => cases ys <;> simp_all [leqL]

theorem leqL_iff {xs ys : List Int} (h : xs.length = ys.length) : leqL xs ys = true ↔ ∀ j, j < xs.length → nth xs j ≤ nth ys j := by
  induction xs generalizing ys with
  | nil => cases ys <;> simp_all [leqL]
  | cons x xs ih =>
    cases ys with
    | nil => simp at h
    | cons y ys =>
      have h' : xs.length = ys.length := by simpa using h
      simp only [leqL, Bool.and_eq_true, decide_eq_true_eq, ih h', List.length_cons]
      constructor
      · rintro ⟨h1, h2⟩ j hj
        cases j with
        | zero => simpa using h1
        | succ j => simpa using h2 j (by omega)
      · intro h3
        exact ⟨by simpa using h3 0 (by omega), fun j hj => by simpa using h3 (j+1) (by omega)⟩

theorem leqL_false {xs ys : List Int} (h : xs.length = ys.length) {k : Nat} (hk : k < xs.length) (hgt : nth ys k < nth xs k) : leqL xs ys = false := by
  rw [Bool.eq_false_iff]; intro hc
  have := (leqL_iff h).1 hc k hk
  omega

theorem getD_ext {xs ys : List Int} (h : xs.length = ys.length) (hall : ∀ j, j < xs.length → nth xs j = nth ys j) : xs = ys := by
  apply List.ext_getElem h
  intro i h1 h2
  have := hall i h1
  rwa [nth_eq h1, nth_eq h2] at this
end Go.Proofs.YtfmabjoindlfeaaGreat

namespace Go.Proofs.YtfmabjoindlfeaaGreat
open Go.RowKit

theorem ret_bool {a b : Bool} (h : a = b) : Ending.returned (.bool a) = Ending.returned (.bool b) := by rw [h]
theorem ret_int {k : IntKind} {a b : Int} (h : a = b) : Ending.returned (.int k a) = Ending.returned (.int k b) := by rw [h]

theorem ret_int_ok {a b c : Int} (h : a = b) : Ending.returned (.tuple #[.int .i64 a, .int .i64 c]) = Ending.returned (.tuple #[.int .i64 b, .int .i64 c]) := by rw [h]


/-! ### worlds -/
/-- w' is w with more behind it: nothing that was there has turned. -/
def Bl (w w' : World) : Prop := Below w.heap.size w w'
theorem Bl.refl (w : World) : Bl w w := Below.refl _ _
theorem Bl.trans {a b c : World} (h : Bl a b) (k : Bl b c) : Bl a c := Below.trans h (Below.mono k h.size)
theorem Bl.drew {a b : World} (h : Bl a b) : Bl a b.drew := Below.drew h
theorem Bl.drewN {a b : World} (h : Bl a b) (k : Nat) : Bl a (b.drewN k) := ⟨h.os, h.tape, h.output, h.size, h.block⟩
theorem Bl.ofDrew {a b : World} (h : Bl a.drew b) : Bl a b := ⟨h.os, h.tape, h.output, h.size, h.block⟩
theorem Bl.alloc {a b : World} (h : Bl a b) (o : Obj) : Bl a (b.alloc o) := Below.alloc h h.size o
theorem Bl.cell {a b : World} (h : Bl a b) {p : Addr} {v : Value} (hp : a.cell? p = some v) : b.cell? p = some v := by
  rw [Below.cell h (World.block_lt_of_cell? _ _ hp)]; exact hp
theorem Bl.size {a b : World} (h : Bl a b) : a.heap.size ≤ b.heap.size := Below.size h

theorem lt_of_heap {w : World} {g : Nat} {o : Obj} (h : w.heap[g]? = some o) : g < w.heap.size := (Array.getElem?_eq_some_iff.1 h).1
theorem Bl.heap {a b : World} (h : Bl a b) {g : Nat} {o : Obj} (hg : a.heap[g]? = some o) : b.heap[g]? = some o := by
  rw [h.block g (lt_of_heap hg)]; exact hg
theorem ownsRow_bl {w w' : World} {B : Nat} {e : TypeId} {s : Nat} {v : Value} {n : Nat} {xs : List Value} (h : w.ownsRow B e s v n xs) (hb : Bl w w') : w'.ownsRow B e s v n xs := by
  obtain ⟨h1, h2 | ⟨g, cap, cur, hv, hB, hg, r⟩⟩ := h
  · exact ⟨h1, .inl h2⟩
  · exact ⟨h1, .inr ⟨g, cap, cur, hv, hB, hb.heap hg, r⟩⟩

/-! ### slices of ints -/
/-- a slice at a, of n ints, reads as xs -/
structure IA (w : World) (a : Option Addr) (n : Nat) (xs : List Int) : Prop where
  len : xs.length = n
  cap : n * 8 ≤ 140737488351232
  cells : ∀ j, j < n → ∃ b off, a = some ⟨b, off, none⟩ ∧ ∀ j, j < n → w.cell? ⟨b, off + j, none⟩ = some (.int .i64 (nth xs j))
  wf : ∀ x ∈ xs, -9223372036854775808 ≤ x ∧ x ≤ 9223372036854775807

theorem IA.keep {w w' : World} {a : Option Addr} {n : Nat} {xs : List Int} (h : IA w a n xs) (hb : Bl w w') : IA w' a n xs :=
  ⟨h.len, h.cap, fun j hj => by
    obtain ⟨b, off, e, hc⟩ := h.cells j hj
    exact ⟨b, off, e, fun j hj => hb.cell (hc j hj)⟩, h.wf⟩

theorem IA.nil (w : World) (a : Option Addr) : IA w a 0 [] := ⟨rfl, by omega, fun j hj => by omega, fun _ h => by simp at h⟩

theorem IA.wf_get {w : World} {a : Option Addr} {n : Nat} {xs : List Int} (h : IA w a n xs) (j : Nat) : -9223372036854775808 ≤ nth xs j ∧ nth xs j ≤ 9223372036854775807 := by
  by_cases hj : j < xs.length
  · have := h.wf xs[j] (List.getElem_mem hj)
    rwa [nth_eq hj]
  · simp [nth, List.getD, List.getElem?_eq_none (by omega : xs.length ≤ j)]

/-- the value v reads as the list xs of ints, in w -/
def SI (w : World) (v : Value) (xs : List Int) : Prop := ∃ a n cap, v = .slice a n cap ∧ IA w a n xs
theorem SI.keep {w w' : World} {v : Value} {xs : List Int} (h : SI w v xs) (hb : Bl w w') : SI w' v xs := by
  obtain ⟨a, n, cap, e, hI⟩ := h
  exact ⟨a, n, cap, e, hI.keep hb⟩

/-! ### slices of ints that the call itself has made, from block B on -/
theorem info_int : (Tryz.prog.info? 3).map (fun i => (i.zero, i.size, i.bytes)) = some (some (.int .i64 0), 1, 8) := by kernel_rfl
def OI (B : Nat) (w : World) (v : Value) (xs : List Int) : Prop := w.ownsRow B 3 1 v xs.length (xs.map (Value.int .i64))
theorem OI.nil (B : Nat) (w : World) : OI B w (.slice none 0 0) [] := World.ownsRow_nil _ _ _ _
theorem OI.si {B : Nat} {w : World} {v : Value} {xs : List Int} (h : OI B w v xs) (hc : xs.length * 8 ≤ 140737488351232) (hw : ∀ x ∈ xs, -9223372036854775808 ≤ x ∧ x ≤ 9223372036854775807) : SI w v xs := by
  obtain ⟨h1, ⟨rfl, h2⟩ | ⟨g, cap, cur, rfl, hB, hg, hn, hm, hs, ht⟩⟩ := h
  · have : xs = [] := List.eq_nil_of_length_eq_zero h2
    subst this
    exact ⟨none, 0, 0, rfl, IA.nil _ _⟩
  · refine ⟨some ⟨g, 0, none⟩, xs.length, cap, rfl, rfl, hc, fun j hj => ⟨g, 0, rfl, fun j hj => ?_⟩, hw⟩
    have hown : w.ownsRow B 3 1 (.slice (some ⟨g, 0, none⟩) xs.length cap) xs.length (xs.map (Value.int .i64)) := ⟨h1, .inr ⟨g, cap, cur, rfl, hB, hg, hn, hm, hs, ht⟩⟩
    rw [Nat.zero_add, hown.cellAt j (by omega)]
    simp [nth_eq hj, hj]
/-- ... and whose numbers are ints -/
structure FI (B : Nat) (w : World) (v : Value) (xs : List Int) : Prop where
  own : OI B w v xs
  cap : xs.length * 8 ≤ 140737488351232
  wf : ∀ x ∈ xs, -9223372036854775808 ≤ x ∧ x ≤ 9223372036854775807
theorem FI.si {B : Nat} {w : World} {v : Value} {xs : List Int} (h : FI B w v xs) : SI w v xs := h.own.si h.cap h.wf
theorem OI.keep {B : Nat} {w w' : World} {v : Value} {xs : List Int} (h : OI B w v xs) (hb : Bl w w') : OI B w' v xs := ownsRow_bl h hb
theorem FI.keep {B : Nat} {w w' : World} {v : Value} {xs : List Int} (h : FI B w v xs) (hb : Bl w w') : FI B w' v xs := ⟨h.own.keep hb, h.cap, h.wf⟩
theorem FI.nil (B : Nat) (w : World) : FI B w (.slice none 0 0) [] := ⟨OI.nil _ _, by simp, by simp⟩
/-- behind 'append(v, x)' -/
theorem OI.push {B : Nat} {w0 w w1 : World} {v v' : Value} {xs : List Int} {x : Int} {o : Obj} (hb : Below B w0 w) (hB : B ≤ w.heap.size) (hown : OI B w v xs)
    (hown' : w1.ownsRow B 3 1 v' (xs.length + 1) (xs.map (Value.int .i64) ++ [.int .i64 x])) (hg : (w.alloc o).grownBy w1 v.ownBlock) : OI B w1 v' (xs ++ [x]) ∧ Below B w0 w1 :=
  ⟨by simpa [OI] using hown', (hb.alloc hB o).grown hg (by simp; omega) (fun j hj => (World.ownsRow.lt hown j hj).1)⟩

/-! ### slices of bytes that the call itself has made -/
theorem info_byte : (Tryz.prog.info? 5).map (fun i => (i.zero, i.size, i.bytes)) = some (some (.int .u8 0), 1, 1) := by kernel_rfl
def OB (B : Nat) (w : World) (v : Value) (xs : List Int) : Prop := w.ownsRow B 5 1 v xs.length (xs.map (Value.int .u8))
theorem OB.nil (B : Nat) (w : World) : OB B w (.slice none 0 0) [] := World.ownsRow_nil _ _ _ _
theorem OB.push {B : Nat} {w0 w w1 : World} {v v' : Value} {xs : List Int} {x : Int} {o : Obj} (hb : Below B w0 w) (hB : B ≤ w.heap.size) (hown : OB B w v xs)
    (hown' : w1.ownsRow B 5 1 v' (xs.length + 1) (xs.map (Value.int .u8) ++ [.int .u8 x])) (hg : (w.alloc o).grownBy w1 v.ownBlock) : OB B w1 v' (xs ++ [x]) ∧ Below B w0 w1 :=
  ⟨by simpa [OB] using hown', (hb.alloc hB o).grown hg (by simp; omega) (fun j hj => (World.ownsRow.lt hown j hj).1)⟩
theorem OB.cell {B : Nat} {w : World} {g cap n : Nat} {xs : List Int} (h : OB B w (.slice (some ⟨g, 0, none⟩) n cap) xs) (hn : xs.length = n) (j : Nat) (hj : j < n) : w.cell? ⟨g, j, none⟩ = some (.int .u8 (nth xs j)) := by
  subst hn
  have hown : w.ownsRow B 5 1 (.slice (some ⟨g, 0, none⟩) xs.length cap) xs.length (xs.map (Value.int .u8)) := h
  rw [hown.cellAt j (by omega)]
  simp [nth_eq hj, hj]
/-- behind 'b[j] = x' -/
theorem OB.set {B : Nat} {w : World} {g cap n : Nat} {xs : List Int} (h : OB B w (.slice (some ⟨g, 0, none⟩) n cap) xs) (hn : xs.length = n) (j : Nat) (x : Int) :
    OB B (w.setCell ⟨g, j, none⟩ (.int .u8 x)) (.slice (some ⟨g, 0, none⟩) n cap) (xs.set j x) := by
  subst hn
  have hown : w.ownsRow B 5 1 (.slice (some ⟨g, 0, none⟩) xs.length cap) xs.length (xs.map (Value.int .u8)) := h
  have := (hown.stored j (.int .u8 x)).1
  rw [OB, List.length_set, List.map_set]
  exact this
theorem OB.frozen {B : Nat} {w : World} {g cap n : Nat} {xs : List Int} (h : OB B w (.slice (some ⟨g, 0, none⟩) n cap) xs) (hn : xs.length = n) (j : Nat) : w.frozen? ⟨g, j, none⟩ = false := by
  subst hn
  exact World.ownsRow.frozenAt h j
/-- 'string(b)' -/
theorem OB.string {B : Nat} {w : World} {g cap n : Nat} {xs : List Int} (h : OB B w (.slice (some ⟨g, 0, none⟩) n cap) xs) (hn : xs.length = n) :
    (convert 74 9 (.slice (some ⟨g, 0, none⟩) n cap)).run Tryz.prog w = .ok (.string (strOfNums xs)) w :=
  run_convert_bytes_arg w 74 5 Tryz.underlying74 Tryz.underlying5 g 0 n cap xs hn (fun i hi => by rw [Nat.zero_add]; exact h.cell hn i hi) 9 Tryz.underlying9

/-! ### a block of bytes, known whole -/


/-! ### strings -/
/-- the string s has the bytes l -/
def SB (s : ByteArray) (l : List UInt8) : Prop := s.data.toList = l
theorem SB.beq {s t : ByteArray} {l m : List UInt8} (hs : SB s l) (ht : SB t m) : (s.toList == t.toList) = decide (l = m) := by
  rw [ByteArray.toList_eq, ByteArray.toList_eq, hs, ht, Bool.eq_iff_iff]; simp
theorem SB.size {s : ByteArray} {l : List UInt8} (hs : SB s l) : s.size = l.length := by
  rw [← hs]; simp
theorem SB.get {s : ByteArray} {l : List UInt8} (hs : SB s l) (i : Nat) (h : i < s.size) (h' : i < l.length) : s[i] = l[i] := by
  subst hs; rfl
theorem SB.eq {s t : ByteArray} {l : List UInt8} (hs : SB s l) (ht : SB t l) : s = t := ByteArray.ext (Array.toList_inj.1 (hs.trans ht.symm))
theorem SB.append {s t : ByteArray} {l m : List UInt8} (hs : SB s l) (ht : SB t m) : SB (s ++ t) (l ++ m) := by
  rw [SB] at *; simp [hs, ht]
theorem SB.mk (l : List UInt8) : SB ⟨l.toArray⟩ l := rfl
end Go.Proofs.YtfmabjoindlfeaaGreat

namespace Go.Proofs.YtfmabjoindlfeaaGreat
open Go.RowKit

/-- the j-th of n bytes of v, the greatest first -/
def byteAt (v : Int) (n j : Nat) : Int := v / 2 ^ (8 * (n - 1 - j)) % 256
def putN (v : Int) (n k : Nat) : List Int := (List.range n).map (fun j => if n - k ≤ j then byteAt v n j else 0)

theorem putN_len (v : Int) (n k : Nat) : (putN v n k).length = n := by simp [putN]
theorem putN_zero (v : Int) (n : Nat) : putN v n 0 = List.replicate n 0 := by
  apply List.ext_getElem (by simp [putN])
  intro i h1 h2
  simp [putN] at h1
  simp [putN]; omega
theorem putN_set (v : Int) (n k : Nat) (hk : k < n) : (putN v n k).set (n - 1 - k) (byteAt v n (n - 1 - k)) = putN v n (k + 1) := by
  apply List.ext_getElem (by simp [putN])
  intro i h1 h2
  simp [putN] at h1
  rw [List.getElem_set]
  simp only [putN, List.getElem_map, List.getElem_range]
  by_cases e : n - 1 - k = i
  · subst e; rw [if_pos rfl, if_pos (by omega)]
  · rw [if_neg e]
    by_cases h : n - k ≤ i
    · rw [if_pos h, if_pos (by omega)]
    · rw [if_neg h, if_neg (by omega)]

/-- the number of some bytes -/
def getN (l : List UInt8) : Int := l.foldl (fun v b => v * 256 + b.toNat) 0

theorem getN_bound (l : List UInt8) : 0 ≤ getN l ∧ getN l < 256 ^ l.length := by
  unfold getN
  suffices h : ∀ (l : List UInt8) (a : Int) (m : Nat), 0 ≤ a → a < 256 ^ m → 0 ≤ l.foldl (fun v b => v * 256 + (b.toNat : Int)) a ∧ l.foldl (fun v b => v * 256 + (b.toNat : Int)) a < 256 ^ (m + l.length) by
    simpa using h l 0 0 (by omega) (by simp)
  intro l
  induction l with
  | nil => intro a m h0 h1; exact ⟨h0, by simpa using h1⟩
  | cons b l ih =>
    intro a m h0 h1
    have hb : b.toNat < 256 := UInt8.toNat_lt b
    have := ih (a * 256 + b.toNat) (m + 1) (by omega) (by rw [Int.pow_succ]; omega)
    simp only [List.foldl_cons, List.length_cons]
    rw [show m + (l.length + 1) = m + 1 + l.length by omega]
    exact this
theorem getN_snoc (l : List UInt8) (b : UInt8) : getN (l ++ [b]) = getN l * 256 + b.toNat := by simp [getN]

theorem wraps_i64 (n : Int) (h₀ : 0 ≤ n) (h₁ : n < 2 ^ 63) : IntKind.i64.wrap n = n := by rw [IntKind.wrap_i64]; omega
theorem or_shl8 (a b : Int) (h0 : 0 ≤ a) (h1 : a < 281474976710656) (h2 : 0 ≤ b) (h3 : b < 256) : bits .or .i64 (a * 256) (wrap64 b) = a * 256 + b := by
  have e2 : wrap64 b = b := by unfold wrap64; omega
  rw [e2]
  exact bits_join .i64 63 (by decide) wraps_i64 8 _ _ (by omega) (by omega) (by omega) h2 (by omega) (by omega)

theorem getN_take {s : ByteArray} {k : Nat} (h : k < s.size) : getN (s.data.toList.take (k + 1)) = getN (s.data.toList.take k) * 256 + s[k].toNat := by
  have h' : k < s.data.toList.length := by simpa using h
  rw [List.take_succ_eq_append_getElem h', getN_snoc]
  rfl


/-! ### digits -/




end Go.Proofs.YtfmabjoindlfeaaGreat
end

/- bedrockbook.Book: what it does with kinds of which it keeps no list. By an AI agent. -/
section
namespace Go.Proofs.YtfmabjoindlfeaaGreat
open Go.RowKit

theorem stillTexts_none (g : Nat) (w : World) (h : w.cell? ⟨g, 0, none⟩ = some (.slice none 0 0)) :
    Calls Tryz.prog 54 #[.pointer (some ⟨g, 0, none⟩)] w fun e w' => e = .returned (.bool true) ∧ w = w' := by
  go_enter Tryz.func54, Tryz.ntmps54
  go_wp2
  go_loop [3] (fun i => i = .int .i64 0) (fun _ => 0)
  case atStart => exact rfl
  case round =>
    subst hrel
    go_wp2
    go_ret
    exact ⟨rfl, rfl⟩
theorem putTexts_none (g : Nat) (w : World) (h : w.cell? ⟨g, 0, none⟩ = some (.slice none 0 0)) :
    Calls Tryz.prog 74 #[.pointer (some ⟨g, 0, none⟩)] w fun e w' => e = .returned (.tuple #[]) ∧ w = w' := by
  go_enter Tryz.func74, Tryz.ntmps74
  go_wp2
  go_loop [2] (fun i => i = .int .i64 0) (fun _ => 0)
  case atStart => exact rfl
  case round =>
    subst hrel
    go_wp2
    go_end0
    exact ⟨rfl, rfl⟩
theorem growTexts_none (g : Nat) (w : World) (h : w.cell? ⟨g, 0, none⟩ = some (.slice none 0 0)) :
    Calls Tryz.prog 84 #[.pointer (some ⟨g, 0, none⟩)] w fun e w' => e = .returned (.slice none 0 0) ∧ w = w' := by
  go_enter Tryz.func84, Tryz.ntmps84
  go_wp2
  go_loop [3, 4] (fun t i => t = .slice none 0 0 ∧ i = .int .i64 0) (fun _ _ => 0)
  case atStart => exact ⟨rfl, rfl⟩
  case round =>
    obtain ⟨rfl, rfl⟩ := hrel
    go_wp2
    go_ret
    exact ⟨rfl, rfl⟩
theorem markedTexts_none (w : World) :
    Calls Tryz.prog 99 #[.slice none 0 0] w fun e w' => e = .returned (.bool true) ∧ w = w' := by
  go_enter Tryz.func99, Tryz.ntmps99
  go_wp2
  go_loop [3] (fun i => i = .int .i64 0) (fun _ => 0)
  case atStart => exact rfl
  case round =>
    subst hrel
    go_wp2
    go_ret
    exact ⟨rfl, rfl⟩
theorem stillInts_none (g : Nat) (w : World) (h : w.cell? ⟨g, 2, none⟩ = some (.slice none 0 0)) :
    Calls Tryz.prog 55 #[.pointer (some ⟨g, 0, none⟩)] w fun e w' => e = .returned (.bool true) ∧ w = w' := by
  go_enter Tryz.func55, Tryz.ntmps55
  go_wp2
  go_loop [3] (fun i => i = .int .i64 0) (fun _ => 0)
  case atStart => exact rfl
  case round =>
    subst hrel
    go_wp2
    go_ret
    exact ⟨rfl, rfl⟩
theorem putInts_none (g : Nat) (w : World) (h : w.cell? ⟨g, 2, none⟩ = some (.slice none 0 0)) :
    Calls Tryz.prog 75 #[.pointer (some ⟨g, 0, none⟩)] w fun e w' => e = .returned (.tuple #[]) ∧ w = w' := by
  go_enter Tryz.func75, Tryz.ntmps75
  go_wp2
  go_loop [2] (fun i => i = .int .i64 0) (fun _ => 0)
  case atStart => exact rfl
  case round =>
    subst hrel
    go_wp2
    go_end0
    exact ⟨rfl, rfl⟩
theorem growInts_none (g : Nat) (w : World) (h : w.cell? ⟨g, 2, none⟩ = some (.slice none 0 0)) :
    Calls Tryz.prog 85 #[.pointer (some ⟨g, 0, none⟩)] w fun e w' => e = .returned (.slice none 0 0) ∧ w = w' := by
  go_enter Tryz.func85, Tryz.ntmps85
  go_wp2
  go_loop [3, 4] (fun t i => t = .slice none 0 0 ∧ i = .int .i64 0) (fun _ _ => 0)
  case atStart => exact ⟨rfl, rfl⟩
  case round =>
    obtain ⟨rfl, rfl⟩ := hrel
    go_wp2
    go_ret
    exact ⟨rfl, rfl⟩
theorem markedInts_none (w : World) :
    Calls Tryz.prog 100 #[.slice none 0 0] w fun e w' => e = .returned (.bool true) ∧ w = w' := by
  go_enter Tryz.func100, Tryz.ntmps100
  go_wp2
  go_loop [3] (fun i => i = .int .i64 0) (fun _ => 0)
  case atStart => exact rfl
  case round =>
    subst hrel
    go_wp2
    go_ret
    exact ⟨rfl, rfl⟩
theorem stillKeys_none (g : Nat) (w : World) (h : w.cell? ⟨g, 6, none⟩ = some (.slice none 0 0)) :
    Calls Tryz.prog 57 #[.pointer (some ⟨g, 0, none⟩)] w fun e w' => e = .returned (.bool true) ∧ w = w' := by
  go_enter Tryz.func57, Tryz.ntmps57
  go_wp2
  go_loop [3] (fun i => i = .int .i64 0) (fun _ => 0)
  case atStart => exact rfl
  case round =>
    subst hrel
    go_wp2
    go_ret
    exact ⟨rfl, rfl⟩
theorem putKeys_none (g : Nat) (w : World) (h : w.cell? ⟨g, 6, none⟩ = some (.slice none 0 0)) :
    Calls Tryz.prog 77 #[.pointer (some ⟨g, 0, none⟩)] w fun e w' => e = .returned (.tuple #[]) ∧ w = w' := by
  go_enter Tryz.func77, Tryz.ntmps77
  go_wp2
  go_loop [2] (fun i => i = .int .i64 0) (fun _ => 0)
  case atStart => exact rfl
  case round =>
    subst hrel
    go_wp2
    go_end0
    exact ⟨rfl, rfl⟩
theorem growKeys_none (g : Nat) (w : World) (h : w.cell? ⟨g, 6, none⟩ = some (.slice none 0 0)) :
    Calls Tryz.prog 87 #[.pointer (some ⟨g, 0, none⟩)] w fun e w' => e = .returned (.slice none 0 0) ∧ w = w' := by
  go_enter Tryz.func87, Tryz.ntmps87
  go_wp2
  go_loop [3, 4] (fun t i => t = .slice none 0 0 ∧ i = .int .i64 0) (fun _ _ => 0)
  case atStart => exact ⟨rfl, rfl⟩
  case round =>
    obtain ⟨rfl, rfl⟩ := hrel
    go_wp2
    go_ret
    exact ⟨rfl, rfl⟩
theorem markedKeys_none (w : World) :
    Calls Tryz.prog 102 #[.slice none 0 0] w fun e w' => e = .returned (.bool true) ∧ w = w' := by
  go_enter Tryz.func102, Tryz.ntmps102
  go_wp2
  go_loop [3] (fun i => i = .int .i64 0) (fun _ => 0)
  case atStart => exact rfl
  case round =>
    subst hrel
    go_wp2
    go_ret
    exact ⟨rfl, rfl⟩
theorem stillPairs_none (g : Nat) (w : World) (h : w.cell? ⟨g, 8, none⟩ = some (.slice none 0 0)) :
    Calls Tryz.prog 58 #[.pointer (some ⟨g, 0, none⟩)] w fun e w' => e = .returned (.bool true) ∧ w = w' := by
  go_enter Tryz.func58, Tryz.ntmps58
  go_wp2
  go_loop [3] (fun i => i = .int .i64 0) (fun _ => 0)
  case atStart => exact rfl
  case round =>
    subst hrel
    go_wp2
    go_ret
    exact ⟨rfl, rfl⟩
theorem putPairs_none (g : Nat) (w : World) (h : w.cell? ⟨g, 8, none⟩ = some (.slice none 0 0)) :
    Calls Tryz.prog 78 #[.pointer (some ⟨g, 0, none⟩)] w fun e w' => e = .returned (.tuple #[]) ∧ w = w' := by
  go_enter Tryz.func78, Tryz.ntmps78
  go_wp2
  go_loop [2] (fun i => i = .int .i64 0) (fun _ => 0)
  case atStart => exact rfl
  case round =>
    subst hrel
    go_wp2
    go_end0
    exact ⟨rfl, rfl⟩
theorem growPairs_none (g : Nat) (w : World) (h : w.cell? ⟨g, 8, none⟩ = some (.slice none 0 0)) :
    Calls Tryz.prog 88 #[.pointer (some ⟨g, 0, none⟩)] w fun e w' => e = .returned (.slice none 0 0) ∧ w = w' := by
  go_enter Tryz.func88, Tryz.ntmps88
  go_wp2
  go_loop [3, 4] (fun t i => t = .slice none 0 0 ∧ i = .int .i64 0) (fun _ _ => 0)
  case atStart => exact ⟨rfl, rfl⟩
  case round =>
    obtain ⟨rfl, rfl⟩ := hrel
    go_wp2
    go_ret
    exact ⟨rfl, rfl⟩
theorem markedPairs_none (w : World) :
    Calls Tryz.prog 103 #[.slice none 0 0] w fun e w' => e = .returned (.bool true) ∧ w = w' := by
  go_enter Tryz.func103, Tryz.ntmps103
  go_wp2
  go_loop [3] (fun i => i = .int .i64 0) (fun _ => 0)
  case atStart => exact rfl
  case round =>
    subst hrel
    go_wp2
    go_ret
    exact ⟨rfl, rfl⟩
theorem stillTxns_none (g : Nat) (w : World) (h : w.cell? ⟨g, 14, none⟩ = some (.slice none 0 0)) :
    Calls Tryz.prog 61 #[.pointer (some ⟨g, 0, none⟩)] w fun e w' => e = .returned (.bool true) ∧ w = w' := by
  go_enter Tryz.func61, Tryz.ntmps61
  go_wp2
  go_loop [3] (fun i => i = .int .i64 0) (fun _ => 0)
  case atStart => exact rfl
  case round =>
    subst hrel
    go_wp2
    go_ret
    exact ⟨rfl, rfl⟩
theorem putTxns_none (g : Nat) (w : World) (h : w.cell? ⟨g, 14, none⟩ = some (.slice none 0 0)) :
    Calls Tryz.prog 70 #[.pointer (some ⟨g, 0, none⟩)] w fun e w' => e = .returned (.tuple #[]) ∧ w = w' := by
  go_enter Tryz.func70, Tryz.ntmps70
  go_wp2
  go_loop [2] (fun i => i = .int .i64 0) (fun _ => 0)
  case atStart => exact rfl
  case round =>
    subst hrel
    go_wp2
    go_end0
    exact ⟨rfl, rfl⟩
theorem growTxns_none (g : Nat) (w : World) (h : w.cell? ⟨g, 14, none⟩ = some (.slice none 0 0)) :
    Calls Tryz.prog 91 #[.pointer (some ⟨g, 0, none⟩)] w fun e w' => e = .returned (.slice none 0 0) ∧ w = w' := by
  go_enter Tryz.func91, Tryz.ntmps91
  go_wp2
  go_loop [3, 4] (fun t i => t = .slice none 0 0 ∧ i = .int .i64 0) (fun _ _ => 0)
  case atStart => exact ⟨rfl, rfl⟩
  case round =>
    obtain ⟨rfl, rfl⟩ := hrel
    go_wp2
    go_ret
    exact ⟨rfl, rfl⟩
theorem markedTxns_none (w : World) :
    Calls Tryz.prog 106 #[.slice none 0 0] w fun e w' => e = .returned (.bool true) ∧ w = w' := by
  go_enter Tryz.func106, Tryz.ntmps106
  go_wp2
  go_loop [3] (fun i => i = .int .i64 0) (fun _ => 0)
  case atStart => exact rfl
  case round =>
    subst hrel
    go_wp2
    go_ret
    exact ⟨rfl, rfl⟩
theorem stillFiles_none (g : Nat) (w : World) (h : w.cell? ⟨g, 16, none⟩ = some (.slice none 0 0)) :
    Calls Tryz.prog 62 #[.pointer (some ⟨g, 0, none⟩)] w fun e w' => e = .returned (.bool true) ∧ w = w' := by
  go_enter Tryz.func62, Tryz.ntmps62
  go_wp2
  go_loop [3] (fun i => i = .int .i64 0) (fun _ => 0)
  case atStart => exact rfl
  case round =>
    subst hrel
    go_wp2
    go_ret
    exact ⟨rfl, rfl⟩
theorem putFiles_none (g : Nat) (w : World) (h : w.cell? ⟨g, 16, none⟩ = some (.slice none 0 0)) :
    Calls Tryz.prog 80 #[.pointer (some ⟨g, 0, none⟩)] w fun e w' => e = .returned (.tuple #[]) ∧ w = w' := by
  go_enter Tryz.func80, Tryz.ntmps80
  go_wp2
  go_loop [2] (fun i => i = .int .i64 0) (fun _ => 0)
  case atStart => exact rfl
  case round =>
    subst hrel
    go_wp2
    go_end0
    exact ⟨rfl, rfl⟩
theorem growFiles_none (g : Nat) (w : World) (h : w.cell? ⟨g, 16, none⟩ = some (.slice none 0 0)) :
    Calls Tryz.prog 92 #[.pointer (some ⟨g, 0, none⟩)] w fun e w' => e = .returned (.slice none 0 0) ∧ w = w' := by
  go_enter Tryz.func92, Tryz.ntmps92
  go_wp2
  go_loop [3, 4] (fun t i => t = .slice none 0 0 ∧ i = .int .i64 0) (fun _ _ => 0)
  case atStart => exact ⟨rfl, rfl⟩
  case round =>
    obtain ⟨rfl, rfl⟩ := hrel
    go_wp2
    go_ret
    exact ⟨rfl, rfl⟩
theorem markedFiles_none (w : World) :
    Calls Tryz.prog 107 #[.slice none 0 0] w fun e w' => e = .returned (.bool true) ∧ w = w' := by
  go_enter Tryz.func107, Tryz.ntmps107
  go_wp2
  go_loop [3] (fun i => i = .int .i64 0) (fun _ => 0)
  case atStart => exact rfl
  case round =>
    subst hrel
    go_wp2
    go_ret
    exact ⟨rfl, rfl⟩
theorem stillNotes_none (g : Nat) (w : World) (h : w.cell? ⟨g, 18, none⟩ = some (.slice none 0 0)) :
    Calls Tryz.prog 63 #[.pointer (some ⟨g, 0, none⟩)] w fun e w' => e = .returned (.bool true) ∧ w = w' := by
  go_enter Tryz.func63, Tryz.ntmps63
  go_wp2
  go_loop [3] (fun i => i = .int .i64 0) (fun _ => 0)
  case atStart => exact rfl
  case round =>
    subst hrel
    go_wp2
    go_ret
    exact ⟨rfl, rfl⟩
theorem putNotes_none (g : Nat) (w : World) (h : w.cell? ⟨g, 18, none⟩ = some (.slice none 0 0)) :
    Calls Tryz.prog 81 #[.pointer (some ⟨g, 0, none⟩)] w fun e w' => e = .returned (.tuple #[]) ∧ w = w' := by
  go_enter Tryz.func81, Tryz.ntmps81
  go_wp2
  go_loop [2] (fun i => i = .int .i64 0) (fun _ => 0)
  case atStart => exact rfl
  case round =>
    subst hrel
    go_wp2
    go_end0
    exact ⟨rfl, rfl⟩
theorem growNotes_none (g : Nat) (w : World) (h : w.cell? ⟨g, 18, none⟩ = some (.slice none 0 0)) :
    Calls Tryz.prog 93 #[.pointer (some ⟨g, 0, none⟩)] w fun e w' => e = .returned (.slice none 0 0) ∧ w = w' := by
  go_enter Tryz.func93, Tryz.ntmps93
  go_wp2
  go_loop [3, 4] (fun t i => t = .slice none 0 0 ∧ i = .int .i64 0) (fun _ _ => 0)
  case atStart => exact ⟨rfl, rfl⟩
  case round =>
    obtain ⟨rfl, rfl⟩ := hrel
    go_wp2
    go_ret
    exact ⟨rfl, rfl⟩
theorem markedNotes_none (w : World) :
    Calls Tryz.prog 108 #[.slice none 0 0] w fun e w' => e = .returned (.bool true) ∧ w = w' := by
  go_enter Tryz.func108, Tryz.ntmps108
  go_wp2
  go_loop [3] (fun i => i = .int .i64 0) (fun _ => 0)
  case atStart => exact rfl
  case round =>
    subst hrel
    go_wp2
    go_ret
    exact ⟨rfl, rfl⟩
theorem stillLeases_none (g : Nat) (w : World) (h : w.cell? ⟨g, 20, none⟩ = some (.slice none 0 0)) :
    Calls Tryz.prog 64 #[.pointer (some ⟨g, 0, none⟩)] w fun e w' => e = .returned (.bool true) ∧ w = w' := by
  go_enter Tryz.func64, Tryz.ntmps64
  go_wp2
  go_loop [3] (fun i => i = .int .i64 0) (fun _ => 0)
  case atStart => exact rfl
  case round =>
    subst hrel
    go_wp2
    go_ret
    exact ⟨rfl, rfl⟩
theorem putLeases_none (g : Nat) (w : World) (h : w.cell? ⟨g, 20, none⟩ = some (.slice none 0 0)) :
    Calls Tryz.prog 71 #[.pointer (some ⟨g, 0, none⟩)] w fun e w' => e = .returned (.tuple #[]) ∧ w = w' := by
  go_enter Tryz.func71, Tryz.ntmps71
  go_wp2
  go_loop [2] (fun i => i = .int .i64 0) (fun _ => 0)
  case atStart => exact rfl
  case round =>
    subst hrel
    go_wp2
    go_end0
    exact ⟨rfl, rfl⟩
theorem growLeases_none (g : Nat) (w : World) (h : w.cell? ⟨g, 20, none⟩ = some (.slice none 0 0)) :
    Calls Tryz.prog 94 #[.pointer (some ⟨g, 0, none⟩)] w fun e w' => e = .returned (.slice none 0 0) ∧ w = w' := by
  go_enter Tryz.func94, Tryz.ntmps94
  go_wp2
  go_loop [3, 4] (fun t i => t = .slice none 0 0 ∧ i = .int .i64 0) (fun _ _ => 0)
  case atStart => exact ⟨rfl, rfl⟩
  case round =>
    obtain ⟨rfl, rfl⟩ := hrel
    go_wp2
    go_ret
    exact ⟨rfl, rfl⟩
theorem markedLeases_none (w : World) :
    Calls Tryz.prog 109 #[.slice none 0 0] w fun e w' => e = .returned (.bool true) ∧ w = w' := by
  go_enter Tryz.func109, Tryz.ntmps109
  go_wp2
  go_loop [3] (fun i => i = .int .i64 0) (fun _ => 0)
  case atStart => exact rfl
  case round =>
    subst hrel
    go_wp2
    go_ret
    exact ⟨rfl, rfl⟩
theorem stillLetters_none (g : Nat) (w : World) (h : w.cell? ⟨g, 22, none⟩ = some (.slice none 0 0)) :
    Calls Tryz.prog 65 #[.pointer (some ⟨g, 0, none⟩)] w fun e w' => e = .returned (.bool true) ∧ w = w' := by
  go_enter Tryz.func65, Tryz.ntmps65
  go_wp2
  go_loop [3] (fun i => i = .int .i64 0) (fun _ => 0)
  case atStart => exact rfl
  case round =>
    subst hrel
    go_wp2
    go_ret
    exact ⟨rfl, rfl⟩
theorem putLetters_none (g : Nat) (w : World) (h : w.cell? ⟨g, 22, none⟩ = some (.slice none 0 0)) :
    Calls Tryz.prog 82 #[.pointer (some ⟨g, 0, none⟩)] w fun e w' => e = .returned (.tuple #[]) ∧ w = w' := by
  go_enter Tryz.func82, Tryz.ntmps82
  go_wp2
  go_loop [2] (fun i => i = .int .i64 0) (fun _ => 0)
  case atStart => exact rfl
  case round =>
    subst hrel
    go_wp2
    go_end0
    exact ⟨rfl, rfl⟩
theorem growLetters_none (g : Nat) (w : World) (h : w.cell? ⟨g, 22, none⟩ = some (.slice none 0 0)) :
    Calls Tryz.prog 95 #[.pointer (some ⟨g, 0, none⟩)] w fun e w' => e = .returned (.slice none 0 0) ∧ w = w' := by
  go_enter Tryz.func95, Tryz.ntmps95
  go_wp2
  go_loop [3, 4] (fun t i => t = .slice none 0 0 ∧ i = .int .i64 0) (fun _ _ => 0)
  case atStart => exact ⟨rfl, rfl⟩
  case round =>
    obtain ⟨rfl, rfl⟩ := hrel
    go_wp2
    go_ret
    exact ⟨rfl, rfl⟩
theorem markedLetters_none (w : World) :
    Calls Tryz.prog 110 #[.slice none 0 0] w fun e w' => e = .returned (.bool true) ∧ w = w' := by
  go_enter Tryz.func110, Tryz.ntmps110
  go_wp2
  go_loop [3] (fun i => i = .int .i64 0) (fun _ => 0)
  case atStart => exact rfl
  case round =>
    subst hrel
    go_wp2
    go_ret
    exact ⟨rfl, rfl⟩
theorem stillSteps_none (g : Nat) (w : World) (h : w.cell? ⟨g, 24, none⟩ = some (.slice none 0 0)) :
    Calls Tryz.prog 66 #[.pointer (some ⟨g, 0, none⟩)] w fun e w' => e = .returned (.bool true) ∧ w = w' := by
  go_enter Tryz.func66, Tryz.ntmps66
  go_wp2
  go_loop [3] (fun i => i = .int .i64 0) (fun _ => 0)
  case atStart => exact rfl
  case round =>
    subst hrel
    go_wp2
    go_ret
    exact ⟨rfl, rfl⟩
theorem putSteps_none (g : Nat) (w : World) (h : w.cell? ⟨g, 24, none⟩ = some (.slice none 0 0)) :
    Calls Tryz.prog 72 #[.pointer (some ⟨g, 0, none⟩)] w fun e w' => e = .returned (.tuple #[]) ∧ w = w' := by
  go_enter Tryz.func72, Tryz.ntmps72
  go_wp2
  go_loop [2] (fun i => i = .int .i64 0) (fun _ => 0)
  case atStart => exact rfl
  case round =>
    subst hrel
    go_wp2
    go_end0
    exact ⟨rfl, rfl⟩
theorem growSteps_none (g : Nat) (w : World) (h : w.cell? ⟨g, 24, none⟩ = some (.slice none 0 0)) :
    Calls Tryz.prog 96 #[.pointer (some ⟨g, 0, none⟩)] w fun e w' => e = .returned (.slice none 0 0) ∧ w = w' := by
  go_enter Tryz.func96, Tryz.ntmps96
  go_wp2
  go_loop [3, 4] (fun t i => t = .slice none 0 0 ∧ i = .int .i64 0) (fun _ _ => 0)
  case atStart => exact ⟨rfl, rfl⟩
  case round =>
    obtain ⟨rfl, rfl⟩ := hrel
    go_wp2
    go_ret
    exact ⟨rfl, rfl⟩
theorem markedSteps_none (w : World) :
    Calls Tryz.prog 111 #[.slice none 0 0] w fun e w' => e = .returned (.bool true) ∧ w = w' := by
  go_enter Tryz.func111, Tryz.ntmps111
  go_wp2
  go_loop [3] (fun i => i = .int .i64 0) (fun _ => 0)
  case atStart => exact rfl
  case round =>
    subst hrel
    go_wp2
    go_ret
    exact ⟨rfl, rfl⟩
theorem stillReals_none (g : Nat) (w : World) (h : w.cell? ⟨g, 26, none⟩ = some (.slice none 0 0)) :
    Calls Tryz.prog 67 #[.pointer (some ⟨g, 0, none⟩)] w fun e w' => e = .returned (.bool true) ∧ w = w' := by
  go_enter Tryz.func67, Tryz.ntmps67
  go_wp2
  go_loop [3] (fun i => i = .int .i64 0) (fun _ => 0)
  case atStart => exact rfl
  case round =>
    subst hrel
    go_wp2
    go_ret
    exact ⟨rfl, rfl⟩
theorem putReals_none (g : Nat) (w : World) (h : w.cell? ⟨g, 26, none⟩ = some (.slice none 0 0)) :
    Calls Tryz.prog 83 #[.pointer (some ⟨g, 0, none⟩)] w fun e w' => e = .returned (.tuple #[]) ∧ w = w' := by
  go_enter Tryz.func83, Tryz.ntmps83
  go_wp2
  go_loop [2] (fun i => i = .int .i64 0) (fun _ => 0)
  case atStart => exact rfl
  case round =>
    subst hrel
    go_wp2
    go_end0
    exact ⟨rfl, rfl⟩
theorem growReals_none (g : Nat) (w : World) (h : w.cell? ⟨g, 26, none⟩ = some (.slice none 0 0)) :
    Calls Tryz.prog 97 #[.pointer (some ⟨g, 0, none⟩)] w fun e w' => e = .returned (.slice none 0 0) ∧ w = w' := by
  go_enter Tryz.func97, Tryz.ntmps97
  go_wp2
  go_loop [3, 4] (fun t i => t = .slice none 0 0 ∧ i = .int .i64 0) (fun _ _ => 0)
  case atStart => exact ⟨rfl, rfl⟩
  case round =>
    obtain ⟨rfl, rfl⟩ := hrel
    go_wp2
    go_ret
    exact ⟨rfl, rfl⟩
theorem markedReals_none (w : World) :
    Calls Tryz.prog 112 #[.slice none 0 0] w fun e w' => e = .returned (.bool true) ∧ w = w' := by
  go_enter Tryz.func112, Tryz.ntmps112
  go_wp2
  go_loop [3] (fun i => i = .int .i64 0) (fun _ => 0)
  case atStart => exact rfl
  case round =>
    subst hrel
    go_wp2
    go_ret
    exact ⟨rfl, rfl⟩
theorem stillLists_none (g : Nat) (w : World) (h : w.cell? ⟨g, 28, none⟩ = some (.slice none 0 0)) :
    Calls Tryz.prog 68 #[.pointer (some ⟨g, 0, none⟩)] w fun e w' => e = .returned (.bool true) ∧ w = w' := by
  go_enter Tryz.func68, Tryz.ntmps68
  go_wp2
  go_loop [3] (fun i => i = .int .i64 0) (fun _ => 0)
  case atStart => exact rfl
  case round =>
    subst hrel
    go_wp2
    go_ret
    exact ⟨rfl, rfl⟩
theorem putLists_none (g : Nat) (w : World) (h : w.cell? ⟨g, 28, none⟩ = some (.slice none 0 0)) :
    Calls Tryz.prog 73 #[.pointer (some ⟨g, 0, none⟩)] w fun e w' => e = .returned (.tuple #[]) ∧ w = w' := by
  go_enter Tryz.func73, Tryz.ntmps73
  go_wp2
  go_loop [2] (fun i => i = .int .i64 0) (fun _ => 0)
  case atStart => exact rfl
  case round =>
    subst hrel
    go_wp2
    go_end0
    exact ⟨rfl, rfl⟩
theorem growLists_none (g : Nat) (w : World) (h : w.cell? ⟨g, 28, none⟩ = some (.slice none 0 0)) :
    Calls Tryz.prog 98 #[.pointer (some ⟨g, 0, none⟩)] w fun e w' => e = .returned (.slice none 0 0) ∧ w = w' := by
  go_enter Tryz.func98, Tryz.ntmps98
  go_wp2
  go_loop [3, 4] (fun t i => t = .slice none 0 0 ∧ i = .int .i64 0) (fun _ _ => 0)
  case atStart => exact ⟨rfl, rfl⟩
  case round =>
    obtain ⟨rfl, rfl⟩ := hrel
    go_wp2
    go_ret
    exact ⟨rfl, rfl⟩
theorem markedLists_none (w : World) :
    Calls Tryz.prog 113 #[.slice none 0 0] w fun e w' => e = .returned (.bool true) ∧ w = w' := by
  go_enter Tryz.func113, Tryz.ntmps113
  go_wp2
  go_loop [3] (fun i => i = .int .i64 0) (fun _ => 0)
  case atStart => exact rfl
  case round =>
    subst hrel
    go_wp2
    go_ret
    exact ⟨rfl, rfl⟩
end Go.Proofs.YtfmabjoindlfeaaGreat
end

/- Regions that draw their order and whose calls make memory: an operation that tells the same in every world that goes on from the region's first one, and only goes on from the world that it got, may be taken first. · Regions that draw their order: the operations that may be taken first, named by their numbers. By an AI agent. -/
section
namespace Go.Proofs.YtfmabjoindlfeaaGreat
open Go.RowKit

/-- a world of a class -/
def ExtC (C : World → Prop) : Type := { w' : World // C w' }
def ExtC.at {C : World → Prop} (n : ExtC C) : World := n.val
theorem ExtC.ok {C : World → Prop} (n : ExtC C) : C n.at := n.property
/-- a world that goes on from w -/
abbrev Ext (w : World) : Type := ExtC (Bl w)
theorem ExtC.bl {w : World} (n : Ext w) : Bl w n.at := n.property
instance (w : World) : Nonempty (Ext w) := ⟨⟨w, Bl.refl w⟩⟩

section
variable {P : Program} {ops : Array Oper} {md : Region.Mode} {C : World → Prop}

/-- what is asked of an operation: it returns -/
def eUpon (P : Program) (o : Oper) (a : Act) (K : Act → World → Prop) : Result Next → Prop
  | .ok (.value u) w' => K (a.put o.dst u) w'
  | .ok .skip w' => K (a.put o.dst undef) w'
  | .ok (.enter f args) w' => Calls P f args w' (fun e w'' => ∃ v, e = .returned v ∧ K (a.put o.dst v) w'')
  | _ => False
def eOper (P : Program) (o : Oper) (a : Act) (w : World) (K : Act → World → Prop) : Prop := eUpon P o a K ((execOp a.eval o).run P w)
def eOp (P : Program) (ops : Array Oper) (i : Nat) (K : Act → World → Prop) (a : Act) (w : World) : Prop :=
  match ops[i]? with
  | none => K a w
  | some o => if Region.wanted o (yielded ops a.tmps) then eOper P o a w K else K (a.put o.dst undef) w

theorem eUpon_mono {o : Oper} {a : Act} {K K' : Act → World → Prop} (h : ∀ a w, K a w → K' a w) {r : Result Next} (hh : eUpon P o a K r) : eUpon P o a K' r := by
  cases r with
  | ok n w' =>
    cases n <;> simp only [eUpon] at hh ⊢
    case value u => exact h _ _ hh
    case skip => exact h _ _ hh
    case enter f args => exact hh.mono fun e w'' ⟨v, he, hk⟩ => ⟨v, he, h _ _ hk⟩
  | halt x w' => simp only [eUpon] at hh
theorem eOp_mono {i : Nat} {a : Act} {w : World} {K K' : Act → World → Prop} (h : ∀ a w, K a w → K' a w) (hh : eOp P ops i K a w) : eOp P ops i K' a w := by
  unfold eOp at *
  split
  · exact h _ _ (by simpa [*] using hh)
  · rename_i o ho
    simp only [ho] at hh
    split
    · rename_i hw; simp only [hw, if_true] at hh; exact eUpon_mono h hh
    · rename_i hw; simp only [hw] at hh; exact h _ _ hh
theorem wpOp_of_eOp {i : Nat} {a : Act} {w : World} {K : Act → World → Prop} {Q : Exit → Act → World → Prop} (hh : eOp P ops i K a w) : wpOp P ops Q i K a w := by
  unfold eOp at hh
  unfold wpOp
  split
  · rename_i ho; simp only [ho] at hh; exact hh
  · rename_i o ho
    simp only [ho] at hh
    split
    · rename_i hw
      simp only [hw, if_true] at hh
      refine .inl ?_
      unfold eOper at hh
      unfold Oper.wp
      generalize (execOp a.eval o).run P w = r at *
      cases r with
      | ok n w' =>
        cases n <;> simp only [eUpon] at hh <;> simp only [Oper.upon]
        case value u => exact hh
        case skip => exact hh
        case enter f args => exact hh.mono fun e w'' ⟨v, he, hk⟩ => by subst he; exact hk
      | halt x w' => simp only [eUpon] at hh
    · rename_i hw; simp only [hw] at hh; exact hh

/-- whatever order is picked from here on, and whatever is laid behind meanwhile -/
def wpAnyE (P : Program) (md : Region.Mode) (ops : Array Oper) (C : World → Prop) (Q : Act → World → Prop) : Nat → Array Bool → Act → World → Prop
  | 0, listed, a, w => Region.ready md ops listed = [] ∧ ∀ w', Bl w w' → Q a w'
  | fuel + 1, listed, a, w =>
    (Region.ready md ops listed = [] → ∀ w', Bl w w' → Q a w') ∧
    ∀ i ∈ Region.ready md ops listed, ∀ w', Bl w w' → eOp P ops i (fun a'' w'' => C w'' ∧ wpAnyE P md ops C Q fuel (listed.setIfInBounds i true) a'' w'') a w'

theorem wpAnyE_ext {Q : Act → World → Prop} : ∀ {fuel : Nat} {listed : Array Bool} {a : Act} {w w' : World}, Bl w w' → wpAnyE P md ops C Q fuel listed a w → wpAnyE P md ops C Q fuel listed a w'
  | 0, _, _, _, _, hb, h => ⟨h.1, fun w'' h2 => h.2 w'' (hb.trans h2)⟩
  | _ + 1, _, _, _, _, hb, h => ⟨fun h0 w'' h2 => h.1 h0 w'' (hb.trans h2), fun i hi w'' h2 => h.2 i hi w'' (hb.trans h2)⟩
theorem wpAny_of_E {Q : Act → World → Prop} {Q' : Exit → Act → World → Prop} (hQ : ∀ a w, Q a w → Q' .normal a w) : ∀ (fuel : Nat) (listed : Array Bool) (a : Act) (w : World),
    wpAnyE P md ops C Q fuel listed a w → wpAny P md ops Q' fuel listed a w
  | 0, _, _, _, h => ⟨h.1, hQ _ _ (h.2 _ (Bl.refl _))⟩
  | fuel + 1, _, _, _, h => ⟨fun h0 => hQ _ _ (h.1 h0 _ (Bl.refl _)), fun i hi => wpOp_mono (fun _ _ k => wpAny_of_E hQ fuel _ _ _ k.2) (wpOp_of_eOp (h.2 i hi _ (Bl.refl _)))⟩

/-- in every world that goes on from C the operation yields v and goes on from the world that it got -/
def YE (P : Program) (ops : Array Oper) (C : World → Prop) (o : Oper) (v : Value) (a : Act) : Prop :=
  (Region.wanted o (yielded ops a.tmps) = true ∧ ∀ w, C w → o.quietAt P a (fun w'' => Bl w w'') w v) ∨
  (Region.wanted o (yielded ops a.tmps) = false ∧ v = undef)
theorem YE.of_same {o : Oper} {v : Value} {a a' : Act} (hy : YE P ops C o v a) (he : execOp a'.eval o = execOp a.eval o)
    (hw : Region.wanted o (yielded ops a'.tmps) = Region.wanted o (yielded ops a.tmps)) : YE P ops C o v a' := by
  unfold YE Oper.quietAt at *
  rw [he, hw]
  exact hy
theorem YE.eOp {i : Nat} {o : Oper} {v : Value} {a : Act} {w : World} (hi : ops[i]? = some o) (hy : YE P ops C o v a) (hw0 : C w) {K : Act → World → Prop} (h : ∀ w', Bl w w' → K (a.put o.dst v) w') : eOp P ops i K a w := by
  unfold Go.Proofs.YtfmabjoindlfeaaGreat.eOp
  simp only [hi]
  rcases hy with ⟨hw, hv⟩ | ⟨hw, rfl⟩
  · simp only [hw, if_true]
    have h3 := hv w hw0
    unfold Oper.quietAt at h3
    unfold eOper
    generalize (execOp a.eval o).run P w = r at *
    cases r with
    | ok n w' =>
      cases n <;> simp only [Oper.quietUpon] at h3 <;> simp only [eUpon]
      case value u =>
        obtain ⟨e1, e2⟩ := h3
        rw [e1, e2]; exact h _ (Bl.refl _)
      case skip =>
        obtain ⟨e1, e2⟩ := h3
        rw [e1, ← e2]; exact h _ (Bl.refl _)
      case enter f args =>
        obtain ⟨e1, hc⟩ := h3
        rw [e1]
        exact hc.mono fun e w'' ⟨he, hb⟩ => ⟨v, he, h _ hb⟩
    | halt x w' => simp only [Oper.quietUpon] at h3
  · simp only [hw, Bool.false_eq_true, if_false]; exact h _ (Bl.refl _)

/-- one operation, apart from another one whose value may be there already or not -/
theorem eOp_put {j : Nat} {oi oj : Oper} {v : Value} (hj : ops[j]? = some oj) (hap : oi.apart ops oj = true)
    (hsi : ∀ cs b, oi.op ≠ .select cs b) (hsj : ∀ cs b, oj.op ≠ .select cs b) {K : Act → World → Prop} {a : Act} {w : World}
    (hy : YE P ops C oi v a) (h : eOp P ops j K (a.put oi.dst v) w) :
    eOp P ops j (fun a' w' => YE P ops C oi v a' ∧ K (a'.put oi.dst v) w') a w := by
  obtain ⟨h1, h2, h3⟩ := Oper.apart_spec hap
  have keep : ∀ (a : Act), YE P ops C oi v a → ∀ u, YE P ops C oi v (a.put oj.dst u) := fun a hy u =>
    hy.of_same (execOp_put oi hsi a oj.dst u h3) (wanted_put oi a oj.dst u h3)
  unfold Go.Proofs.YtfmabjoindlfeaaGreat.eOp at *
  simp only [hj] at *
  rw [wanted_put oj a oi.dst v h1] at h
  split
  · rename_i hw
    simp only [hw, if_true] at h
    unfold eOper at *
    rw [execOp_put oj hsj a oi.dst v h1] at h
    generalize (execOp a.eval oj).run P w = r at *
    cases r with
    | ok n w' =>
      cases n <;> simp only [eUpon] at h ⊢
      case value u => exact ⟨keep a hy u, by rw [← Act.put_comm a v u h2]; exact h⟩
      case skip => exact ⟨keep a hy _, by rw [← Act.put_comm a v undef h2]; exact h⟩
      case enter f args => exact h.mono fun e w'' ⟨u, he, hk⟩ => ⟨u, he, keep a hy u, by rw [← Act.put_comm a v u h2]; exact hk⟩
    | halt x w' => simp only [eUpon] at h
  · rename_i hw
    simp only [hw] at h
    exact ⟨keep a hy _, by rw [← Act.put_comm a v undef h2]; exact h⟩

theorem wpAnyE_first (hcl : ∀ w w', C w → Bl w w' → C w') {Q : Act → World → Prop} {i : Nat} {oi : Oper} {v : Value} (hi : ops[i]? = some oi) (hsel : ∀ (j : Nat) (o : Oper) cs b, ops[j]? = some o → o.op ≠ .select cs b) :
    ∀ (fuel : Nat) (listed : Array Bool) (a : Act) (w : World), C w →
      (∀ j oj, ops[j]? = some oj → j ≠ i → listed.getD j true = false → (∀ e ∈ oj.after, Region.binds md e = true → e.on ≠ i) → oi.apart ops oj = true) →
      i ∈ Region.ready md ops listed → YE P ops C oi v a →
      wpAnyE P md ops C Q fuel (listed.setIfInBounds i true) (a.put oi.dst v) w → wpAnyE P md ops C Q (fuel + 1) listed a w := by
  intro fuel
  induction fuel with
  | zero =>
    intro listed a w hb _ hr hy H
    refine ⟨fun h => (by rw [h] at hr; cases hr), fun j hj w' hb' => ?_⟩
    by_cases hji : j = i
    · subst hji; exact hy.eOp hi (hcl _ _ hb hb') fun w'' hb'' => ⟨hcl _ _ hb (hb'.trans hb''), wpAnyE_ext (hb'.trans hb'') H⟩
    · have := ready_mono hj hji
      rw [H.1] at this
      cases this
  | succ fuel ih =>
    intro listed a w hb hfree hr hy H
    refine ⟨fun h => (by rw [h] at hr; cases hr), fun j hj w' hb' => ?_⟩
    by_cases hji : j = i
    · subst hji; exact hy.eOp hi (hcl _ _ hb hb') fun w'' hb'' => ⟨hcl _ _ hb (hb'.trans hb''), wpAnyE_ext (hb'.trans hb'') H⟩
    · have h1 := H.2 j (ready_mono hj hji) w' hb'
      obtain ⟨hjun, oj, hoj, hall⟩ := mem_ready.1 hj
      have hnot : ∀ e ∈ oj.after, Region.binds md e = true → e.on ≠ i := fun e he hb heq => by
        have h1 := hall e he hb
        have h0 := (mem_ready.1 hr).1
        rw [heq] at h1
        rcases Nat.lt_or_ge i listed.size with h' | h'
        · simp [h'] at h0 h1; rw [h0] at h1; cases h1
        · simp [Array.getElem?_eq_none h'] at h1
      have h2 := eOp_put hoj (hfree j oj hoj hji hjun hnot) (fun cs b => hsel i oi cs b hi) (fun cs b => hsel j oj cs b hoj) hy h1
      have hfree' : ∀ k ok, ops[k]? = some ok → k ≠ i → (listed.setIfInBounds j true).getD k true = false →
          (∀ e ∈ ok.after, Region.binds md e = true → e.on ≠ i) → oi.apart ops ok = true := fun k ok hk hki hun hno => by
        refine hfree k ok hk hki ?_ hno
        by_cases hjk : j = k
        · subst hjk; exact hjun
        · rw [getD_set_ne true hjk] at hun; exact hun
      refine eOp_mono (fun a' w'' h3 => ⟨h3.2.1, ih (listed.setIfInBounds j true) a' w'' h3.2.1 hfree' (ready_mono hr (Ne.symm hji)) h3.1 ?_⟩) h2
      rw [Array.setIfInBounds_comm _ _ hji]
      exact h3.2.2

/-! the lexical walk of the first operations -/
def wpE (P : Program) (ops : Array Oper) (C : World → Prop) (Q : Act → Prop) : List Oper → Act → Prop
  | [], a => Q a
  | o :: rest, a => if Region.wanted o (yielded ops a.tmps) then ∃ v, (∀ n : ExtC C, o.quietAt P a (fun w'' => Bl n.at w'') n.at v) ∧ wpE P ops C Q rest (a.put o.dst v) else wpE P ops C Q rest (a.put o.dst undef)
theorem wpE_nil {Q : Act → Prop} {a : Act} (h : Q a) : wpE P ops C Q [] a := h
theorem wpE_step {Q : Act → Prop} {a : Act} {o : Oper} {rest : List Oper}
    (h : ∀ K : Act → Prop, (∀ a, wpE P ops C Q rest a → K a) → if Region.wanted o (yielded ops a.tmps) then ∃ v, (∀ n : ExtC C, o.quietAt P a (fun w'' => Bl n.at w'') n.at v) ∧ K (a.put o.dst v) else K (a.put o.dst undef)) : wpE P ops C Q (o :: rest) a :=
  h _ (fun _ h => h)
/-- may the next n operations, from k on, be taken first, one behind the other? -/
def lexPre (md : Region.Mode) (ops : Array Oper) : Nat → Nat → Array Bool → Bool
  | 0, _, _ => true
  | n + 1, k, listed => (Region.ready md ops listed).contains k && Region.free md ops listed k && lexPre md ops n (k + 1) (listed.setIfInBounds k true)
def lexSet : Nat → Nat → Array Bool → Array Bool
  | 0, _, listed => listed
  | n + 1, k, listed => lexSet n (k + 1) (listed.setIfInBounds k true)
theorem wpAnyE_lex (hcl : ∀ w w', C w → Bl w w' → C w') {Q : Act → World → Prop} (hs : Region.noSelect ops = true) (m : Nat) (w : World) (hw : C w) : ∀ (l : List Oper) (k : Nat) (listed : Array Bool) (a : Act), (∀ j o, l[j]? = some o → ops[k + j]? = some o) →
    lexPre md ops l.length k listed = true → wpE P ops C (fun a' => wpAnyE P md ops C Q m (lexSet l.length k listed) a' w) l a → wpAnyE P md ops C Q (l.length + m) listed a w
  | [], _, _, _, _, _, h => by rw [List.length_nil, Nat.zero_add]; exact h
  | o :: l, k, listed, a, hl, hB, h => by
    have h0 : ops[k]? = some o := by simpa using hl 0 o rfl
    simp only [List.length_cons, lexPre, Bool.and_eq_true] at hB
    obtain ⟨⟨hr, hf⟩, hB'⟩ := hB
    have hl' : ∀ j o, l[j]? = some o → ops[k + 1 + j]? = some o := fun j o h => by
      have := hl (j + 1) o (by simpa using h)
      rwa [show k + 1 + j = k + (j + 1) by omega]
    rw [List.length_cons, show l.length + 1 + m = (l.length + m) + 1 by omega]
    unfold wpE at h
    have key : ∀ v, YE P ops C o v a → wpE P ops C (fun a' => wpAnyE P md ops C Q m (lexSet (o :: l).length k listed) a' w) l (a.put o.dst v) → wpAnyE P md ops C Q (l.length + m + 1) listed a w := fun v hy hK =>
      wpAnyE_first hcl h0 (Region.noSelect_spec hs) (l.length + m) listed a w hw (Region.free_spec h0 hf) (by simpa using hr) hy
        (wpAnyE_lex hcl hs m w hw l (k + 1) _ _ hl' hB' hK)
    split at h
    · rename_i hw
      obtain ⟨v, hv, hK⟩ := h
      exact key v (.inl ⟨hw, fun w hb => hv ⟨w, hb⟩⟩) hK
    · rename_i hw
      exact key undef (.inr ⟨by simpa using hw, rfl⟩) h

/-- a region whose first n operations only tell or call, whatever comes behind them, at a class of worlds -/
theorem wp_region_extC {id : Nat} {Q : Exit → Act → World → Prop} {a : Act} {w : World} {l : List Oper} (C : World → Prop) (hcl : ∀ w w', C w → Bl w w' → C w') (hw : C w.drew) (n m : Nat) (hm : P.follows .mixedOrders = true) (hn : l.length = n + m)
    (hs : Region.noSelect l.toArray = true) (hB : lexPre .any l.toArray (l.take n).length 0 (Array.replicate l.length false) = true)
    (h : wpE P l.toArray C (fun a' => wpAnyE P .any l.toArray C (fun a w => Q .normal a w) m (lexSet (l.take n).length 0 (Array.replicate l.length false)) a' w.drew) (l.take n) a) :
    (Code.region id l.toArray true).wp P Q a w := by
  refine wp_region_any hm (wpAny_of_E (C := C) (Q := fun a w => Q .normal a w) (fun _ _ h => h) _ _ _ _ ?_)
  have hk := wpAnyE_lex (md := .any) hcl (Q := fun a w => Q .normal a w) hs m w.drew hw (l.take n) 0 (Array.replicate l.length false) a (fun j o h => by
    rw [List.getElem?_take] at h
    split at h
    · simpa using h
    · cases h) hB h
  have e : (l.take n).length + m = l.toArray.size := by simp; omega
  rw [e] at hk
  simpa using hk
/-- all of them -/
theorem wp_region_extall {id : Nat} {Q : Exit → Act → World → Prop} {a : Act} {w : World} {l : List Oper} (hm : P.follows .mixedOrders = true)
    (hB : Region.lexB .any l.toArray = true)
    (h : wpE P l.toArray (Bl w.drew) (fun a' => ∀ n : Ext w.drew, Q .normal a' n.at) l a) :
    (Code.region id l.toArray true).wp P Q a w := by
  simp only [Region.lexB, Bool.and_eq_true] at hB
  have hpre : ∀ (f k : Nat) (listed : Array Bool), Region.lexFrom .any l.toArray f k listed = true → lexPre .any l.toArray f k listed = true ∧ Region.ready .any l.toArray (lexSet f k listed) = [] := by
    intro f
    induction f with
    | zero => intro k listed h; exact ⟨rfl, by simpa [Region.lexFrom, lexSet] using h⟩
    | succ f ih =>
      intro k listed h
      simp only [Region.lexFrom, Bool.and_eq_true] at h
      have := ih (k + 1) _ h.2
      exact ⟨by simp only [lexPre, Bool.and_eq_true]; exact ⟨h.1, this.1⟩, this.2⟩
  have h2 := hpre _ _ _ hB.2
  have hsz : l.toArray.size = l.length := by simp
  rw [hsz] at h2
  refine wp_region_any hm (wpAny_of_E (C := Bl w.drew) (Q := fun a w => Q .normal a w) (fun _ _ h => h) _ _ _ _ ?_)
  have hk := wpAnyE_lex (P := P) (C := Bl w.drew) (md := .any) (fun _ _ h k => h.trans k) (Q := fun a w => Q .normal a w) hB.1 0 w.drew (Bl.refl _) l 0 (Array.replicate l.length false) a (fun j o h => by simpa using h) h2.1 (by
    have hmono : ∀ (Q1 Q2 : Act → Prop), (∀ a, Q1 a → Q2 a) → ∀ (m : List Oper) (a : Act), wpE P l.toArray (Bl w.drew) Q1 m a → wpE P l.toArray (Bl w.drew) Q2 m a := by
      intro Q1 Q2 hq m
      induction m with
      | nil => exact fun a h => hq a h
      | cons o m ih =>
        intro a h
        unfold wpE at h ⊢
        split at h
        · rename_i hw
          obtain ⟨v, h1, h2⟩ := h
          rw [if_pos hw]; exact ⟨v, h1, ih _ h2⟩
        · rename_i hw
          rw [if_neg hw]; exact ih _ h
    exact hmono _ _ (fun a ha => ⟨h2.2, fun w' hb => ha ⟨w', hb⟩⟩) l a h)
  rw [Nat.add_zero] at hk
  simpa using hk

/-- the operations that are left, one of them at a time -/
theorem wpAnyE_all {Q : Act → World → Prop} {rs : List Nat} {fuel : Nat} {listed : Array Bool} {a : Act} {w : World} (hr : Region.ready md ops listed = rs) (hne : rs ≠ [])
    (h : ∀ i ∈ rs, ∀ w', Bl w w' → eOp P ops i (fun a'' w'' => C w'' ∧ wpAnyE P md ops C Q fuel (listed.setIfInBounds i true) a'' w'') a w') : wpAnyE P md ops C Q (fuel + 1) listed a w :=
  ⟨fun h0 => absurd (hr.symm.trans h0) hne, fun i hi => h i (hr ▸ hi)⟩
theorem wpAnyE_one {Q : Act → World → Prop} {i fuel : Nat} {listed : Array Bool} {a : Act} {w : World} (hr : Region.ready md ops listed = [i])
    (h : ∀ w', Bl w w' → eOp P ops i (fun a'' w'' => C w'' ∧ wpAnyE P md ops C Q fuel (listed.setIfInBounds i true) a'' w'') a w') : wpAnyE P md ops C Q (fuel + 1) listed a w :=
  wpAnyE_all hr (by simp) fun j hj => by
    rw [List.mem_singleton] at hj; subst hj; exact h
theorem wpAnyE_done {Q : Act → World → Prop} {fuel : Nat} {listed : Array Bool} {a : Act} {w : World} (hr : Region.ready md ops listed = []) (h : ∀ w', Bl w w' → Q a w') : wpAnyE P md ops C Q fuel listed a w := by
  cases fuel with
  | zero => exact ⟨hr, h⟩
  | succ fuel => exact ⟨fun _ => h, fun i hi => by rw [hr] at hi; cases hi⟩
/-- 'append' to what the call itself has made, among the operations that are left -/
theorem eOp_append {i : Nat} {o : Oper} {a : Act} {w : World} {K : Act → World → Prop} (ho' : ops[i]? = some o) (hgd : o.guard = none) (s x : Operand) (t : TypeId)
    (ho : o.op = .call { callee := .builtin .append, args := #[s, x], argTypes := #[t, t] })
    (base : Nat) (e : TypeId) (ti : TypeInfo) (z : Value) (size bytes : Nat) (ht : P.underlying t = some (.slice e)) (hi : P.info? e = some ti) (hz : ti.zero = some z)
    (hsize : ti.size = size) (hby : ti.bytes = bytes) (hzs : z.cells.size = size) (hsz : 0 < size)
    (v : Value) (n : Nat) (xs : List Value) (hs : a.eval s = v) (hown : w.ownsRow base e size v n xs)
    (ad : Addr) (m c : Nat) (news : List Value) (hx : a.eval x = .slice (some ad) m c) (hl : news.length = m * size) (hnews : ∀ j u, news[j]? = some u → w.cell? (ad.add j) = some u) (h1 : ∀ u ∈ news, u.oneCell' = true)
    (h63 : n + m ≤ maxLen) (hbytes : (n + m) * bytes ≤ 140737488355328) (hbase : base ≤ w.heap.size)
    (h : ∀ v' w', w'.ownsRow base e size v' (n + m) (xs ++ news) → w.grownBy w' v.ownBlock → (v' = .slice none 0 0 ↔ v = .slice none 0 0 ∧ m = 0) → K (a.put o.dst v') w') : eOp P ops i K a w := by
  obtain ⟨v', w', hr, h2, h3, h4⟩ := run_append_own (P := P) w base t o.type e ti z size bytes ht hi hz hsize hby hzs hsz v n xs hown ad m c news hl hnews h1 h63 hbytes hbase
  unfold eOp
  simp only [ho']
  rw [if_pos (by simp [Region.wanted, hgd])]
  unfold eOper execOp
  simp only [ho, resolve, invoke, builtin, Sem.run_bind, Sem.run_pure, Result.andThen_ok, List.map_toArray, List.map_cons, List.map_nil, hs, hx, hr, eUpon]
  exact h v' w' h2 h3 h4
end
end Go.Proofs.YtfmabjoindlfeaaGreat

namespace Go.Proofs.YtfmabjoindlfeaaGreat
open Go.RowKit

section
variable {P : Program} {ops : Array Oper} {md : Region.Mode} {C : World → Prop}

/-- may these operations be taken first, one behind the other? -/
def preB (md : Region.Mode) (ops : Array Oper) : List Nat → Array Bool → Bool
  | [], _ => true
  | i :: is, listed => (Region.ready md ops listed).contains i && Region.free md ops listed i && preB md ops is (listed.setIfInBounds i true)
def setAll : List Nat → Array Bool → Array Bool
  | [], listed => listed
  | i :: is, listed => setAll is (listed.setIfInBounds i true)
def wpI (P : Program) (ops : Array Oper) (C : World → Prop) (Q : Act → Prop) : List Nat → Act → Prop
  | [], a => Q a
  | i :: is, a => ∃ o, ops[i]? = some o ∧ if Region.wanted o (yielded ops a.tmps) then ∃ v, (∀ n : ExtC C, o.quietAt P a (fun w'' => Bl n.at w'') n.at v) ∧ wpI P ops C Q is (a.put o.dst v) else wpI P ops C Q is (a.put o.dst undef)
theorem wpI_nil {Q : Act → Prop} {a : Act} (h : Q a) : wpI P ops C Q [] a := h
theorem wpI_step {Q : Act → Prop} {a : Act} {i : Nat} {is : List Nat} {o : Oper} (ho : ops[i]? = some o)
    (h : ∀ K : Act → Prop, (∀ a, wpI P ops C Q is a → K a) → if Region.wanted o (yielded ops a.tmps) then ∃ v, (∀ n : ExtC C, o.quietAt P a (fun w'' => Bl n.at w'') n.at v) ∧ K (a.put o.dst v) else K (a.put o.dst undef)) : wpI P ops C Q (i :: is) a :=
  ⟨o, ho, h _ (fun _ h => h)⟩
theorem wpAnyE_idx (hcl : ∀ w w', C w → Bl w w' → C w') {Q : Act → World → Prop} (hs : Region.noSelect ops = true) (m : Nat) (w : World) (hw : C w) : ∀ (is : List Nat) (listed : Array Bool) (a : Act),
    preB md ops is listed = true → wpI P ops C (fun a' => wpAnyE P md ops C Q m (setAll is listed) a' w) is a → wpAnyE P md ops C Q (is.length + m) listed a w
  | [], _, _, _, h => by rw [List.length_nil, Nat.zero_add]; exact h
  | i :: is, listed, a, hB, h => by
    simp only [preB, Bool.and_eq_true] at hB
    obtain ⟨⟨hr, hf⟩, hB'⟩ := hB
    obtain ⟨o, h0, h⟩ := h
    rw [List.length_cons, show is.length + 1 + m = (is.length + m) + 1 by omega]
    have key : ∀ v, YE P ops C o v a → wpI P ops C (fun a' => wpAnyE P md ops C Q m (setAll (i :: is) listed) a' w) is (a.put o.dst v) → wpAnyE P md ops C Q (is.length + m + 1) listed a w := fun v hy hK =>
      wpAnyE_first hcl h0 (Region.noSelect_spec hs) (is.length + m) listed a w hw (Region.free_spec h0 hf) (by simpa using hr) hy
        (wpAnyE_idx hcl hs m w hw is _ _ hB' hK)
    split at h
    · rename_i hw
      obtain ⟨v, hv, hK⟩ := h
      exact key v (.inl ⟨hw, fun w hb => hv ⟨w, hb⟩⟩) hK
    · rename_i hw
      exact key undef (.inr ⟨by simpa using hw, rfl⟩) h
/-- a region of which the named operations only tell or call and may be taken first -/
theorem wp_region_idx {id : Nat} {Q : Exit → Act → World → Prop} {a : Act} {w : World} {l : List Oper} (is : List Nat) (m : Nat) (C : World → Prop) (hcl : ∀ w w', C w → Bl w w' → C w') (hw : C w.drew) (hm : P.follows .mixedOrders = true) (hn : l.length = is.length + m)
    (hs : Region.noSelect l.toArray = true) (hB : preB .any l.toArray is (Array.replicate l.length false) = true)
    (h : wpI P l.toArray C (fun a' => wpAnyE P .any l.toArray C (fun a w => Q .normal a w) m (setAll is (Array.replicate l.length false)) a' w.drew) is a) :
    (Code.region id l.toArray true).wp P Q a w := by
  refine wp_region_any hm (wpAny_of_E (C := C) (Q := fun a w => Q .normal a w) (fun _ _ h => h) _ _ _ _ ?_)
  have hk := wpAnyE_idx (md := .any) hcl (Q := fun a w => Q .normal a w) hs m w.drew hw is (Array.replicate l.length false) a hB h
  have e : is.length + m = l.toArray.size := by simp; omega
  rw [e] at hk
  simpa using hk
end
/-! a narrower class of worlds from here on -/
section
variable {P : Program} {ops : Array Oper} {md : Region.Mode}
end

/-! the walk of all operations, shut: nothing of it is laid open but one operation at a time (where a guard is not met the open form would be reckoned to its end) -/
section
variable {P : Program} {ops : Array Oper} {C : World → Prop}
structure wpS (P : Program) (ops : Array Oper) (C : World → Prop) (Q : Act → Prop) (l : List Oper) (a : Act) : Prop where
  out : wpE P ops C Q l a
theorem wpS_nil {Q : Act → Prop} {a : Act} (h : Q a) : wpS P ops C Q [] a := ⟨h⟩
theorem wpS_step {Q : Act → Prop} {a : Act} {o : Oper} {rest : List Oper}
    (h : ∀ K : Act → Prop, (∀ a, wpS P ops C Q rest a → K a) → if Region.wanted o (yielded ops a.tmps) then ∃ v, (∀ n : ExtC C, o.quietAt P a (fun w'' => Bl n.at w'') n.at v) ∧ K (a.put o.dst v) else K (a.put o.dst undef)) : wpS P ops C Q (o :: rest) a :=
  ⟨wpE_step fun K hK => h K fun a k => hK a k.out⟩
theorem wp_region_allS {id : Nat} {Q : Exit → Act → World → Prop} {a : Act} {w : World} {l : List Oper} (hm : P.follows .mixedOrders = true) (hB : Region.lexB .any l.toArray = true)
    (h : wpS P l.toArray (Bl w.drew) (fun a' => ∀ n : Ext w.drew, Q .normal a' n.at) l a) : (Code.region id l.toArray true).wp P Q a w :=
  wp_region_extall hm hB h.out
end
end Go.Proofs.YtfmabjoindlfeaaGreat
end
