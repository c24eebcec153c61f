import Derived.Test.YtaelghbjbopilaaGreatRows
import Derived.WalkKit
import Derived.WalkSpells
import Derived.Lib.Hide
import Derived.Deep.QuietTactic
import Derived.BigQuiet

/- Plain facts on lists of ints. No program is named here. · Vocabulary of these proofs: what it is that a value reads as, and how worlds follow each other. · Numbers as bytes and as digits: plain facts. By an AI agent. -/
section
namespace Go.Proofs.YtaelghbjbopilaaGreat

/-- the j-th number of a list -/
def nth (xs : List Int) (j : Nat) : Int := xs.getD j 0
@[simp] theorem nth_cons_zero (x : Int) (xs : List Int) : nth (x :: xs) 0 = x := rfl
@[simp] theorem nth_cons_succ (x : Int) (xs : List Int) (j : Nat) : nth (x :: xs) (j + 1) = nth xs j := by simp [nth]
theorem nth_eq {xs : List Int} {j : Nat} (h : j < xs.length) : nth xs j = xs[j] := by simp [nth, h]

def leqL : List Int → List Int → Bool
  | x :: xs, y :: ys => decide (x ≤ y) && leqL xs ys
  | [], [] => true
  | _, _ => false

theorem leqL_len {xs ys : List Int} (h : xs.length ≠ ys.length) : leqL xs ys = false := by
  induction xs generalizing ys with
  | nil => cases ys <;> simp_all [leqL]
  | cons x xs ih => cases ys <;> simp_all [leqL]

theorem leqL_iff {xs ys : List Int} (h : xs.length = ys.length) : leqL xs ys = true ↔ ∀ j, j < xs.length → nth xs j ≤ nth ys j := by
  induction xs generalizing ys with
  | nil => cases ys <;> simp_all [leqL]
  | cons x xs ih =>
    cases ys with
    | nil => simp at h
    | cons y ys =>
      have h' : xs.length = ys.length := by simpa using h
      simp only [leqL, Bool.and_eq_true, decide_eq_true_eq, ih h', List.length_cons]
      constructor
      · rintro ⟨h1, h2⟩ j hj
        cases j with
        | zero => simpa using h1
        | succ j => simpa using h2 j (by omega)
      · intro h3
        exact ⟨by simpa using h3 0 (by omega), fun j hj => by simpa using h3 (j+1) (by omega)⟩

theorem leqL_false {xs ys : List Int} (h : xs.length = ys.length) {k : Nat} (hk : k < xs.length) (hgt : nth ys k < nth xs k) : leqL xs ys = false := by
  rw [Bool.eq_false_iff]; intro hc
  have := (leqL_iff h).1 hc k hk
  omega

theorem getD_ext {xs ys : List Int} (h : xs.length = ys.length) (hall : ∀ j, j < xs.length → nth xs j = nth ys j) : xs = ys := by
  apply List.ext_getElem h
  intro i h1 h2
  have := hall i h1
  rwa [nth_eq h1, nth_eq h2] at this
end Go.Proofs.YtaelghbjbopilaaGreat

namespace Go.Proofs.YtaelghbjbopilaaGreat
open Go.RowKit

theorem ret_bool {a b : Bool} (h : a = b) : Ending.returned (.bool a) = Ending.returned (.bool b) := by rw [h]
theorem ret_int {k : IntKind} {a b : Int} (h : a = b) : Ending.returned (.int k a) = Ending.returned (.int k b) := by rw [h]

theorem ret_int_ok {a b c : Int} (h : a = b) : Ending.returned (.tuple #[.int .i64 a, .int .i64 c]) = Ending.returned (.tuple #[.int .i64 b, .int .i64 c]) := by rw [h]


/-! ### worlds -/
/-- w' is w with more behind it: nothing that was there has turned. -/
def Bl (w w' : World) : Prop := Below w.heap.size w w'
theorem Bl.refl (w : World) : Bl w w := Below.refl _ _
theorem Bl.trans {a b c : World} (h : Bl a b) (k : Bl b c) : Bl a c := Below.trans h (Below.mono k h.size)
theorem Bl.drew {a b : World} (h : Bl a b) : Bl a b.drew := Below.drew h
theorem Bl.drewN {a b : World} (h : Bl a b) (k : Nat) : Bl a (b.drewN k) := ⟨h.os, h.tape, h.output, h.size, h.block⟩
theorem Bl.alloc {a b : World} (h : Bl a b) (o : Obj) : Bl a (b.alloc o) := Below.alloc h h.size o
theorem Bl.cell {a b : World} (h : Bl a b) {p : Addr} {v : Value} (hp : a.cell? p = some v) : b.cell? p = some v := by
  rw [Below.cell h (World.block_lt_of_cell? _ _ hp)]; exact hp
theorem Bl.size {a b : World} (h : Bl a b) : a.heap.size ≤ b.heap.size := Below.size h

theorem lt_of_heap {w : World} {g : Nat} {o : Obj} (h : w.heap[g]? = some o) : g < w.heap.size := (Array.getElem?_eq_some_iff.1 h).1
theorem Bl.heap {a b : World} (h : Bl a b) {g : Nat} {o : Obj} (hg : a.heap[g]? = some o) : b.heap[g]? = some o := by
  rw [h.block g (lt_of_heap hg)]; exact hg
theorem ownsRow_bl {w w' : World} {B : Nat} {e : TypeId} {s : Nat} {v : Value} {n : Nat} {xs : List Value} (h : w.ownsRow B e s v n xs) (hb : Bl w w') : w'.ownsRow B e s v n xs := by
  obtain ⟨h1, h2 | ⟨g, cap, cur, hv, hB, hg, r⟩⟩ := h
  · exact ⟨h1, .inl h2⟩
  · exact ⟨h1, .inr ⟨g, cap, cur, hv, hB, hb.heap hg, r⟩⟩

/-! ### slices of ints -/
/-- a slice at a, of n ints, reads as xs -/
structure IA (w : World) (a : Option Addr) (n : Nat) (xs : List Int) : Prop where
  len : xs.length = n
  cap : n * 8 ≤ 140737488351232
  cells : ∀ j, j < n → ∃ b off, a = some ⟨b, off, none⟩ ∧ ∀ j, j < n → w.cell? ⟨b, off + j, none⟩ = some (.int .i64 (nth xs j))
  wf : ∀ x ∈ xs, -9223372036854775808 ≤ x ∧ x ≤ 9223372036854775807

theorem IA.keep {w w' : World} {a : Option Addr} {n : Nat} {xs : List Int} (h : IA w a n xs) (hb : Bl w w') : IA w' a n xs :=
  ⟨h.len, h.cap, fun j hj => by
    obtain ⟨b, off, e, hc⟩ := h.cells j hj
    exact ⟨b, off, e, fun j hj => hb.cell (hc j hj)⟩, h.wf⟩

theorem IA.nil (w : World) (a : Option Addr) : IA w a 0 [] := ⟨rfl, by omega, fun j hj => by omega, fun _ h => by simp at h⟩


/-- the value v reads as the list xs of ints, in w -/
def SI (w : World) (v : Value) (xs : List Int) : Prop := ∃ a n cap, v = .slice a n cap ∧ IA w a n xs
theorem SI.keep {w w' : World} {v : Value} {xs : List Int} (h : SI w v xs) (hb : Bl w w') : SI w' v xs := by
  obtain ⟨a, n, cap, e, hI⟩ := h
  exact ⟨a, n, cap, e, hI.keep hb⟩

/-! ### slices of ints that the call itself has made, from block B on -/
theorem info_int : (Tryz.prog.info? 3).map (fun i => (i.zero, i.size, i.bytes)) = some (some (.int .i64 0), 1, 8) := by kernel_rfl
def OI (B : Nat) (w : World) (v : Value) (xs : List Int) : Prop := w.ownsRow B 3 1 v xs.length (xs.map (Value.int .i64))
theorem OI.nil (B : Nat) (w : World) : OI B w (.slice none 0 0) [] := World.ownsRow_nil _ _ _ _
theorem OI.si {B : Nat} {w : World} {v : Value} {xs : List Int} (h : OI B w v xs) (hc : xs.length * 8 ≤ 140737488351232) (hw : ∀ x ∈ xs, -9223372036854775808 ≤ x ∧ x ≤ 9223372036854775807) : SI w v xs := by
  obtain ⟨h1, ⟨rfl, h2⟩ | ⟨g, cap, cur, rfl, hB, hg, hn, hm, hs, ht⟩⟩ := h
  · have : xs = [] := List.eq_nil_of_length_eq_zero h2
    subst this
    exact ⟨none, 0, 0, rfl, IA.nil _ _⟩
  · refine ⟨some ⟨g, 0, none⟩, xs.length, cap, rfl, rfl, hc, fun j hj => ⟨g, 0, rfl, fun j hj => ?_⟩, hw⟩
    have hown : w.ownsRow B 3 1 (.slice (some ⟨g, 0, none⟩) xs.length cap) xs.length (xs.map (Value.int .i64)) := ⟨h1, .inr ⟨g, cap, cur, rfl, hB, hg, hn, hm, hs, ht⟩⟩
    rw [Nat.zero_add, hown.cellAt j (by omega)]
    simp [nth_eq hj, hj]
/-- ... and whose numbers are ints -/
structure FI (B : Nat) (w : World) (v : Value) (xs : List Int) : Prop where
  own : OI B w v xs
  cap : xs.length * 8 ≤ 140737488351232
  wf : ∀ x ∈ xs, -9223372036854775808 ≤ x ∧ x ≤ 9223372036854775807
theorem FI.si {B : Nat} {w : World} {v : Value} {xs : List Int} (h : FI B w v xs) : SI w v xs := h.own.si h.cap h.wf
theorem OI.keep {B : Nat} {w w' : World} {v : Value} {xs : List Int} (h : OI B w v xs) (hb : Bl w w') : OI B w' v xs := ownsRow_bl h hb
theorem FI.keep {B : Nat} {w w' : World} {v : Value} {xs : List Int} (h : FI B w v xs) (hb : Bl w w') : FI B w' v xs := ⟨h.own.keep hb, h.cap, h.wf⟩
theorem FI.nil (B : Nat) (w : World) : FI B w (.slice none 0 0) [] := ⟨OI.nil _ _, by simp, by simp⟩
/-- behind 'append(v, x)' -/
theorem OI.push {B : Nat} {w0 w w1 : World} {v v' : Value} {xs : List Int} {x : Int} {o : Obj} (hb : Below B w0 w) (hB : B ≤ w.heap.size) (hown : OI B w v xs)
    (hown' : w1.ownsRow B 3 1 v' (xs.length + 1) (xs.map (Value.int .i64) ++ [.int .i64 x])) (hg : (w.alloc o).grownBy w1 v.ownBlock) : OI B w1 v' (xs ++ [x]) ∧ Below B w0 w1 :=
  ⟨by simpa [OI] using hown', (hb.alloc hB o).grown hg (by simp; omega) (fun j hj => (World.ownsRow.lt hown j hj).1)⟩

/-! ### slices of bytes that the call itself has made -/
theorem info_byte : (Tryz.prog.info? 5).map (fun i => (i.zero, i.size, i.bytes)) = some (some (.int .u8 0), 1, 1) := by kernel_rfl
def OB (B : Nat) (w : World) (v : Value) (xs : List Int) : Prop := w.ownsRow B 5 1 v xs.length (xs.map (Value.int .u8))
theorem OB.nil (B : Nat) (w : World) : OB B w (.slice none 0 0) [] := World.ownsRow_nil _ _ _ _
theorem OB.push {B : Nat} {w0 w w1 : World} {v v' : Value} {xs : List Int} {x : Int} {o : Obj} (hb : Below B w0 w) (hB : B ≤ w.heap.size) (hown : OB B w v xs)
    (hown' : w1.ownsRow B 5 1 v' (xs.length + 1) (xs.map (Value.int .u8) ++ [.int .u8 x])) (hg : (w.alloc o).grownBy w1 v.ownBlock) : OB B w1 v' (xs ++ [x]) ∧ Below B w0 w1 :=
  ⟨by simpa [OB] using hown', (hb.alloc hB o).grown hg (by simp; omega) (fun j hj => (World.ownsRow.lt hown j hj).1)⟩
theorem OB.cell {B : Nat} {w : World} {g cap n : Nat} {xs : List Int} (h : OB B w (.slice (some ⟨g, 0, none⟩) n cap) xs) (hn : xs.length = n) (j : Nat) (hj : j < n) : w.cell? ⟨g, j, none⟩ = some (.int .u8 (nth xs j)) := by
  subst hn
  have hown : w.ownsRow B 5 1 (.slice (some ⟨g, 0, none⟩) xs.length cap) xs.length (xs.map (Value.int .u8)) := h
  rw [hown.cellAt j (by omega)]
  simp [nth_eq hj, hj]
/-- behind 'b[j] = x' -/
theorem OB.set {B : Nat} {w : World} {g cap n : Nat} {xs : List Int} (h : OB B w (.slice (some ⟨g, 0, none⟩) n cap) xs) (hn : xs.length = n) (j : Nat) (x : Int) :
    OB B (w.setCell ⟨g, j, none⟩ (.int .u8 x)) (.slice (some ⟨g, 0, none⟩) n cap) (xs.set j x) := by
  subst hn
  have hown : w.ownsRow B 5 1 (.slice (some ⟨g, 0, none⟩) xs.length cap) xs.length (xs.map (Value.int .u8)) := h
  have := (hown.stored j (.int .u8 x)).1
  rw [OB, List.length_set, List.map_set]
  exact this
theorem OB.frozen {B : Nat} {w : World} {g cap n : Nat} {xs : List Int} (h : OB B w (.slice (some ⟨g, 0, none⟩) n cap) xs) (hn : xs.length = n) (j : Nat) : w.frozen? ⟨g, j, none⟩ = false := by
  subst hn
  exact World.ownsRow.frozenAt h j
/-- 'string(b)' -/
theorem OB.string {B : Nat} {w : World} {g cap n : Nat} {xs : List Int} (h : OB B w (.slice (some ⟨g, 0, none⟩) n cap) xs) (hn : xs.length = n) :
    (convert 78 9 (.slice (some ⟨g, 0, none⟩) n cap)).run Tryz.prog w = .ok (.string (strOfNums xs)) w :=
  run_convert_bytes_arg w 78 5 Tryz.underlying78 Tryz.underlying5 g 0 n cap xs hn (fun i hi => by rw [Nat.zero_add]; exact h.cell hn i hi) 9 Tryz.underlying9

/-! ### a block of bytes, known whole -/


/-! ### strings -/
/-- the string s has the bytes l -/
def SB (s : ByteArray) (l : List UInt8) : Prop := s.data.toList = l
theorem SB.size {s : ByteArray} {l : List UInt8} (hs : SB s l) : s.size = l.length := by
  rw [← hs]; simp
theorem SB.get {s : ByteArray} {l : List UInt8} (hs : SB s l) (i : Nat) (h : i < s.size) (h' : i < l.length) : s[i] = l[i] := by
  subst hs; rfl
theorem SB.eq {s t : ByteArray} {l : List UInt8} (hs : SB s l) (ht : SB t l) : s = t := ByteArray.ext (Array.toList_inj.1 (hs.trans ht.symm))
theorem SB.append {s t : ByteArray} {l m : List UInt8} (hs : SB s l) (ht : SB t m) : SB (s ++ t) (l ++ m) := by
  rw [SB] at *; simp [hs, ht]
theorem SB.mk (l : List UInt8) : SB ⟨l.toArray⟩ l := rfl
end Go.Proofs.YtaelghbjbopilaaGreat

namespace Go.Proofs.YtaelghbjbopilaaGreat
open Go.RowKit

/-- the j-th of n bytes of v, the greatest first -/
def byteAt (v : Int) (n j : Nat) : Int := v / 2 ^ (8 * (n - 1 - j)) % 256
def putN (v : Int) (n k : Nat) : List Int := (List.range n).map (fun j => if n - k ≤ j then byteAt v n j else 0)

theorem putN_len (v : Int) (n k : Nat) : (putN v n k).length = n := by simp [putN]
theorem putN_zero (v : Int) (n : Nat) : putN v n 0 = List.replicate n 0 := by
  apply List.ext_getElem (by simp [putN])
  intro i h1 h2
  simp [putN] at h1
  simp [putN]; omega
theorem putN_set (v : Int) (n k : Nat) (hk : k < n) : (putN v n k).set (n - 1 - k) (byteAt v n (n - 1 - k)) = putN v n (k + 1) := by
  apply List.ext_getElem (by simp [putN])
  intro i h1 h2
  simp [putN] at h1
  rw [List.getElem_set]
  simp only [putN, List.getElem_map, List.getElem_range]
  by_cases e : n - 1 - k = i
  · subst e; rw [if_pos rfl, if_pos (by omega)]
  · rw [if_neg e]
    by_cases h : n - k ≤ i
    · rw [if_pos h, if_pos (by omega)]
    · rw [if_neg h, if_neg (by omega)]

/-- the number of some bytes -/
def getN (l : List UInt8) : Int := l.foldl (fun v b => v * 256 + b.toNat) 0

theorem getN_bound (l : List UInt8) : 0 ≤ getN l ∧ getN l < 256 ^ l.length := by
  unfold getN
  suffices h : ∀ (l : List UInt8) (a : Int) (m : Nat), 0 ≤ a → a < 256 ^ m → 0 ≤ l.foldl (fun v b => v * 256 + (b.toNat : Int)) a ∧ l.foldl (fun v b => v * 256 + (b.toNat : Int)) a < 256 ^ (m + l.length) by
    simpa using h l 0 0 (by omega) (by simp)
  intro l
  induction l with
  | nil => intro a m h0 h1; exact ⟨h0, by simpa using h1⟩
  | cons b l ih =>
    intro a m h0 h1
    have hb : b.toNat < 256 := UInt8.toNat_lt b
    have := ih (a * 256 + b.toNat) (m + 1) (by omega) (by rw [Int.pow_succ]; omega)
    simp only [List.foldl_cons, List.length_cons]
    rw [show m + (l.length + 1) = m + 1 + l.length by omega]
    exact this
theorem getN_snoc (l : List UInt8) (b : UInt8) : getN (l ++ [b]) = getN l * 256 + b.toNat := by simp [getN]

theorem wraps_i64 (n : Int) (h₀ : 0 ≤ n) (h₁ : n < 2 ^ 63) : IntKind.i64.wrap n = n := by rw [IntKind.wrap_i64]; omega
theorem or_shl8 (a b : Int) (h0 : 0 ≤ a) (h1 : a < 281474976710656) (h2 : 0 ≤ b) (h3 : b < 256) : bits .or .i64 (a * 256) (wrap64 b) = a * 256 + b := by
  have e2 : wrap64 b = b := by unfold wrap64; omega
  rw [e2]
  exact bits_join .i64 63 (by decide) wraps_i64 8 _ _ (by omega) (by omega) (by omega) h2 (by omega) (by omega)

theorem getN_take {s : ByteArray} {k : Nat} (h : k < s.size) : getN (s.data.toList.take (k + 1)) = getN (s.data.toList.take k) * 256 + s[k].toNat := by
  have h' : k < s.data.toList.length := by simpa using h
  rw [List.take_succ_eq_append_getElem h', getN_snoc]
  rfl


/-! ### digits -/




end Go.Proofs.YtaelghbjbopilaaGreat
end

/- The check sum of bytes: plain definition and laws. No program is named here. By an AI agent. -/
section
namespace Go.Proofs.YtaelghbjbopilaaGreat
open Go.RowKit

def crcStep (x : Nat) : Nat := if x % 2 = 1 then (x / 2) ^^^ 2197175160 else x / 2
def crcN : Nat → Nat → Nat
  | 0, x => x
  | k + 1, x => crcStep (crcN k x)
def crcByte (x : Nat) (b : UInt8) : Nat := crcN 8 (x ^^^ b.toNat)
def crcL (l : List UInt8) : Nat := l.foldl crcByte 4294967295
/-- the check sum of bytes -/
def sumL (l : List UInt8) : Nat := crcL l ^^^ 4294967295

theorem xor32 {a b : Nat} (ha : a < 4294967296) (hb : b < 4294967296) : a ^^^ b < 4294967296 := Nat.xor_lt_two_pow (n := 32) ha hb
theorem byte32 (b : UInt8) : b.toNat < 4294967296 := Nat.lt_of_lt_of_le (UInt8.toNat_lt b) (by decide)
theorem crcStep_lt {x : Nat} (h : x < 4294967296) : crcStep x < 4294967296 := by
  unfold crcStep
  split
  · exact xor32 (by omega) (by decide)
  · omega
theorem crcN_lt {x : Nat} (h : x < 4294967296) : ∀ k, crcN k x < 4294967296
  | 0 => h
  | k + 1 => crcStep_lt (crcN_lt h k)
theorem crcByte_lt {x : Nat} (h : x < 4294967296) (b : UInt8) : crcByte x b < 4294967296 := crcN_lt (xor32 h (byte32 b)) 8
theorem foldl_crc_lt (l : List UInt8) : ∀ x, x < 4294967296 → l.foldl crcByte x < 4294967296 := by
  induction l with
  | nil => intro x h; exact h
  | cons b l ih => intro x h; exact ih _ (crcByte_lt h b)
theorem crcL_lt (l : List UInt8) : crcL l < 4294967296 := foldl_crc_lt l _ (by decide)
theorem sumL_lt (l : List UInt8) : sumL l < 4294967296 := xor32 (crcL_lt l) (by decide)
theorem crcL_snoc (l : List UInt8) (b : UInt8) : crcL (l ++ [b]) = crcByte (crcL l) b := by simp [crcL]
theorem crcL_take {s : ByteArray} {k : Nat} (h : k < s.size) : crcL (s.data.toList.take (k + 1)) = crcByte (crcL (s.data.toList.take k)) s[k] := by
  have h' : k < s.data.toList.length := by simpa using h
  rw [List.take_succ_eq_append_getElem h', crcL_snoc]
  rfl


/-! ### in the machine's words -/
theorem wraps_u32 (n : Int) (_h0 : 0 ≤ n) (h1 : n < 2 ^ 32) : IntKind.u32.wrap n = n := by rw [IntKind.wrap_u32]; omega
theorem bits_xor_nat (k : IntKind) (j : Nat) (hj : j ≤ k.bits) (hk : ∀ n : Int, 0 ≤ n → n < 2 ^ j → k.wrap n = n) (a b : Nat) (ha : a < 2 ^ j) (hb : b < 2 ^ j) : bits .xor k a b = ((a ^^^ b : Nat) : Int) := by
  have hp : 2 ^ j ≤ 2 ^ k.bits := Nat.pow_le_pow_right (by decide) hj
  have ha' : a % 2 ^ k.bits = a := Nat.mod_eq_of_lt (Nat.lt_of_lt_of_le ha hp)
  have hb' : b % 2 ^ k.bits = b := Nat.mod_eq_of_lt (Nat.lt_of_lt_of_le hb hp)
  simp only [bits, BitVec.ofInt_natCast, BitVec.toNat_xor, BitVec.toNat_ofNat, ha', hb']
  exact hk _ (Int.natCast_nonneg _) (by exact_mod_cast Nat.xor_lt_two_pow ha hb)
theorem xor_u32 (a b : Nat) (ha : a < 4294967296) (hb : b < 4294967296) : bits .xor .u32 (a : Int) (b : Int) = ((a ^^^ b : Nat) : Int) := bits_xor_nat .u32 32 (by decide) wraps_u32 a b ha hb
theorem odd_u32 (a : Nat) (ha : a < 4294967296) : bits .and .u32 (a : Int) 1 = ((a % 2 : Nat) : Int) := by
  have := bits_mask .u32 32 (by decide) wraps_u32 1 (by decide) (a : Int) (by omega) (by omega)
  rw [show ((2 : Int) ^ 1 - 1) = 1 by decide] at this
  rw [this]; omega
end Go.Proofs.YtaelghbjbopilaaGreat
end
