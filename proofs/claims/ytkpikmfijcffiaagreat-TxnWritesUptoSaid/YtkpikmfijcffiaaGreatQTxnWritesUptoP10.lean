import Derived.Test.YtkpikmfijcffiaaGreatQVecG
import Derived.Test.YtkpikmfijcffiaaGreatQOpA
import Derived.Test.YtkpikmfijcffiaaGreatQTxnWritesUptoP3
import Derived.Test.YtkpikmfijcffiaaGreatQTxnWritesUptoP4

/- readers: a cell that holds what is left; vec.Get, whatever the bytes are. By an AI agent. -/
section
namespace Go.Proofs.YtkpikmfijcffiaaGreat
open Go.RowKit

theorem OB.other {B g j : Nat} {w : World} {v u : Value} {xs : List Int} (h : OB B w v xs) (hg : g < B) : OB B (w.setCell ⟨g, j, none⟩ u) v xs := by
  obtain ⟨h1, h2 | ⟨g', cap, cur, hv, hB, hh, r⟩⟩ := h
  · exact ⟨h1, .inl h2⟩
  · exact ⟨h1, .inr ⟨g', cap, cur, hv, hB, by rw [Below.heap_setCell _ _ _ _ (show g' ≠ g by omega)]; exact hh, r⟩⟩
/-- the reader's cell is set anew in what has come behind -/
theorem Bl.reset {w wr : World} {g : Nat} {v0 a b : Value} (hc : C1 w g v0) (hb : Bl (w.setCell ⟨g, 0, none⟩ a) wr) : Bl (w.setCell ⟨g, 0, none⟩ b) (wr.setCell ⟨g, 0, none⟩ b) := by
  obtain ⟨t, hg⟩ := hc
  have hlt : g < w.heap.size := lt_of_heap hg
  have e1 : ∀ u, (w.setCell ⟨g, 0, none⟩ u).heap[g]? = some (.cells #[u] t (0, 0)) := fun u => by
    rw [heap_setCell_same w g 0 _ t u hg]; rfl
  have hz : ∀ (x : World) (u : Value), (x.setCell ⟨g, 0, none⟩ u).heap.size = x.heap.size := fun x u => by simp
  have e2 : wr.heap[g]? = some (.cells #[a] t (0, 0)) := by
    rw [hb.block g (by rw [hz]; exact hlt)]; exact e1 a
  have e3 : (wr.setCell ⟨g, 0, none⟩ b).heap[g]? = some (.cells #[b] t (0, 0)) := by
    rw [heap_setCell_same wr g 0 _ t b e2]; rfl
  refine ⟨hb.os, hb.tape, hb.output, ?_, fun q hq => ?_⟩
  · rw [hz, hz]; have := hb.size; rw [hz] at this; exact this
  · by_cases hqg : q = g
    · subst hqg; rw [e3, e1]
    · rw [Below.heap_setCell _ _ _ _ hqg, Below.heap_setCell _ _ _ _ hqg]
      have := hb.block q (by rw [hz] at hq ⊢; exact hq)
      rw [this, Below.heap_setCell _ _ _ _ hqg]
theorem C1.again {w : World} {g : Nat} {v a : Value} (h : C1 w g v) : ∀ {wr : World}, Bl (w.setCell ⟨g, 0, none⟩ a) wr → C1 wr g a := fun hb => (h.set a).keep hb

theorem setCell_size (w : World) (g : Nat) (u : Value) : (w.setCell ⟨g, 0, none⟩ u).heap.size = w.heap.size := by simp
def numK (l : List UInt8) : List Int := l.map fun b => (b.toNat : Int)
theorem numK_len (l : List UInt8) : (numK l).length = l.length := by simp [numK]
theorem numK_push (l : List UInt8) (c : UInt8) : numK (l ++ [c]) = numK l ++ [(c.toNat : Int)] := by simp [numK]
theorem str_numK (l : List UInt8) : strOfNums (numK l) = ⟨l.toArray⟩ := by
  apply ByteArray.ext
  apply Array.toList_inj.1
  show ((numK l).map fun n => UInt8.ofNat n.toNat) = l
  unfold numK
  rw [List.map_map]
  conv => rhs; rw [← List.map_id l]
  apply List.map_congr_left
  intro x _
  simp
theorem OB.push2 {B : Nat} {w0 w w1 : World} {v v' : Value} {xs : List Int} {x : Int} {o : Obj} (hb : Bl w0 w) (hz : w0.heap.size = B) (hown : OB B w v xs)
    (hown' : w1.ownsRow B 5 1 v' (xs.length + 1) (xs.map (Value.int .u8) ++ [.int .u8 x])) (hg : (w.alloc o).grownBy w1 v.ownBlock) : OB B w1 v' (xs ++ [x]) ∧ Bl w0 w1 := by
  subst hz
  exact OB.push hb hb.size hown hown' hg
theorem SB.one {t : ByteArray} {c : UInt8} (h : SB t [c]) : t = ⟨#[c]⟩ := by
  apply ByteArray.ext
  apply Array.toList_inj.1
  exact h
theorem Bl.same {w : World} {g : Nat} {v : Value} (hc : C1 w g v) : Bl (w.setCell ⟨g, 0, none⟩ v) w := by
  obtain ⟨t, hg⟩ := hc
  refine ⟨rfl, rfl, rfl, by simp, fun q hq => ?_⟩
  by_cases hqg : q = g
  · subst hqg
    rw [heap_setCell_same w q 0 _ t v hg, hg]; rfl
  · rw [Below.heap_setCell _ _ _ _ hqg]
def cellLen (w : World) (b : Nat) : Nat := match w.cell? ⟨b, 0, none⟩ with | some (.string s) => s.size | _ => 0
theorem cellLen_of {w : World} {b : Nat} {s : ByteArray} (h : C1 w b (.string s)) : cellLen w b = s.size := by unfold cellLen; rw [h.cell]

/-- the plain way back of numbers -/
theorem getN_put6 (x : Int) (h0 : 0 ≤ x) (h1 : x < 281474976710656) : getN (bytesN (putN x 6 6)) = x := by
  have e : putN x 6 6 = [x / 1099511627776 % 256, x / 4294967296 % 256, x / 16777216 % 256, x / 65536 % 256, x / 256 % 256, x % 256] := by
    simp [putN, byteAt, List.range, List.range.loop]
  rw [e]
  simp only [bytesN, List.map_cons, List.map_nil, getN, List.foldl_cons, List.foldl_nil]
  have hb : ∀ y : Int, ((UInt8.ofNat (y % 256).toNat).toNat : Int) = y % 256 := by
    intro y
    simp; omega
  simp only [hb]
  omega
theorem putBodyL_cons (x : Int) (xs : List Int) : putBodyL (x :: xs) = bytesN (putN x 6 6) ++ putBodyL xs := by simp [putBodyL]
theorem len6 (x : Int) : (bytesN (putN x 6 6)).length = 6 := by rw [bytesN_len, putN_len]
theorem body_drop (xs : List Int) (more : List UInt8) (j : Nat) (hj : j ≤ xs.length) : (putBodyL xs ++ more).drop (6 * j) = putBodyL (xs.drop j) ++ more := by
  induction j generalizing xs with
  | zero => simp
  | succ j ih =>
    cases xs with
    | nil => simp at hj
    | cons x xs =>
      rw [putBodyL_cons, List.append_assoc, show 6 * (j + 1) = 6 + 6 * j by omega, ← List.drop_drop, List.drop_left' (len6 x), ih xs (by simpa using hj)]
      simp
theorem vals_put (xs : List Int) (more : List UInt8) (hw : ∀ j, j < xs.length → 0 ≤ nth xs j ∧ nth xs j < 281474976710656) : valsL xs.length (putBodyL xs ++ more) = xs := by
  refine getD_ext (valsL_len _ _) fun j hj => ?_
  rw [valsL_len] at hj
  have h1 : nth (valsL xs.length (putBodyL xs ++ more)) j = getN (((putBodyL xs ++ more).drop (6 * j)).take 6) := by
    rw [nth_eq (by rw [valsL_len]; exact hj)]; simp [valsL]
  rw [h1, body_drop xs more j (by omega), List.drop_eq_getElem_cons hj, putBodyL_cons, List.append_assoc, List.take_left' (len6 _), ← nth_eq hj]
  have := hw j hj
  exact getN_put6 _ this.1 this.2
theorem put_head (xs : List Int) (more : List UInt8) (h : xs.length ≤ 8) : (putL xs ++ more).head?.map (·.toNat) = some xs.length := by
  simp [putL]; omega
theorem putL_drop (xs : List Int) (more : List UInt8) : (putL xs ++ more).drop 1 = putBodyL xs ++ more := by simp [putL]

/-- a slice that lies from block B on -/
def FarIA (B : Nat) (w : World) (a : Option Addr) (n : Nat) (xs : List Int) : Prop := IA w a n xs ∧ ∀ b off, a = some ⟨b, off, none⟩ → n = 0 ∨ B ≤ b
theorem FarIA.nil (B : Nat) (w : World) : FarIA B w none 0 [] := ⟨IA.nil _ _, fun _ _ _ => .inl rfl⟩
theorem FarIA.keep {B : Nat} {w w' : World} {a : Option Addr} {n : Nat} {xs : List Int} (h : FarIA B w a n xs) (hb : Bl w w') : FarIA B w' a n xs := ⟨h.1.keep hb, h.2⟩
theorem FarIA.mono {B B' : Nat} {w : World} {a : Option Addr} {n : Nat} {xs : List Int} (h : FarIA B w a n xs) (hB : B' ≤ B) : FarIA B' w a n xs :=
  ⟨h.1, fun b off e => by have := h.2 b off e; omega⟩
theorem FarIA.set {B : Nat} {w : World} {a : Option Addr} {n : Nat} {xs : List Int} (h : FarIA B w a n xs) {q : Nat} (hq : q < B) (j : Nat) (u : Value) : FarIA B (w.setCell ⟨q, j, none⟩ u) a n xs := by
  refine ⟨⟨h.1.len, h.1.cap, fun i hi => ?_, h.1.wf⟩, h.2⟩
  obtain ⟨b, off, e, hc⟩ := h.1.cells i hi
  refine ⟨b, off, e, fun i hi => ?_⟩
  have hne : b ≠ q := by
    have := h.2 b off e
    omega
  rw [← hc i hi]
  unfold World.cell?
  rw [Below.heap_setCell _ _ _ _ hne]
theorem FI.far {B : Nat} {w : World} {a : Option Addr} {n ca : Nat} {xs : List Int} (h : FI B w (.slice a n ca) xs) : FarIA B w a n xs := by
  obtain ⟨a', n', ca', e, hI⟩ := h.si
  cases e
  refine ⟨hI, fun b off e => ?_⟩
  obtain ⟨-, ⟨h1, -⟩ | ⟨g, cap, cur, hv, hB, -⟩⟩ := h.own
  · cases h1; cases e
  · cases hv
    cases e
    exact .inr hB
/-- vec.Get, whatever the bytes are -/
theorem vget_all (s : ByteArray) (l : List UInt8) (w : World) (hs : SB s l) (hz : l.length ≤ 2000000) :
    Calls Tryz.prog 157 #[.string s] w fun e w' => ∃ (a : Option Addr) (n ca : Nat) (xs : List Int) (k c : Int), e = .returned (.tuple #[.slice a n ca, .int .i64 k, .int .i64 c]) ∧ Bl w w' ∧ (c = 0 ∨ c = 3 ∨ c = 4) ∧ FarIA w.heap.size w' a n xs ∧
      ∀ ys, validL ys = true → l = putL ys → c = 0 ∧ xs = ys := by
  by_cases h0 : s.size = 0
  · refine (vget_none s w h0).mono ?_
    rintro e w' ⟨rfl, hb⟩
    refine ⟨none, 0, 0, [], 0, 3, rfl, hb, .inr (.inl rfl), FarIA.nil _ _, fun ys _ hl => ?_⟩
    rw [hs.size, hl] at h0
    simp [putL] at h0
  · have hl1 : 1 ≤ l.length := by rw [← hs.size]; omega
    cases l with
    | nil => simp at hl1
    | cons d l =>
      have hh : (d :: l).head?.map (·.toNat) = some d.toNat := rfl
      have hput : ∀ ys, validL ys = true → d :: l = putL ys → d.toNat = ys.length ∧ ys.length ≤ 8 ∧ 1 ≤ ys.length := by
        intro ys hy e
        have hv := valid_parts hy
        have := put_head ys [] hv.2.1
        rw [List.append_nil, ← e] at this
        exact ⟨by simpa using this, hv.2.1, hv.1⟩
      by_cases hf : d.toNat < 1 ∨ 8 < d.toNat
      · refine (vget_form s (d :: l) d.toNat w hs hl1 hh hf).mono ?_
        rintro e w' ⟨rfl, hb⟩
        refine ⟨none, 0, 0, [], 0, 4, rfl, hb, .inr (.inr rfl), FarIA.nil _ _, fun ys hy hl => ?_⟩
        have := hput ys hy hl
        omega
      · refine (vget_loop s (d :: l) d.toNat w hs hz hl1 hh (by omega)).mono ?_
        intro e w' hp
        unfold GetPost at hp
        split at hp
        · obtain ⟨v, rfl, hfi, hb⟩ := hp
          obtain ⟨a, n, ca, rfl, hI⟩ := hfi.si
          refine ⟨a, n, ca, _, _, 0, rfl, hb, .inl rfl, hfi.far, fun ys hy hl => ⟨rfl, ?_⟩⟩
          have h3 := hput ys hy hl
          have h4 := vals_put ys [] (valid_parts hy).2.2
          have h5 := putL_drop ys []
          rw [List.append_nil] at h5
          rw [hl, h5, h3.1, h4]
        · obtain ⟨rfl, hb⟩ := hp
          refine ⟨none, 0, 0, [], 0, 3, rfl, hb, .inr (.inl rfl), FarIA.nil _ _, fun ys hy hl => ?_⟩
          have := hput ys hy hl
          rename_i hno
          rw [hl, putL_len] at hno
          omega
theorem getN1_bound (l : List UInt8) : 0 ≤ getN (l.take 1) ∧ getN (l.take 1) ≤ 255 := by
  cases l with
  | nil => simp [getN]
  | cons c l =>
    have := UInt8.toNat_lt c
    simp [getN]; omega
theorem AC.setj {w : World} {g : Nat} {cs : List Value} (h : AC w g cs) (j : Nat) (v : Value) : AC (w.setCell ⟨g, j, none⟩ v) g (cs.set j v) := by
  obtain ⟨t, h⟩ := h
  exact ⟨t, by rw [heap_setCell_same w g j _ t v h]; simp⟩
theorem C1.otherj {w : World} {g g' j : Nat} {v u : Value} (h : C1 w g v) (hn : g ≠ g') : C1 (w.setCell ⟨g', j, none⟩ u) g v := by
  obtain ⟨t, h⟩ := h
  exact ⟨t, by rw [Below.heap_setCell _ _ _ _ hn]; exact h⟩
end Go.Proofs.YtkpikmfijcffiaaGreat
end

/- worlds that agree below a block. By an AI agent. -/
section
set_option linter.unusedVariables false
set_option linter.unusedSimpArgs false
namespace Go.Proofs.YtkpikmfijcffiaaGreat
open Go.RowKit

theorem AC.below {B : Nat} {w w' : World} {g : Nat} {cs : List Value} (h : AC w g cs) (hb : Below B w w') (hg : g < B) : AC w' g cs := by
  obtain ⟨t, h⟩ := h
  exact ⟨t, by rw [hb.block g hg]; exact h⟩
theorem C1.below {B : Nat} {w w' : World} {g : Nat} {v : Value} (h : C1 w g v) (hb : Below B w w') (hg : g < B) : C1 w' g v := by
  obtain ⟨t, h⟩ := h
  exact ⟨t, by rw [hb.block g hg]; exact h⟩
theorem IA.below {B : Nat} {w w' : World} {a : Option Addr} {n : Nat} {xs : List Int} (h : IA w a n xs) (hb : Below B w w') (hg : ∀ b off, a = some ⟨b, off, none⟩ → n = 0 ∨ b < B) : IA w' a n xs := by
  refine ⟨h.len, h.cap, fun i hi => ?_, h.wf⟩
  obtain ⟨b, off, e, hc⟩ := h.cells i hi
  refine ⟨b, off, e, fun i hi => ?_⟩
  have hB : b < B := by
    have := hg b off e
    omega
  rw [← hc i hi]
  unfold World.cell?
  rw [hb.block b hB]
end Go.Proofs.YtkpikmfijcffiaaGreat
end

/- what is the same, part by part. By an AI agent. -/
section
set_option linter.unusedVariables false
namespace Go.Proofs.YtkpikmfijcffiaaGreat
open Go.RowKit

theorem size_nil (s : ByteArray) : s.data.toList.length = s.size := by simp
theorem toList_inj {s t : ByteArray} (h : s.toList = t.toList) : s = t := by
  rw [ByteArray.toList_eq, ByteArray.toList_eq] at h
  exact ByteArray.ext (Array.toList_inj.1 h)
theorem sameA_parts {a b : ActL} (h : sameA a b = true) : a.k = b.k ∧ fkey a.x = fkey b.x ∧ a.n = b.n ∧ a.s = b.s := by
  simp only [sameA, Bool.and_eq_true, decide_eq_true_eq, beq_iff_eq] at h
  exact ⟨h.1, h.2.1, h.2.2.1, toList_inj h.2.2.2⟩
theorem sameV_parts {a b : ValL} (h : sameV a b = true) : a.there = b.there ∧ fkey a.x = fkey b.x ∧ a.n = b.n ∧ a.s = b.s := by
  simp only [sameV, Bool.and_eq_true, decide_eq_true_eq, beq_iff_eq] at h
  exact ⟨h.1, h.2.1, h.2.2.1, toList_inj h.2.2.2⟩
end Go.Proofs.YtkpikmfijcffiaaGreat
end

/- the one word of what is no number. By an AI agent. -/
section
namespace Go.Proofs.YtkpikmfijcffiaaGreat
open Go.RowKit

def nanW : Nat := 9221120237041090561
def canon (x : Nat) : Nat := if nanB x then nanW else x
theorem canon_key (x : Nat) : fkey (canon x) = fkey x := by
  cases h : nanB x
  · have : canon x = x := by unfold canon; rw [h]; rfl
    rw [this]
  · have : canon x = nanW := by unfold canon; rw [h]; rfl
    have h2 : fkey x = 0 := by unfold fkey; rw [h]; rfl
    rw [this, h2]
    decide +kernel
end Go.Proofs.YtkpikmfijcffiaaGreat
end

/- real.Get: plain facts. By an AI agent. -/
section
namespace Go.Proofs.YtkpikmfijcffiaaGreat
open Go.RowKit

theorem wraps_u64' (n : Int) (h₀ : 0 ≤ n) (h₁ : n < 2 ^ 64) : IntKind.u64.wrap n = n := by rw [IntKind.wrap_u64]; omega
theorem or_u8 (a b : Int) (h0 : 0 ≤ a) (h1 : a * 256 + 255 < 18446744073709551616) (h2 : 0 ≤ b) (h3 : b < 256) : bits .or .u64 (a * 256) b = a * 256 + b :=
  bits_join .u64 64 (by decide) wraps_u64' 8 _ _ (by omega) (by omega) (by omega) h2 (by omega) (by omega)
theorem top_test (u : Nat) (h : u < two64) : u.testBit 63 = decide (two63 ≤ u) := by
  rw [Nat.testBit_eq_decide_div_mod_eq]
  congr 1
  unfold two63 two64 at *
  apply propext
  omega
theorem and_bit (u : Nat) (h : u < two64) : u &&& 2 ^ 63 = if two63 ≤ u then 2 ^ 63 else 0 := by
  apply Nat.eq_of_testBit_eq
  intro i
  rw [Nat.testBit_and, Nat.testBit_two_pow]
  by_cases k : 63 = i
  · subst k
    rw [top_test u h]
    by_cases q : two63 ≤ u
    · rw [if_pos q, decide_eq_true q, Nat.testBit_two_pow_self]; rfl
    · rw [if_neg q, decide_eq_false q]; simp
  · rw [decide_eq_false k, Bool.and_false]
    split
    · rw [Nat.testBit_two_pow, decide_eq_false k]
    · simp
theorem and_top (u : Nat) (h : u < two64) : bits .and .u64 (u : Int) 9223372036854775808 = if two63 ≤ u then 9223372036854775808 else 0 := by
  rw [show (9223372036854775808 : Int) = ((9223372036854775808 : Nat) : Int) from rfl, u64_and_nat _ _ h (by decide), show (9223372036854775808 : Nat) = 2 ^ 63 from rfl, and_bit u h]
  by_cases k : two63 ≤ u
  · rw [if_pos k, if_pos k]
  · rw [if_neg k, if_neg k]; rfl
theorem andNot_top (u : Nat) (h : u < two64) (k : two63 ≤ u) : bits .andNot .u64 (u : Int) 9223372036854775808 = ((u - two63 : Nat) : Int) := by
  have e : u % 2 ^ 63 = u - two63 := by unfold two63 two64 at *; omega
  rw [show (9223372036854775808 : Int) = ((9223372036854775808 : Nat) : Int) from rfl, u64_andNot_nat _ _ h (by decide), show 18446744073709551615 - 9223372036854775808 = 2 ^ 63 - 1 from rfl, Nat.and_two_pow_sub_one_eq_mod, e]

/-- what eight bytes are -/
def backW (u : Nat) : Nat := if two63 ≤ u then u - two63 else two64 - 1 - u
def getR (u : Nat) : Nat × Int := if u = 0 then (nanW, 0) else if nanB (backW u) then (0, 4) else (backW u, 0)
theorem backW_lt {u : Nat} (h : u < two64) : backW u < two64 := by unfold backW two63 two64 at *; split <;> omega
theorem getR_back {x : Nat} (hx : x < two64) : getR (fkey x) = (canon x, 0) := by
  unfold canon
  cases h : nanB x
  · have hk := fkey_num h
    have hi : x % two63 ≤ infR := by
      unfold nanB at h
      rw [decide_eq_false_iff_not] at h; omega
    have e : fkey x ≠ 0 ∧ backW (fkey x) = x := by
      rw [hk]
      unfold backW
      by_cases k : two63 ≤ x
      · rw [if_pos k]
        refine ⟨by unfold infR two63 two64 at *; omega, ?_⟩
        rw [if_neg (by unfold two63 two64 at *; omega)]
        unfold two63 two64 at *; omega
      · rw [if_neg k]
        refine ⟨by unfold two63; omega, ?_⟩
        rw [if_pos (by omega)]; omega
    unfold getR
    rw [if_neg e.1, e.2, h]; rfl
  · unfold getR fkey
    rw [h]; rfl
theorem getN_put8 (u : Nat) (h : u < two64) : getN (bytesN8 u) = u := by
  have hl := bytesN8_len u
  have hp := put8_at u
  generalize bytesN8 u = l at *
  match l, hl with
  | [b0, b1, b2, b3, b4, b5, b6, b7], _ =>
    have h0 := hp 0 (by decide)
    have h1 := hp 1 (by decide)
    have h2 := hp 2 (by decide)
    have h3 := hp 3 (by decide)
    have h4 := hp 4 (by decide)
    have h5 := hp 5 (by decide)
    have h6 := hp 6 (by decide)
    have h7 := hp 7 (by decide)
    simp only [List.drop_succ_cons, List.drop_zero, List.head?_cons, Option.map_some, Option.some.injEq] at h0 h1 h2 h3 h4 h5 h6 h7
    simp only [getN, List.foldl_cons, List.foldl_nil]
    unfold two64 at h
    omega
end Go.Proofs.YtkpikmfijcffiaaGreat
end

/- acts in bytes: plain definitions and laws. By an AI agent. -/
section
namespace Go.Proofs.YtkpikmfijcffiaaGreat
open Go.RowKit

/-- an act's bytes -/
def putA (a : ActL) : List UInt8 :=
  if a.k = 0 then (if a.s.toList.isEmpty then 0 :: 110 :: bytesN8 (fkey a.x) else 0 :: 116 :: a.s.data.toList)
  else if a.k = 1 then 1 :: bytesN8 (a.n % 18446744073709551616).toNat
  else if a.k = 2 then 2 :: bytesN8 (fkey a.x)
  else if a.k = 3 then 3 :: bytesN8 (fkey a.x)
  else [4]
def badA : ActL × Int := (⟨0, 0, 0, nilS⟩, 4)
/-- an act with a number, read -/
def numA (k : Int) (m : List UInt8) : ActL × Int := if m.length = 8 ∧ (getR (getN m).toNat).2 = 0 then (⟨k, (getR (getN m).toNat).1, 0, nilS⟩, 0) else badA
/-- what comes behind the kind 0 -/
def setA (l : List UInt8) : ActL × Int :=
  if l = [] then badA
  else if l.headD 0 = 110 then numA 0 l.tail
  else if l.headD 0 = 116 then (if 2 ≤ l.length ∧ l.length ≤ 1025 then (⟨0, 0, 0, ⟨l.tail.toArray⟩⟩, 0) else badA)
  else badA
/-- an act read out of bytes: the act, and the code -/
def getA (l : List UInt8) : ActL × Int :=
  if l = [] then badA
  else if l.headD 0 = 0 then setA l.tail
  else if l.headD 0 = 1 then (if l.tail.length = 8 then (⟨1, 0, wrap64 (getN l.tail), nilS⟩, 0) else badA)
  else if l.headD 0 = 2 then numA 2 l.tail
  else if l.headD 0 = 3 then numA 3 l.tail
  else if l.headD 0 = 4 then (if l.tail = [] then (⟨4, 0, 0, nilS⟩, 0) else badA)
  else badA

def putS (a : ActL) : List UInt8 := if rightB a then putA a else []
def putC (a : ActL) : Int := if rightB a then 0 else 40
theorem numA_back (k : Int) {x : Nat} (hx : x < two64) : numA k (bytesN8 (fkey x)) = (⟨k, canon x, 0, nilS⟩, 0) := by
  have h : getN (bytesN8 (fkey x)) = (fkey x : Int) := getN_put8 _ (fkey_lt hx)
  unfold numA
  rw [h, Int.toNat_natCast, getR_back hx, if_pos ⟨bytesN8_len _, rfl⟩]
theorem right_size {a : ActL} (h : rightB a = true) : a.s.size ≤ 1024 := by
  simp only [rightB, Bool.and_eq_true, decide_eq_true_eq] at h
  exact h.1
theorem right_kind {a : ActL} (ok : a.Ok) (h : rightB a = true) :
    (a.k = 0 ∧ a.n = 0 ∧ (a.s = nilS ∨ (a.s ≠ nilS ∧ a.x = 0))) ∨ (a.k = 1 ∧ a.x = 0 ∧ a.s = nilS) ∨ ((a.k = 2 ∨ a.k = 3) ∧ a.n = 0 ∧ a.s = nilS) ∨ (a.k = 4 ∧ a.x = 0 ∧ a.n = 0 ∧ a.s = nilS) := by
  simp only [rightB, Bool.and_eq_true] at h
  have h := h.2
  by_cases h0 : a.k = 0
  · rw [if_pos h0] at h
    simp only [Bool.and_eq_true, Bool.or_eq_true, decide_eq_true_eq] at h
    refine .inl ⟨h0, h.1, ?_⟩
    by_cases hs : a.s = nilS
    · exact .inl hs
    · refine .inr ⟨hs, ?_⟩
      rcases h.2 with k | k
      · exact absurd (nil_of (by simpa using k)) hs
      · exact nought_eq ok.x k
  · rw [if_neg h0] at h
    by_cases h1 : a.k = 1
    · rw [if_pos h1] at h
      simp only [Bool.and_eq_true] at h
      exact .inr (.inl ⟨h1, nought_eq ok.x h.1, nil_of (by simpa using h.2)⟩)
    · rw [if_neg h1] at h
      by_cases h2 : a.k = 2 ∨ a.k = 3
      · rw [if_pos h2] at h
        simp only [Bool.and_eq_true, decide_eq_true_eq] at h
        exact .inr (.inr (.inl ⟨h2, h.1, nil_of (by simpa using h.2)⟩))
      · rw [if_neg h2] at h
        by_cases h4 : a.k = 4
        · rw [if_pos h4] at h
          simp only [Bool.and_eq_true, decide_eq_true_eq] at h
          exact .inr (.inr (.inr ⟨h4, nought_eq ok.x h.1, h.2.1, nil_of (by simpa using h.2.2)⟩))
        · rw [if_neg h4] at h; cases h
theorem nil_empty : nilS.toList.isEmpty = true := by rw [nil_list]; rfl
theorem not_empty {s : ByteArray} (h : s ≠ nilS) : s.toList.isEmpty = false := by
  cases hs : s.toList with
  | nil => exact absurd (nil_of hs) h
  | cons a l => rfl
theorem back_int {n : Int} (h : -9223372036854775808 ≤ n ∧ n ≤ 9223372036854775807) : wrap64 (getN (bytesN8 (n % 18446744073709551616).toNat)) = n := by
  have hb : (n % 18446744073709551616).toNat < two64 := by unfold two64; omega
  rw [getN_put8 _ hb]
  unfold wrap64; omega
/-- what is put is got as it was -/
theorem getA_putA {a : ActL} (ok : a.Ok) (h : rightB a = true) : (getA (putA a)).2 = 0 ∧ sameA a (getA (putA a)).1 = true := by
  have hz := right_size h
  rcases right_kind ok h with ⟨k, n0, hs | ⟨hs, x0⟩⟩ | ⟨k, x0, s0⟩ | ⟨k, n0, s0⟩ | ⟨k, x0, n0, s0⟩
  · have e : putA a = 0 :: 110 :: bytesN8 (fkey a.x) := by unfold putA; rw [if_pos k, hs, nil_empty]; rfl
    have e2 : getA (putA a) = (⟨0, canon a.x, 0, nilS⟩, 0) := by
      rw [e]
      show numA 0 (bytesN8 (fkey a.x)) = _
      exact numA_back 0 ok.x
    rw [e2]
    refine ⟨rfl, ?_⟩
    simp [sameA, k, n0, hs, canon_key]
  · have e : putA a = 0 :: 116 :: a.s.data.toList := by unfold putA; rw [if_pos k, not_empty hs]; rfl
    have hl : 1 ≤ a.s.data.toList.length := by
      cases hd : a.s.data.toList with
      | nil => exact absurd (nil_of (by rw [ByteArray.toList_eq]; exact hd)) hs
      | cons b l => simp
    have hl2 : a.s.data.toList.length ≤ 1024 := by simpa using hz
    have e2 : getA (putA a) = (⟨0, 0, 0, ⟨a.s.data.toList.toArray⟩⟩, 0) := by
      rw [e]
      show (if 2 ≤ (116 :: a.s.data.toList).length ∧ (116 :: a.s.data.toList).length ≤ 1025 then ((⟨0, 0, 0, ⟨a.s.data.toList.toArray⟩⟩, 0) : ActL × Int) else badA) = _
      rw [if_pos (by rw [List.length_cons]; omega)]
    rw [e2]
    refine ⟨rfl, ?_⟩
    simp [sameA, k, n0, x0]
  · have e : putA a = 1 :: bytesN8 (a.n % 18446744073709551616).toNat := by unfold putA; rw [if_neg (by omega), if_pos k]
    have e2 : getA (putA a) = (⟨1, 0, a.n, nilS⟩, 0) := by
      rw [e]
      show (if (bytesN8 (a.n % 18446744073709551616).toNat).length = 8 then ((⟨1, 0, wrap64 (getN (bytesN8 (a.n % 18446744073709551616).toNat)), nilS⟩, 0) : ActL × Int) else badA) = _
      rw [if_pos (bytesN8_len _), back_int ok.n]
    rw [e2]
    refine ⟨rfl, ?_⟩
    simp [sameA, k, x0, s0]
  · rcases k with k | k
    · have e : putA a = 2 :: bytesN8 (fkey a.x) := by unfold putA; rw [if_neg (by omega), if_neg (by omega), if_pos k]
      have e2 : getA (putA a) = (⟨2, canon a.x, 0, nilS⟩, 0) := by
        rw [e]
        show numA 2 (bytesN8 (fkey a.x)) = _
        exact numA_back 2 ok.x
      rw [e2]
      refine ⟨rfl, ?_⟩
      simp [sameA, k, n0, s0, canon_key]
    · have e : putA a = 3 :: bytesN8 (fkey a.x) := by unfold putA; rw [if_neg (by omega), if_neg (by omega), if_neg (by omega), if_pos k]
      have e2 : getA (putA a) = (⟨3, canon a.x, 0, nilS⟩, 0) := by
        rw [e]
        show numA 3 (bytesN8 (fkey a.x)) = _
        exact numA_back 3 ok.x
      rw [e2]
      refine ⟨rfl, ?_⟩
      simp [sameA, k, n0, s0, canon_key]
  · have e : putA a = [4] := by unfold putA; rw [if_neg (by omega), if_neg (by omega), if_neg (by omega), if_neg (by omega)]
    have e2 : getA (putA a) = (⟨4, 0, 0, nilS⟩, 0) := by rw [e]; rfl
    rw [e2]
    refine ⟨rfl, ?_⟩
    simp [sameA, k, n0, s0, x0]
theorem numA_kind (k : Int) (m : List UInt8) (h : (numA k m).2 = 0) : (numA k m).1.k = k := by
  unfold numA at *
  split
  · rfl
  · rename_i q; rw [if_neg q] at h; exact absurd h (by decide)
theorem setA_kind (l : List UInt8) (h : (setA l).2 = 0) : (setA l).1.k = 0 := by
  unfold setA at *
  by_cases h1 : l = []
  · rw [if_pos h1]; rfl
  · rw [if_neg h1] at h ⊢
    by_cases h2 : l.headD 0 = 110
    · rw [if_pos h2] at h ⊢; exact numA_kind _ _ h
    · rw [if_neg h2] at h ⊢
      by_cases h3 : l.headD 0 = 116
      · rw [if_pos h3]; split <;> rfl
      · rw [if_neg h3]; rfl
/-- an act's kind is its first byte -/
theorem getA_kind (c : UInt8) (l : List UInt8) (h : (getA (c :: l)).2 = 0) : (getA (c :: l)).1.k = c.toNat := by
  have e : getA (c :: l) = if c = 0 then setA l else if c = 1 then (if l.length = 8 then (⟨1, 0, wrap64 (getN l), nilS⟩, 0) else badA) else if c = 2 then numA 2 l else if c = 3 then numA 3 l else if c = 4 then (if l = [] then (⟨4, 0, 0, nilS⟩, 0) else badA) else badA := by
    unfold getA; rw [if_neg (by simp)]; rfl
  rw [e] at h ⊢
  by_cases h0 : c = 0
  · rw [if_pos h0] at h ⊢; subst h0; exact setA_kind _ h
  · rw [if_neg h0] at h ⊢
    by_cases h1 : c = 1
    · rw [if_pos h1] at h ⊢; subst h1
      by_cases hl : l.length = 8
      · rw [if_pos hl]; rfl
      · rw [if_neg hl] at h; exact absurd h (by decide)
    · rw [if_neg h1] at h ⊢
      by_cases h2 : c = 2
      · rw [if_pos h2] at h ⊢; subst h2; exact numA_kind _ _ h
      · rw [if_neg h2] at h ⊢
        by_cases h3 : c = 3
        · rw [if_pos h3] at h ⊢; subst h3; exact numA_kind _ _ h
        · rw [if_neg h3] at h ⊢
          by_cases h4 : c = 4
          · rw [if_pos h4] at h ⊢; subst h4
            by_cases hl : l = []
            · rw [if_pos hl]; rfl
            · rw [if_neg hl] at h; exact absurd h (by decide)
          · rw [if_neg h4] at h; exact absurd h (by decide)
theorem getA_codes (l : List UInt8) : (getA l).2 = 0 ∨ (getA l).2 = 4 := by
  have hn : ∀ k m, (numA k m).2 = 0 ∨ (numA k m).2 = 4 := fun k m => by unfold numA; split; exact .inl rfl; exact .inr rfl
  unfold getA setA
  (repeat' split) <;> first | exact .inl rfl | exact .inr rfl | exact hn _ _
theorem putA_ne (a : ActL) : ∃ c l, putA a = c :: l := by
  unfold putA
  (repeat' split) <;> exact ⟨_, _, rfl⟩
theorem putA_kind {a : ActL} (h : rightB a = true) (ok : a.Ok) : ∃ c l, putA a = c :: l ∧ a.k = c.toNat := by
  unfold putA
  rcases right_kind ok h with ⟨k, _⟩ | ⟨k, _⟩ | ⟨k | k, _⟩ | ⟨k, _⟩
  · rw [if_pos k]; split <;> exact ⟨_, _, rfl, k⟩
  · rw [if_neg (by omega), if_pos k]; exact ⟨_, _, rfl, k⟩
  · rw [if_neg (by omega), if_neg (by omega), if_pos k]; exact ⟨_, _, rfl, k⟩
  · rw [if_neg (by omega), if_neg (by omega), if_neg (by omega), if_pos k]; exact ⟨_, _, rfl, k⟩
  · rw [if_neg (by omega), if_neg (by omega), if_neg (by omega), if_neg (by omega)]; exact ⟨_, _, rfl, k⟩
theorem putA_len {a : ActL} (h : rightB a = true) : (putA a).length ≤ 1026 := by
  have hz := right_size h
  have hz2 : a.s.data.toList.length ≤ 1024 := by simpa using hz
  unfold putA
  (repeat' split) <;> simp only [List.length_cons, bytesN8_len, List.length_nil] <;> omega
end Go.Proofs.YtkpikmfijcffiaaGreat
end
