import Derived.Test.YtkpikmfijcffiaaGreatQTxnWritesUptoP8
import Derived.Test.YtkpikmfijcffiaaGreatQTxnWritesUptoP10
import Derived.Lib.FrozenHead
import Derived.Test.YtkpikmfijcffiaaGreatQBase

/- WriteString leaves every other block as it is. · builders that String has read and that are written on. By an AI agent. -/
section
set_option linter.unusedVariables false
set_option linter.unusedSimpArgs false
namespace Go.Proofs.YtkpikmfijcffiaaGreat
open Go.RowKit Go.Shelf

/-- the builder's row is not this block -/
def Far (b g : Nat) (w : World) : Prop := ∀ v, w.cell? ⟨b, 1, none⟩ = some v → v.ownBlock ≠ some g
theorem BI.form {B b : Nat} {l : List UInt8} {w : World} (h : BI B b l w) : ∃ p v, AC w b [p, v] ∧ w.ownsRow B 5 1 v (Lib.byteCells l).length (Lib.byteCells l) := by
  rcases h with ⟨_, v, h2, h3, _⟩ | ⟨_, v, h2, h3, _⟩
  · exact ⟨_, v, ⟨_, h2⟩, h3⟩
  · exact ⟨_, v, ⟨_, h2⟩, h3⟩
theorem BI.lt {B b : Nat} {l : List UInt8} {w : World} (h : BI B b l w) : b < w.heap.size := by
  rcases h with h | h
  · exact h.lt
  · exact h.lt
theorem Far.new {B b : Nat} {l : List UInt8} {w : World} (h : BI B b l w) (o : Obj) : Far b w.heap.size (w.alloc o) := by
  obtain ⟨p, v, hA, hr⟩ := h.form
  intro u hu e
  have := (hA.keep ((Bl.refl w).alloc o)).cell 1 _ rfl
  rw [this] at hu
  obtain rfl := Option.some.inj hu
  exact absurd (hr.lt _ e).2 (Nat.lt_irrefl _)
theorem Far.keep {B b g : Nat} {l : List UInt8} {w w' : World} (h : Far b g w) (hB : BI B b l w) (k : Bl w w') : Far b g w' := by
  obtain ⟨p, v, hA, hr⟩ := hB.form
  intro u hu
  have h1 := hA.cell 1 _ rfl
  rw [(hA.keep k).cell 1 _ rfl] at hu
  exact h u (by rw [h1, hu])

set_option maxHeartbeats 2000000 in
set_option maxRecDepth 100000 in
theorem copyCheck_far (B b : Nat) (bs : List Value) (w : World) (h : Lib.IsBuilder 110 5 B b bs w) (g : Nat) (hgb : g ≠ b) :
    Calls Tryz.prog 153 #[.pointer (some ⟨b, 0, none⟩)] w fun e w' => e = .returned (.tuple #[]) ∧ (Lib.BuilderAt 110 5 B b (.pointer (some ⟨b, 0, none⟩)) bs w' ∧ Below B w w') ∧ w'.heap[g]? = w.heap[g]? ∧ w'.heap.size = w.heap.size ∧ w'.cell? ⟨b, 1, none⟩ = w.cell? ⟨b, 1, none⟩ := by
  rcases h with h | h
  · refine (copyCheck_fresh b w h.cell0 h.shape h.frozen0).mono ?_
    rintro e w' ⟨rfl, rfl⟩
    have hk := h
    obtain ⟨_, v, hb, _⟩ := hk
    have hA : AC w b [.pointer none, v] := ⟨_, hb⟩
    exact ⟨rfl, ⟨h.used _, (Below.refl B w).setCell (p := ⟨b, 0, none⟩) h.1 _⟩, Below.heap_setCell _ _ _ _ hgb, by simp, by rw [(hA.setj 0 _).cell 1 _ rfl, hA.cell 1 _ rfl]⟩
  · refine (copyCheck_used b w h.cell0).mono ?_
    rintro e w' ⟨rfl, rfl⟩
    exact ⟨rfl, ⟨h, Below.refl B _⟩, rfl, rfl, rfl⟩

set_option maxHeartbeats 2000000 in
set_option maxRecDepth 100000 in
theorem writeString_far (B b : Nat) (bs : List Value) (s : ByteArray) (w : World) (h : Lib.IsBuilder 110 5 B b bs w) (hlen : bs.length + s.size ≤ 140737488355328) (hBw : B ≤ w.heap.size) (g : Nat) (hg : g < w.heap.size) (hgb : g ≠ b) (hF : Far b g w) :
    Calls Tryz.prog 98 #[.pointer (some ⟨b, 0, none⟩), .string s] w fun e w' => e = .returned (.tuple #[.int .i64 s.size, .nilIface]) ∧ (Lib.BuilderAt 110 5 B b (.pointer (some ⟨b, 0, none⟩)) (bs ++ Lib.strCells s) w' ∧ Below B w w') ∧ w'.heap[g]? = w.heap[g]? := by
  obtain ⟨i0, hi, hz0, hz1, hz2⟩ := info_parts info_byte
  go_enter Tryz.func98, Tryz.ntmps98
  go_wp2_with fail
  refine (copyCheck_far B b bs _ h g hgb).mono ?_
  rintro e w1 ⟨rfl, ⟨h1, hb1⟩, hh1, hs1, hc1⟩
  obtain ⟨hB, v, hbk, hown, hne⟩ := h1
  have c0 : w1.cell? ⟨b, 0, none⟩ = some (.pointer (some ⟨b, 0, none⟩)) := by rw [Lib.cell_of_heap hbk]; rfl
  have c1 : w1.cell? ⟨b, 1, none⟩ = some v := by rw [Lib.cell_of_heap hbk]; rfl
  have hvg : some g ≠ v.ownBlock := fun e => hF v (by rw [← hc1]; exact c1) e.symm
  have HH := Lib.hid hh1
  have HS := Lib.hid hs1
  clear hh1 hs1 hc1 hF
  go_wp2_with (at_builtin; refine Lib.wpList_append_own_string _ rfl _ _ 108 9 rfl B 5 i0 Tryz.underlying108 Tryz.underlying9 hi hz0 hz1 hz2 _ _ _ rfl hown s rfl ?c3 ?c4 ?c5 ?_)
  case c3 => unfold maxLen; omega
  case c4 => omega
  case c5 => have := hb1.size; omega
  intro v' w2 hown' hgrow _
  have hlt : b < w1.heap.size := by
    rcases Nat.lt_or_ge b w1.heap.size with h' | h'
    · exact h'
    · simp [Array.getElem?_eq_none h'] at hbk
  have hb2 : w2.heap[b]? = some (.cells #[.pointer (some ⟨b, 0, none⟩), v] 110 (0, 0)) := by
    rw [hgrow.block b hlt (fun e => hne e.symm)]
    exact hbk
  have d0 : w2.cell? ⟨b, 0, none⟩ = some (.pointer (some ⟨b, 0, none⟩)) := by rw [Lib.cell_of_heap hb2]; rfl
  have d1 : w2.cell? ⟨b, 1, none⟩ = some v := by rw [Lib.cell_of_heap hb2]; rfl
  have f1 : w2.frozen? ⟨b, 1, none⟩ = false := Lib.frozen_of_heap hb2 1
  obtain ⟨ao, n', cap, rfl⟩ : ∃ ao n' cap, v' = .slice ao n' cap := by
    rcases hown'.2 with ⟨hv, _⟩ | ⟨g, cap, cur, hv, _⟩
    · exact ⟨_, _, _, hv⟩
    · exact ⟨_, _, _, hv⟩
  go_wp2_with fail
  go_ret2
  refine ⟨rfl, ⟨?_, ?_⟩, ?_⟩
  · exact Lib.BuilderAt.put (T := 110) (e := 5) hB hb2 (bs' := bs ++ Lib.strCells s) (by simpa [Lib.strCells_length] using hown') (by decide)
  · exact (hb1.grown hgrow (by have := hb1.size; omega) (fun k hk => (hown.lt k hk).1)).setCell (p := ⟨b, 1, none⟩) hB _
  · rw [Below.heap_setCell _ _ _ _ hgb, hgrow.block g (by have := HS.out; omega) hvg, HH.out]
theorem bi_writeFar (B b : Nat) (l : List UInt8) (s : ByteArray) (m : List UInt8) (hs : s.data.toList = m) (w : World) (h : BI B b l w) (hlen : l.length + m.length ≤ 140737488355328) (hBw : B ≤ w.heap.size) (g : Nat) (cs : List Value) (hA : AC w g cs) (hgb : g ≠ b) (hF : Far b g w) :
    Calls Tryz.prog 98 #[.pointer (some ⟨b, 0, none⟩), .string s] w fun e w' => e = .returned (.tuple #[.int .i64 s.size, .nilIface]) ∧ BI B b (l ++ m) w' ∧ Below B w w' ∧ AC w' g cs := by
  have hz : s.size = m.length := by rw [← hs]; simp
  obtain ⟨t, ht⟩ := hA
  refine (writeString_far B b _ s w h (by rw [hz]; simpa [Lib.byteCells] using hlen) hBw g (lt_of_heap ht) hgb hF).mono ?_
  rintro e w' ⟨he, ⟨h1, hb⟩, hh⟩
  refine ⟨he, .inr ?_, hb, ⟨t, by rw [hh]; exact ht⟩⟩
  have e : Lib.byteCells (l ++ m) = Lib.byteCells l ++ Lib.strCells s := by
    simp [Lib.byteCells, Lib.strCells, hs]
  rw [e]; exact h1
end Go.Proofs.YtkpikmfijcffiaaGreat

set_option linter.unusedVariables false
set_option linter.unusedSimpArgs false
namespace Go.Proofs.YtkpikmfijcffiaaGreat
open Go.RowKit Go.Shelf

theorem copyCheck_anyF (B b : Nat) (bs : List Value) (w : World) (h : Lib.IsBuilderF 110 5 B b bs w) :
    Calls Tryz.prog 153 #[.pointer (some ⟨b, 0, none⟩)] w fun e w' => e = .returned (.tuple #[]) ∧ (Lib.BuilderAtF 110 5 B b (.pointer (some ⟨b, 0, none⟩)) bs w' ∧ Below B w w') := by
  rcases h with h | h
  · refine (copyCheck_fresh b w h.cell0 h.shape h.frozen0).mono ?_
    rintro e w' ⟨rfl, rfl⟩
    exact ⟨rfl, h.used _, (Below.refl B w).setCell (p := ⟨b, 0, none⟩) h.1 _⟩
  · refine (copyCheck_used b w h.cell0).mono ?_
    rintro e w' ⟨rfl, rfl⟩
    exact ⟨rfl, h, Below.refl B _⟩
set_option maxHeartbeats 1000000 in
set_option maxRecDepth 100000 in
theorem writeString_anyF (B b : Nat) (bs : List Value) (s : ByteArray) (w : World) (h : Lib.IsBuilderF 110 5 B b bs w) (hlen : bs.length + s.size ≤ 140737488355328) (hBw : B ≤ w.heap.size) :
    Calls Tryz.prog 98 #[.pointer (some ⟨b, 0, none⟩), .string s] w fun e w' => e = .returned (.tuple #[.int .i64 s.size, .nilIface]) ∧ (Lib.BuilderAtF 110 5 B b (.pointer (some ⟨b, 0, none⟩)) (bs ++ Lib.strCells s) w' ∧ Below B w w') := by
  obtain ⟨i0, hi, hz0, hz1, hz2⟩ := info_parts info_byte
  go_enter Tryz.func98, Tryz.ntmps98
  go_wp2_with fail
  refine (copyCheck_anyF B b bs _ h).mono ?_
  rintro e w1 ⟨rfl, h1, hb1⟩
  obtain ⟨hB, v, hbk, hown, hne⟩ := h1
  have c0 : w1.cell? ⟨b, 0, none⟩ = some (.pointer (some ⟨b, 0, none⟩)) := by rw [Lib.cell_of_heap hbk]; rfl
  have c1 : w1.cell? ⟨b, 1, none⟩ = some v := by rw [Lib.cell_of_heap hbk]; rfl
  go_wp2_with (at_builtin; refine Lib.wpList_append_own_stringF _ rfl _ _ 108 9 rfl B 5 i0 Tryz.underlying108 Tryz.underlying9 hi hz0 hz1 hz2 _ _ _ rfl hown s rfl ?c3 ?c4 ?c5 ?_)
  case c3 => unfold maxLen; omega
  case c4 => omega
  case c5 => have := hb1.size; omega
  intro v' w2 hown' hgrow _
  have hlt : b < w1.heap.size := by
    rcases Nat.lt_or_ge b w1.heap.size with h' | h'
    · exact h'
    · simp [Array.getElem?_eq_none h'] at hbk
  have hb2 : w2.heap[b]? = some (.cells #[.pointer (some ⟨b, 0, none⟩), v] 110 (0, 0)) := by
    rw [hgrow.block b hlt (fun e => hne e.symm)]
    exact hbk
  have d0 : w2.cell? ⟨b, 0, none⟩ = some (.pointer (some ⟨b, 0, none⟩)) := by rw [Lib.cell_of_heap hb2]; rfl
  have d1 : w2.cell? ⟨b, 1, none⟩ = some v := by rw [Lib.cell_of_heap hb2]; rfl
  have f1 : w2.frozen? ⟨b, 1, none⟩ = false := Lib.frozen_of_heap hb2 1
  obtain ⟨ao, n', cap, rfl⟩ : ∃ ao n' cap, v' = .slice ao n' cap := by
    rcases hown'.2 with ⟨hv, _⟩ | ⟨g, cap, cur, fz, hv, _⟩
    · exact ⟨_, _, _, hv⟩
    · exact ⟨_, _, _, hv⟩
  go_wp2_with fail
  go_ret2
  refine ⟨rfl, ?_, ?_⟩
  · exact Lib.BuilderAtF.put (T := 110) (e := 5) hB hb2 (bs' := bs ++ Lib.strCells s) (by simpa [Lib.strCells_length] using hown') (by decide)
  · exact (hb1.grown hgrow (by have := hb1.size; omega) (fun k hk => (hown.lt k hk).1)).setCell (p := ⟨b, 1, none⟩) hB _

/-- a builder, read or not -/
def BF (B b : Nat) (l : List UInt8) (w : World) : Prop := Lib.IsBuilderF 110 5 B b (Lib.byteCells l) w
theorem BF.of {B b : Nat} {l : List UInt8} {w : World} (h : BI B b l w) : BF B b l w := Lib.IsBuilderF.of h
theorem ownsRowF_bl {w w' : World} {B : Nat} {e : TypeId} {s : Nat} {v : Value} {n : Nat} {xs : List Value} (h : World.ownsRowF w B e s v n xs) (hb : Bl w w') : World.ownsRowF w' B e s v n xs := by
  obtain ⟨h1, h2 | ⟨g, cap, cur, fz, hv, hB, hg, r⟩⟩ := h
  · exact ⟨h1, .inl h2⟩
  · exact ⟨h1, .inr ⟨g, cap, cur, fz, hv, hB, hb.heap hg, r⟩⟩
theorem BF.keep {B b : Nat} {l : List UInt8} {w w' : World} (h : BF B b l w) (hb : Bl w w') : BF B b l w' := by
  rcases h with ⟨h1, v, h2, h3, h4⟩ | ⟨h1, v, h2, h3, h4⟩
  · exact .inl ⟨h1, v, hb.heap h2, ownsRowF_bl h3 hb, h4⟩
  · exact .inr ⟨h1, v, hb.heap h2, ownsRowF_bl h3 hb, h4⟩
theorem bf_write (B b : Nat) (l : List UInt8) (s : ByteArray) (m : List UInt8) (hs : s.data.toList = m) (w : World) (h : BF B b l w) (hlen : l.length + m.length ≤ 140737488355328) (hBw : B ≤ w.heap.size) :
    Calls Tryz.prog 98 #[.pointer (some ⟨b, 0, none⟩), .string s] w fun e w' => e = .returned (.tuple #[.int .i64 s.size, .nilIface]) ∧ BF B b (l ++ m) w' ∧ Below B w w' := by
  have hz : s.size = m.length := by rw [← hs]; simp
  refine (writeString_anyF B b _ s w h (by rw [hz]; simpa [Lib.byteCells] using hlen) hBw).mono ?_
  rintro e w' ⟨he, h1, hb⟩
  refine ⟨he, .inr ?_, hb⟩
  have e : Lib.byteCells (l ++ m) = Lib.byteCells l ++ Lib.strCells s := by
    simp [Lib.byteCells, Lib.strCells, hs]
  rw [e]; exact h1
theorem bf_string (B b : Nat) (l : List UInt8) (w : World) (h : BF B b l w) (hBw : B ≤ w.heap.size) :
    Calls Tryz.prog 101 #[.pointer (some ⟨b, 0, none⟩)] w fun e w' => e = .returned (.string ⟨l.toArray⟩) ∧ BF B b l w' ∧ Below B w w' := Tryz.Builder_String_any_f B b l w h hBw
theorem bf_len (B b : Nat) (l : List UInt8) (w : World) (h : BF B b l w) :
    Calls Tryz.prog 102 #[.pointer (some ⟨b, 0, none⟩)] w fun e w' => e = .returned (.int .i64 (l.length : Int)) ∧ w' = w := by
  refine (Tryz.Builder_Len_f B b _ w h).mono ?_
  rintro e w' ⟨rfl, rfl⟩
  exact ⟨by simp [Lib.byteCells], rfl⟩
end Go.Proofs.YtkpikmfijcffiaaGreat
end

/- bytes that the call itself has made grow. By an AI agent. -/
section
namespace Go.Proofs.YtkpikmfijcffiaaGreat
open Go.RowKit

/-- behind 'append(v, x, y ..)' -/
theorem OB.pushL {B : Nat} {w0 w w1 : World} {v v' : Value} {xs : List Int} {ys : List Int} {o : Obj} (hb : Below B w0 w) (hB : B ≤ w.heap.size) (hown : OB B w v xs)
    (hown' : w1.ownsRow B 5 1 v' (xs.length + ys.length) (xs.map (Value.int .u8) ++ ys.map (Value.int .u8))) (hg : (w.alloc o).grownBy w1 v.ownBlock) : OB B w1 v' (xs ++ ys) ∧ Below B w0 w1 :=
  ⟨by simpa [OB] using hown', (hb.alloc hB o).grown hg (by simp; omega) (fun j hj => (World.ownsRow.lt hown j hj).1)⟩
theorem OB.pushL' {B : Nat} {w0 w w1 : World} {v v' : Value} {xs : List Int} {ys : List Int} (hb : Below B w0 w) (hB : B ≤ w.heap.size) (hown : OB B w v xs)
    (hown' : w1.ownsRow B 5 1 v' (xs.length + ys.length) (xs.map (Value.int .u8) ++ ys.map (Value.int .u8))) (hg : w.grownBy w1 v.ownBlock) : OB B w1 v' (xs ++ ys) ∧ Below B w0 w1 :=
  ⟨by simpa [OB] using hown', hb.grown hg hB (fun j hj => (World.ownsRow.lt hown j hj).1)⟩
theorem OB.keep {B : Nat} {w w' : World} {v : Value} {xs : List Int} (h : OB B w v xs) (hb : Bl w w') : OB B w' v xs := ownsRow_bl h hb
/-- bytes as numbers -/
def numsB (l : List UInt8) : List Int := l.map fun b => (b.toNat : Int)
theorem numsB_append (l m : List UInt8) : numsB (l ++ m) = numsB l ++ numsB m := by simp [numsB]
theorem numsB_len (l : List UInt8) : (numsB l).length = l.length := by simp [numsB]
theorem str_numsB (l : List UInt8) : strOfNums (numsB l) = ⟨l.toArray⟩ := by
  apply ByteArray.ext
  apply Array.toList_inj.1
  show ((numsB l).map fun n => UInt8.ofNat n.toNat) = l
  simp [numsB, Function.comp_def]
end Go.Proofs.YtkpikmfijcffiaaGreat
end
