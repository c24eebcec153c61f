import Derived.Test.YtfmabjoindlfeaaGreatQTxnTellsUptoP17
import Derived.Test.YtfmabjoindlfeaaGreatQTxnTellsUptoP18
import Derived.Lib.FrozenHead
import Derived.Test.YtfmabjoindlfeaaGreatQTxnTellsUptoP1
import Derived.Test.YtfmabjoindlfeaaGreatQTxnTellsUptoP20
import Derived.Test.YtfmabjoindlfeaaGreatQTxnTellsUptoP9
import Derived.Deep.DeepCutAuto
import Derived.Outline
import Derived.Deep.AppendLies
import Derived.StillTailTactics

/- WriteString leaves every other block as it is. · builders that String has read and that are written on. By an AI agent. -/
section
set_option linter.unusedVariables false
set_option linter.unusedSimpArgs false
namespace Go.Proofs.YtfmabjoindlfeaaGreat
open Go.RowKit Go.Shelf

/-- the builder's row is not this block -/
def Far (b g : Nat) (w : World) : Prop := ∀ v, w.cell? ⟨b, 1, none⟩ = some v → v.ownBlock ≠ some g
theorem BI.form {B b : Nat} {l : List UInt8} {w : World} (h : BI B b l w) : ∃ p v, AC w b [p, v] ∧ w.ownsRow B 5 1 v (Lib.byteCells l).length (Lib.byteCells l) := by
  rcases h with ⟨_, v, h2, h3, _⟩ | ⟨_, v, h2, h3, _⟩
  · exact ⟨_, v, ⟨_, h2⟩, h3⟩
  · exact ⟨_, v, ⟨_, h2⟩, h3⟩
theorem BI.lt {B b : Nat} {l : List UInt8} {w : World} (h : BI B b l w) : b < w.heap.size := by
  rcases h with h | h
  · exact h.lt
  · exact h.lt
theorem Far.new {B b : Nat} {l : List UInt8} {w : World} (h : BI B b l w) (o : Obj) : Far b w.heap.size (w.alloc o) := by
  obtain ⟨p, v, hA, hr⟩ := h.form
  intro u hu e
  have := (hA.keep ((Bl.refl w).alloc o)).cell 1 _ rfl
  rw [this] at hu
  obtain rfl := Option.some.inj hu
  exact absurd (hr.lt _ e).2 (Nat.lt_irrefl _)
theorem Far.keep {B b g : Nat} {l : List UInt8} {w w' : World} (h : Far b g w) (hB : BI B b l w) (k : Bl w w') : Far b g w' := by
  obtain ⟨p, v, hA, hr⟩ := hB.form
  intro u hu
  have h1 := hA.cell 1 _ rfl
  rw [(hA.keep k).cell 1 _ rfl] at hu
  exact h u (by rw [h1, hu])

set_option maxHeartbeats 2000000 in
set_option maxRecDepth 100000 in
theorem copyCheck_far (B b : Nat) (bs : List Value) (w : World) (h : Lib.IsBuilder 76 5 B b bs w) (g : Nat) (hgb : g ≠ b) :
    Calls Tryz.prog 119 #[.pointer (some ⟨b, 0, none⟩)] w fun e w' => e = .returned (.tuple #[]) ∧ (Lib.BuilderAt 76 5 B b (.pointer (some ⟨b, 0, none⟩)) bs w' ∧ Below B w w') ∧ w'.heap[g]? = w.heap[g]? ∧ w'.heap.size = w.heap.size ∧ w'.cell? ⟨b, 1, none⟩ = w.cell? ⟨b, 1, none⟩ := by
  rcases h with h | h
  · refine (copyCheck_fresh b w h.cell0 h.shape h.frozen0).mono ?_
    rintro e w' ⟨rfl, rfl⟩
    have hk := h
    obtain ⟨_, v, hb, _⟩ := hk
    have hA : AC w b [.pointer none, v] := ⟨_, hb⟩
    exact ⟨rfl, ⟨h.used _, (Below.refl B w).setCell (p := ⟨b, 0, none⟩) h.1 _⟩, Below.heap_setCell _ _ _ _ hgb, by simp, by rw [(hA.setj 0 _).cell 1 _ rfl, hA.cell 1 _ rfl]⟩
  · refine (copyCheck_used b w h.cell0).mono ?_
    rintro e w' ⟨rfl, rfl⟩
    exact ⟨rfl, ⟨h, Below.refl B _⟩, rfl, rfl, rfl⟩

set_option maxHeartbeats 2000000 in
set_option maxRecDepth 100000 in
theorem writeString_far (B b : Nat) (bs : List Value) (s : ByteArray) (w : World) (h : Lib.IsBuilder 76 5 B b bs w) (hlen : bs.length + s.size ≤ 140737488355328) (hBw : B ≤ w.heap.size) (g : Nat) (hg : g < w.heap.size) (hgb : g ≠ b) (hF : Far b g w) :
    Calls Tryz.prog 27 #[.pointer (some ⟨b, 0, none⟩), .string s] w fun e w' => e = .returned (.tuple #[.int .i64 s.size, .nilIface]) ∧ (Lib.BuilderAt 76 5 B b (.pointer (some ⟨b, 0, none⟩)) (bs ++ Lib.strCells s) w' ∧ Below B w w') ∧ w'.heap[g]? = w.heap[g]? := by
  obtain ⟨i0, hi, hz0, hz1, hz2⟩ := info_parts info_byte
  go_enter Tryz.func27, Tryz.ntmps27
  go_wp2_with fail
  refine (copyCheck_far B b bs _ h g hgb).mono ?_
  rintro e w1 ⟨rfl, ⟨h1, hb1⟩, hh1, hs1, hc1⟩
  obtain ⟨hB, v, hbk, hown, hne⟩ := h1
  have c0 : w1.cell? ⟨b, 0, none⟩ = some (.pointer (some ⟨b, 0, none⟩)) := by rw [Lib.cell_of_heap hbk]; rfl
  have c1 : w1.cell? ⟨b, 1, none⟩ = some v := by rw [Lib.cell_of_heap hbk]; rfl
  have hvg : some g ≠ v.ownBlock := fun e => hF v (by rw [← hc1]; exact c1) e.symm
  have HH := Lib.hid hh1
  have HS := Lib.hid hs1
  clear hh1 hs1 hc1 hF
  go_wp2_with (at_builtin; refine Lib.wpList_append_own_string _ rfl _ _ 74 9 rfl B 5 i0 Tryz.underlying74 Tryz.underlying9 hi hz0 hz1 hz2 _ _ _ rfl hown s rfl ?c3 ?c4 ?c5 ?_)
  case c3 => unfold maxLen; omega
  case c4 => omega
  case c5 => have := hb1.size; omega
  intro v' w2 hown' hgrow _
  have hlt : b < w1.heap.size := by
    rcases Nat.lt_or_ge b w1.heap.size with h' | h'
    · exact h'
    · simp [Array.getElem?_eq_none h'] at hbk
  have hb2 : w2.heap[b]? = some (.cells #[.pointer (some ⟨b, 0, none⟩), v] 76 (0, 0)) := by
    rw [hgrow.block b hlt (fun e => hne e.symm)]
    exact hbk
  have d0 : w2.cell? ⟨b, 0, none⟩ = some (.pointer (some ⟨b, 0, none⟩)) := by rw [Lib.cell_of_heap hb2]; rfl
  have d1 : w2.cell? ⟨b, 1, none⟩ = some v := by rw [Lib.cell_of_heap hb2]; rfl
  have f1 : w2.frozen? ⟨b, 1, none⟩ = false := Lib.frozen_of_heap hb2 1
  obtain ⟨ao, n', cap, rfl⟩ : ∃ ao n' cap, v' = .slice ao n' cap := by
    rcases hown'.2 with ⟨hv, _⟩ | ⟨g, cap, cur, hv, _⟩
    · exact ⟨_, _, _, hv⟩
    · exact ⟨_, _, _, hv⟩
  go_wp2_with fail
  go_ret2
  refine ⟨rfl, ⟨?_, ?_⟩, ?_⟩
  · exact Lib.BuilderAt.put (T := 76) (e := 5) hB hb2 (bs' := bs ++ Lib.strCells s) (by simpa [Lib.strCells_length] using hown') (by decide)
  · exact (hb1.grown hgrow (by have := hb1.size; omega) (fun k hk => (hown.lt k hk).1)).setCell (p := ⟨b, 1, none⟩) hB _
  · rw [Below.heap_setCell _ _ _ _ hgb, hgrow.block g (by have := HS.out; omega) hvg, HH.out]
theorem bi_writeFar (B b : Nat) (l : List UInt8) (s : ByteArray) (m : List UInt8) (hs : s.data.toList = m) (w : World) (h : BI B b l w) (hlen : l.length + m.length ≤ 140737488355328) (hBw : B ≤ w.heap.size) (g : Nat) (cs : List Value) (hA : AC w g cs) (hgb : g ≠ b) (hF : Far b g w) :
    Calls Tryz.prog 27 #[.pointer (some ⟨b, 0, none⟩), .string s] w fun e w' => e = .returned (.tuple #[.int .i64 s.size, .nilIface]) ∧ BI B b (l ++ m) w' ∧ Below B w w' ∧ AC w' g cs := by
  have hz : s.size = m.length := by rw [← hs]; simp
  obtain ⟨t, ht⟩ := hA
  refine (writeString_far B b _ s w h (by rw [hz]; simpa [Lib.byteCells] using hlen) hBw g (lt_of_heap ht) hgb hF).mono ?_
  rintro e w' ⟨he, ⟨h1, hb⟩, hh⟩
  refine ⟨he, .inr ?_, hb, ⟨t, by rw [hh]; exact ht⟩⟩
  have e : Lib.byteCells (l ++ m) = Lib.byteCells l ++ Lib.strCells s := by
    simp [Lib.byteCells, Lib.strCells, hs]
  rw [e]; exact h1
end Go.Proofs.YtfmabjoindlfeaaGreat

set_option linter.unusedVariables false
set_option linter.unusedSimpArgs false
namespace Go.Proofs.YtfmabjoindlfeaaGreat
open Go.RowKit Go.Shelf

theorem copyCheck_anyF (B b : Nat) (bs : List Value) (w : World) (h : Lib.IsBuilderF 76 5 B b bs w) :
    Calls Tryz.prog 119 #[.pointer (some ⟨b, 0, none⟩)] w fun e w' => e = .returned (.tuple #[]) ∧ (Lib.BuilderAtF 76 5 B b (.pointer (some ⟨b, 0, none⟩)) bs w' ∧ Below B w w') := by
  rcases h with h | h
  · refine (copyCheck_fresh b w h.cell0 h.shape h.frozen0).mono ?_
    rintro e w' ⟨rfl, rfl⟩
    exact ⟨rfl, h.used _, (Below.refl B w).setCell (p := ⟨b, 0, none⟩) h.1 _⟩
  · refine (copyCheck_used b w h.cell0).mono ?_
    rintro e w' ⟨rfl, rfl⟩
    exact ⟨rfl, h, Below.refl B _⟩
set_option maxHeartbeats 1000000 in
set_option maxRecDepth 100000 in
theorem writeString_anyF (B b : Nat) (bs : List Value) (s : ByteArray) (w : World) (h : Lib.IsBuilderF 76 5 B b bs w) (hlen : bs.length + s.size ≤ 140737488355328) (hBw : B ≤ w.heap.size) :
    Calls Tryz.prog 27 #[.pointer (some ⟨b, 0, none⟩), .string s] w fun e w' => e = .returned (.tuple #[.int .i64 s.size, .nilIface]) ∧ (Lib.BuilderAtF 76 5 B b (.pointer (some ⟨b, 0, none⟩)) (bs ++ Lib.strCells s) w' ∧ Below B w w') := by
  obtain ⟨i0, hi, hz0, hz1, hz2⟩ := info_parts info_byte
  go_enter Tryz.func27, Tryz.ntmps27
  go_wp2_with fail
  refine (copyCheck_anyF B b bs _ h).mono ?_
  rintro e w1 ⟨rfl, h1, hb1⟩
  obtain ⟨hB, v, hbk, hown, hne⟩ := h1
  have c0 : w1.cell? ⟨b, 0, none⟩ = some (.pointer (some ⟨b, 0, none⟩)) := by rw [Lib.cell_of_heap hbk]; rfl
  have c1 : w1.cell? ⟨b, 1, none⟩ = some v := by rw [Lib.cell_of_heap hbk]; rfl
  go_wp2_with (at_builtin; refine Lib.wpList_append_own_stringF _ rfl _ _ 74 9 rfl B 5 i0 Tryz.underlying74 Tryz.underlying9 hi hz0 hz1 hz2 _ _ _ rfl hown s rfl ?c3 ?c4 ?c5 ?_)
  case c3 => unfold maxLen; omega
  case c4 => omega
  case c5 => have := hb1.size; omega
  intro v' w2 hown' hgrow _
  have hlt : b < w1.heap.size := by
    rcases Nat.lt_or_ge b w1.heap.size with h' | h'
    · exact h'
    · simp [Array.getElem?_eq_none h'] at hbk
  have hb2 : w2.heap[b]? = some (.cells #[.pointer (some ⟨b, 0, none⟩), v] 76 (0, 0)) := by
    rw [hgrow.block b hlt (fun e => hne e.symm)]
    exact hbk
  have d0 : w2.cell? ⟨b, 0, none⟩ = some (.pointer (some ⟨b, 0, none⟩)) := by rw [Lib.cell_of_heap hb2]; rfl
  have d1 : w2.cell? ⟨b, 1, none⟩ = some v := by rw [Lib.cell_of_heap hb2]; rfl
  have f1 : w2.frozen? ⟨b, 1, none⟩ = false := Lib.frozen_of_heap hb2 1
  obtain ⟨ao, n', cap, rfl⟩ : ∃ ao n' cap, v' = .slice ao n' cap := by
    rcases hown'.2 with ⟨hv, _⟩ | ⟨g, cap, cur, fz, hv, _⟩
    · exact ⟨_, _, _, hv⟩
    · exact ⟨_, _, _, hv⟩
  go_wp2_with fail
  go_ret2
  refine ⟨rfl, ?_, ?_⟩
  · exact Lib.BuilderAtF.put (T := 76) (e := 5) hB hb2 (bs' := bs ++ Lib.strCells s) (by simpa [Lib.strCells_length] using hown') (by decide)
  · exact (hb1.grown hgrow (by have := hb1.size; omega) (fun k hk => (hown.lt k hk).1)).setCell (p := ⟨b, 1, none⟩) hB _

/-- a builder, read or not -/
def BF (B b : Nat) (l : List UInt8) (w : World) : Prop := Lib.IsBuilderF 76 5 B b (Lib.byteCells l) w
theorem BF.of {B b : Nat} {l : List UInt8} {w : World} (h : BI B b l w) : BF B b l w := Lib.IsBuilderF.of h
theorem ownsRowF_bl {w w' : World} {B : Nat} {e : TypeId} {s : Nat} {v : Value} {n : Nat} {xs : List Value} (h : World.ownsRowF w B e s v n xs) (hb : Bl w w') : World.ownsRowF w' B e s v n xs := by
  obtain ⟨h1, h2 | ⟨g, cap, cur, fz, hv, hB, hg, r⟩⟩ := h
  · exact ⟨h1, .inl h2⟩
  · exact ⟨h1, .inr ⟨g, cap, cur, fz, hv, hB, hb.heap hg, r⟩⟩
theorem BF.keep {B b : Nat} {l : List UInt8} {w w' : World} (h : BF B b l w) (hb : Bl w w') : BF B b l w' := by
  rcases h with ⟨h1, v, h2, h3, h4⟩ | ⟨h1, v, h2, h3, h4⟩
  · exact .inl ⟨h1, v, hb.heap h2, ownsRowF_bl h3 hb, h4⟩
  · exact .inr ⟨h1, v, hb.heap h2, ownsRowF_bl h3 hb, h4⟩
theorem bf_write (B b : Nat) (l : List UInt8) (s : ByteArray) (m : List UInt8) (hs : s.data.toList = m) (w : World) (h : BF B b l w) (hlen : l.length + m.length ≤ 140737488355328) (hBw : B ≤ w.heap.size) :
    Calls Tryz.prog 27 #[.pointer (some ⟨b, 0, none⟩), .string s] w fun e w' => e = .returned (.tuple #[.int .i64 s.size, .nilIface]) ∧ BF B b (l ++ m) w' ∧ Below B w w' := by
  have hz : s.size = m.length := by rw [← hs]; simp
  refine (writeString_anyF B b _ s w h (by rw [hz]; simpa [Lib.byteCells] using hlen) hBw).mono ?_
  rintro e w' ⟨he, h1, hb⟩
  refine ⟨he, .inr ?_, hb⟩
  have e : Lib.byteCells (l ++ m) = Lib.byteCells l ++ Lib.strCells s := by
    simp [Lib.byteCells, Lib.strCells, hs]
  rw [e]; exact h1
theorem bf_string (B b : Nat) (l : List UInt8) (w : World) (h : BF B b l w) (hBw : B ≤ w.heap.size) :
    Calls Tryz.prog 31 #[.pointer (some ⟨b, 0, none⟩)] w fun e w' => e = .returned (.string ⟨l.toArray⟩) ∧ BF B b l w' ∧ Below B w w' := Tryz.Builder_String_any_f B b l w h hBw
theorem bf_len (B b : Nat) (l : List UInt8) (w : World) (h : BF B b l w) :
    Calls Tryz.prog 32 #[.pointer (some ⟨b, 0, none⟩)] w fun e w' => e = .returned (.int .i64 (l.length : Int)) ∧ w' = w := by
  refine (Tryz.Builder_Len_f B b _ w h).mono ?_
  rintro e w' ⟨rfl, rfl⟩
  exact ⟨by simp [Lib.byteCells], rfl⟩
end Go.Proofs.YtfmabjoindlfeaaGreat
end

/- bytes that the call itself has made grow. By an AI agent. -/
section
namespace Go.Proofs.YtfmabjoindlfeaaGreat
open Go.RowKit

/-- behind 'append(v, x, y ..)' -/
theorem OB.pushL {B : Nat} {w0 w w1 : World} {v v' : Value} {xs : List Int} {ys : List Int} {o : Obj} (hb : Below B w0 w) (hB : B ≤ w.heap.size) (hown : OB B w v xs)
    (hown' : w1.ownsRow B 5 1 v' (xs.length + ys.length) (xs.map (Value.int .u8) ++ ys.map (Value.int .u8))) (hg : (w.alloc o).grownBy w1 v.ownBlock) : OB B w1 v' (xs ++ ys) ∧ Below B w0 w1 :=
  ⟨by simpa [OB] using hown', (hb.alloc hB o).grown hg (by simp; omega) (fun j hj => (World.ownsRow.lt hown j hj).1)⟩
theorem OB.pushL' {B : Nat} {w0 w w1 : World} {v v' : Value} {xs : List Int} {ys : List Int} (hb : Below B w0 w) (hB : B ≤ w.heap.size) (hown : OB B w v xs)
    (hown' : w1.ownsRow B 5 1 v' (xs.length + ys.length) (xs.map (Value.int .u8) ++ ys.map (Value.int .u8))) (hg : w.grownBy w1 v.ownBlock) : OB B w1 v' (xs ++ ys) ∧ Below B w0 w1 :=
  ⟨by simpa [OB] using hown', hb.grown hg hB (fun j hj => (World.ownsRow.lt hown j hj).1)⟩
theorem OB.keep {B : Nat} {w w' : World} {v : Value} {xs : List Int} (h : OB B w v xs) (hb : Bl w w') : OB B w' v xs := ownsRow_bl h hb
end Go.Proofs.YtfmabjoindlfeaaGreat
end

/- op.Put. By an AI agent. -/
section
namespace Go.Proofs.YtfmabjoindlfeaaGreat
open Go.RowKit
attribute [local go_sem] eOp eOper eUpon

/-- right, of a struct taken apart -/
theorem right_agg (k : Int) (x : Nat) (n : Int) (s : ByteArray) (r : Bool) (w : World) (h : Hid (rightB ⟨k, x, n, s⟩ = r)) (oa : Hid (ActL.Ok ⟨k, x, n, s⟩)) :
    Calls Tryz.prog 120 #[.agg #[.int .i64 k, .float .f64 x, .int .i64 n, .string s]] w fun e w' => e = .returned (.bool r) ∧ Bl w w' := by
  refine (right_any ⟨k, x, n, s⟩ w oa.out).mono ?_
  rintro e w' ⟨rfl, hb⟩
  rw [h.out]
  exact ⟨rfl, hb⟩
/-- the one box of op.Put -/
structure Box (w W : World) (k : Int) (x : Nat) (n : Int) (s : ByteArray) : Prop where
  bl : Bl w W
  a : AC W w.heap.size [.int .i64 k, .float .f64 x, .int .i64 n, .string s]
theorem Box.keep {w W W' : World} {k : Int} {x : Nat} {n : Int} {s : ByteArray} (h : Box w W k x n s) (b : Bl W W') : Box w W' k x n s := ⟨h.bl.trans b, h.a.keep b⟩
theorem Box.new (w : World) (k : Int) (x : Nat) (n : Int) (s : ByteArray) (T : TypeId) : Box w (w.alloc (.cells #[.int .i64 k, .float .f64 x, .int .i64 n, .string s] T)) k x n s :=
  ⟨(Bl.refl w).alloc _, AC.new w _ rfl [.int .i64 k, .float .f64 x, .int .i64 n, .string s] T⟩

theorem Box.later {w W : World} {k : Int} {x : Nat} {n : Int} {s : ByteArray} (h : Box w W k x n s) :
    (∀ o, (W.alloc o).cell? ⟨w.heap.size, 0, none⟩ = some (.int .i64 k)) ∧ (∀ o, (W.alloc o).cell? ⟨w.heap.size, 1, none⟩ = some (.float .f64 x)) ∧ (∀ o, (W.alloc o).cell? ⟨w.heap.size, 2, none⟩ = some (.int .i64 n)) ∧ (∀ o, (W.alloc o).cell? ⟨w.heap.size, 3, none⟩ = some (.string s)) :=
  ⟨fun o => (h.keep ((Bl.refl _).alloc o)).a.act.1, fun o => (h.keep ((Bl.refl _).alloc o)).a.act.2.1, fun o => (h.keep ((Bl.refl _).alloc o)).a.act.2.2.1, fun o => (h.keep ((Bl.refl _).alloc o)).a.act.2.2.2⟩

theorem OB.one {B : Nat} (w : World) (c : Int) (hB : B ≤ w.heap.size) : OB B (w.alloc (.cells #[.int .u8 c] 5)) (.slice (some ⟨w.heap.size, 0, none⟩) 1 1) [c] :=
  ⟨by simp, .inr ⟨w.heap.size, 1, #[.int .u8 c], rfl, hB, heap_alloc_new w _, Nat.le_refl _, by simp [maxLen], rfl, rfl⟩⟩
theorem put8_SB (x : Nat) : SB (strOfNums (putN (fkey x) 8 8)) (bytesN8 (fkey x)) := rfl

set_option maxRecDepth 100000 in
theorem opPut_no (k : Int) (x : Nat) (n : Int) (s : ByteArray) (w : World) (h : Hid (rightB ⟨k, x, n, s⟩ = false)) (oa : Hid (ActL.Ok ⟨k, x, n, s⟩)) :
    Calls Tryz.prog 29 #[.agg #[.int .i64 k, .float .f64 x, .int .i64 n, .string s]] w fun e w' => e = .returned (.tuple #[.string ⟨#[]⟩, .int .i64 40]) ∧ Bl w w' := by
  go_enter Tryz.func29, Tryz.ntmps29
  go_wp2_with fail
  refine (right_agg k x n s false _ h oa).mono ?_
  rintro e w1 ⟨rfl, hb1⟩
  have G := (Box.new w k x n s _).keep hb1
  go_wp2_with fail
  go_ret2
  exact ⟨rfl, G.bl⟩

set_option maxRecDepth 100000 in
theorem opPut_clear (x : Nat) (n : Int) (s : ByteArray) (w : World) (h : Hid (rightB ⟨4, x, n, s⟩ = true)) (oa : Hid (ActL.Ok ⟨4, x, n, s⟩)) :
    Calls Tryz.prog 29 #[.agg #[.int .i64 4, .float .f64 x, .int .i64 n, .string s]] w fun e w' => e = .returned (.tuple #[.string ⟨#[4]⟩, .int .i64 0]) ∧ Bl w w' := by
  go_enter Tryz.func29, Tryz.ntmps29
  go_wp2_with fail
  refine (right_agg 4 x n s true _ h oa).mono ?_
  rintro e w1 ⟨rfl, hb1⟩
  have G := (Box.new w 4 x n s _).keep hb1
  clear hb1
  obtain ⟨a0, a1, a2, a3⟩ := G.a.act
  obtain ⟨l0, l1, l2, l3⟩ := G.later
  have hst := OB.string (OB.one w1 4 (Nat.le_refl _)) rfl
  go_wp2_with fail
  go_ret2
  exact ⟨rfl, G.bl.alloc _⟩
set_option maxHeartbeats 800000 in
set_option maxRecDepth 100000 in
theorem opPut_num (k : Int) (x : Nat) (n : Int) (s : ByteArray) (w : World) (hk : k = 2 ∨ k = 3) (h : Hid (rightB ⟨k, x, n, s⟩ = true)) (oa : Hid (ActL.Ok ⟨k, x, n, s⟩)) (hx : x < two64) :
    Calls Tryz.prog 29 #[.agg #[.int .i64 k, .float .f64 x, .int .i64 n, .string s]] w fun e w' => e = .returned (.tuple #[.string ⟨(UInt8.ofNat k.toNat :: bytesN8 (fkey x)).toArray⟩, .int .i64 0]) ∧ Bl w w' := by
  rcases hk with rfl | rfl
  · go_enter Tryz.func29, Tryz.ntmps29
    go_wp2_with fail
    refine (right_agg _ x n s true _ h oa).mono ?_
    rintro e w1 ⟨rfl, hb1⟩
    have G := (Box.new w _ x n s _).keep hb1
    clear hb1
    obtain ⟨a0, a1, a2, a3⟩ := G.a.act
    obtain ⟨l0, l1, l2, l3⟩ := G.later
    go_wp2_with fail
    have hob := OB.one w1 2 (Nat.le_refl _)
    have G := G.keep ((Bl.refl w1).alloc (.cells #[.int .u8 2] 5))
    clear a0 a1 a2 a3 l0 l1 l2 l3
    generalize w1.alloc (.cells #[.int .u8 2] 5) = w2 at *
    refine wp_region_extall (by kernel_rfl) (by kernel_rfl) ?_
    replace G := G.keep ((Bl.refl w2).drew)
    replace hob := hob.keep ((Bl.refl w2).drew)
    generalize w2.drew = W at *
    have a1 : ∀ n : Ext W, _ := fun n => (G.keep n.bl).a.act.2.1
    have hst : ∀ n : Ext W, _ := fun n => OB.string (hob.keep n.bl) rfl
    obtain ⟨s1, hs1⟩ : ∃ s1, s1 = strOfNums [2] := ⟨_, rfl⟩
    have z1 : s1.size = 1 := by rw [hs1]; rfl
    rw [← hs1] at hst
    obtain ⟨s2, hs2⟩ : ∃ s2, s2 = strOfNums (putN (fkey x) 8 8) := ⟨_, rfl⟩
    have z2 : s2.size = 8 := by rw [hs2, (put8_SB x).size, bytesN8_len]
    have hput : ∀ W', Calls Tryz.prog 121 #[.float .f64 x] W' fun e w' => e = .returned (.string s2) ∧ Bl W' w' := fun W' => by rw [hs2]; exact rput_any x W' hx
    have HS1 := Lib.hid hs1
    have HS2 := Lib.hid hs2
    clear hs1 hs2
    repeat (refine wpE_step (fun K hK => ?_); go_simp; first | (refine hK _ ?_; clear hK K) | (apply Exists.intro; refine ⟨fun n => ?_, hK _ ?_⟩; (exact hput _); clear hK K))
    refine wpE_nil ?_
    intro m
    have hbn := G.bl.trans m.bl
    clear a1 hst
    go_wp2_with fail
    go_ret2
    refine ⟨?_, hbn⟩
    rw [HS1.out, HS2.out]
    exact congrArg (fun z => Ending.returned (.tuple #[.string z, .int .i64 0])) (SB.eq (SB.append (show SB (strOfNums [2]) [2] from rfl) (put8_SB x)) (SB.mk _))
  · go_enter Tryz.func29, Tryz.ntmps29
    go_wp2_with fail
    refine (right_agg _ x n s true _ h oa).mono ?_
    rintro e w1 ⟨rfl, hb1⟩
    have G := (Box.new w _ x n s _).keep hb1
    clear hb1
    obtain ⟨a0, a1, a2, a3⟩ := G.a.act
    obtain ⟨l0, l1, l2, l3⟩ := G.later
    go_wp2_with fail
    have hob := OB.one w1 3 (Nat.le_refl _)
    have G := G.keep ((Bl.refl w1).alloc (.cells #[.int .u8 3] 5))
    clear a0 a1 a2 a3 l0 l1 l2 l3
    generalize w1.alloc (.cells #[.int .u8 3] 5) = w2 at *
    refine wp_region_extall (by kernel_rfl) (by kernel_rfl) ?_
    replace G := G.keep ((Bl.refl w2).drew)
    replace hob := hob.keep ((Bl.refl w2).drew)
    generalize w2.drew = W at *
    have a1 : ∀ n : Ext W, _ := fun n => (G.keep n.bl).a.act.2.1
    have hst : ∀ n : Ext W, _ := fun n => OB.string (hob.keep n.bl) rfl
    obtain ⟨s1, hs1⟩ : ∃ s1, s1 = strOfNums [3] := ⟨_, rfl⟩
    have z1 : s1.size = 1 := by rw [hs1]; rfl
    rw [← hs1] at hst
    obtain ⟨s2, hs2⟩ : ∃ s2, s2 = strOfNums (putN (fkey x) 8 8) := ⟨_, rfl⟩
    have z2 : s2.size = 8 := by rw [hs2, (put8_SB x).size, bytesN8_len]
    have hput : ∀ W', Calls Tryz.prog 121 #[.float .f64 x] W' fun e w' => e = .returned (.string s2) ∧ Bl W' w' := fun W' => by rw [hs2]; exact rput_any x W' hx
    have HS1 := Lib.hid hs1
    have HS2 := Lib.hid hs2
    clear hs1 hs2
    repeat (refine wpE_step (fun K hK => ?_); go_simp; first | (refine hK _ ?_; clear hK K) | (apply Exists.intro; refine ⟨fun n => ?_, hK _ ?_⟩; (exact hput _); clear hK K))
    refine wpE_nil ?_
    intro m
    have hbn := G.bl.trans m.bl
    clear a1 hst
    go_wp2_with fail
    go_ret2
    refine ⟨?_, hbn⟩
    rw [HS1.out, HS2.out]
    exact congrArg (fun z => Ending.returned (.tuple #[.string z, .int .i64 0])) (SB.eq (SB.append (show SB (strOfNums [3]) [3] from rfl) (put8_SB x)) (SB.mk _))

theorem u64_wrap (n : Int) : IntKind.u64.wrap n = n % 18446744073709551616 := by rw [IntKind.wrap_u64]
theorem put_range (U : Int) : (List.range 8).map (byteAt U 8) = putN U 8 8 := by
  unfold putN
  apply List.map_congr_left
  intro j _
  rw [if_pos (by omega)]
set_option maxHeartbeats 1600000 in
set_option maxRecDepth 100000 in
theorem opPut_add (x : Nat) (n : Int) (s : ByteArray) (w : World) (h : Hid (rightB ⟨1, x, n, s⟩ = true)) (oa : Hid (ActL.Ok ⟨1, x, n, s⟩)) :
    Calls Tryz.prog 29 #[.agg #[.int .i64 1, .float .f64 x, .int .i64 n, .string s]] w fun e w' => e = .returned (.tuple #[.string ⟨(1 :: bytesN8 (n % 18446744073709551616).toNat).toArray⟩, .int .i64 0]) ∧ Bl w w' := by
  obtain ⟨i0, hi, hz0, hz1, hz2⟩ := info_parts info_byte
  obtain ⟨U, hU⟩ : ∃ U : Nat, n % 18446744073709551616 = (U : Int) := ⟨(n % 18446744073709551616).toNat, by omega⟩
  have hU64 : U < 18446744073709551616 := by omega
  have hwr : IntKind.u64.wrap n = (U : Int) := by rw [u64_wrap, hU]
  have HU := Lib.hid (show (n % 18446744073709551616).toNat = U by rw [hU]; rfl)
  clear hU
  have GB := Box.new w 1 x n s 61
  go_enter Tryz.func29, Tryz.ntmps29
  go_wp2_with fail
  refine (right_agg 1 x n s true _ h oa).mono ?_
  rintro e w1 ⟨rfl, hb1⟩
  generalize w.alloc (.cells #[.int .i64 1, .float .f64 x, .int .i64 n, .string s] 61) = wb at *
  have G := GB.keep hb1
  obtain ⟨a0, a1, a2, a3⟩ := G.a.act
  obtain ⟨l0, l1, l2, l3⟩ := G.later
  have hob := OB.one (B := wb.heap.size) w1 1 hb1.size
  have hb2 := hb1.alloc (.cells #[.int .u8 1] 5)
  go_wp2
  clear a0 a1 a2 a3 l0 l1 l2 l3 G
  go_loopw [4, 5] (fun v i wr => ∃ m : Nat, m ≤ 8 ∧ i = .int .i64 ((m : Int) - 1) ∧ Bl wb wr ∧ OB wb.heap.size wr v (1 :: (List.range (8 - m)).map (byteAt U 8))) (fun _ i _ => ((intOf i) + 1).toNat)
  case atStart => exact ⟨8, Nat.le_refl _, rfl, hb2, hob⟩
  case round =>
    clear hob hb2
    obtain ⟨m, hm, rfl, hb, hown⟩ := hrel
    rcases m with _ | j
    · have G := GB.keep hb
      have hne : ∃ g cap, u4 = .slice (some ⟨g, 0, none⟩) 9 cap := by
        obtain ⟨h1, ⟨rfl, h2⟩ | ⟨g, cap, cur, rfl, _⟩⟩ := hown
        · simp at h2
        · exact ⟨g, cap, by simp⟩
      obtain ⟨g, cap, rfl⟩ := hne
      have hst := OB.string hown (by simp)
      clear hown
      obtain ⟨s1, hs1⟩ : ∃ s1, s1 = strOfNums (1 :: List.map (byteAt (U : Int) 8) (List.range (8 - 0))) := ⟨_, rfl⟩
      rw [← hs1] at hst
      have HS1 := Lib.hid hs1
      clear hs1
      go_wp2
      go_ret2
      refine ⟨?_, GB.bl.trans hb⟩
      rw [HS1.out, HU.out, put_range]
      rfl
    · have hj : ((j + 1 : Nat) : Int) - 1 = (j : Int) := by omega
      rw [hj]
      have G := GB.keep hb
      obtain ⟨a0, a1, a2, a3⟩ := G.a.act
      have hj7 : j < 8 := by omega
      have hxl : (1 :: (List.range (8 - (j + 1))).map (byteAt (U : Int) 8)).length ≤ 8 := by simp <;> omega
      have hsz := hb.size
      have eB : byteAt (U : Int) 8 (8 - (j + 1)) = (U : Int) / 2 ^ (8 * j) % 256 := by unfold byteAt; rw [show 8 - 1 - (8 - (j + 1)) = j by omega]
      have eR : List.range (8 - j) = List.range (8 - (j + 1)) ++ [8 - (j + 1)] := by rw [show 8 - j = (8 - (j + 1)) + 1 by omega, List.range_succ]
      generalize hX : (1 :: (List.range (8 - (j + 1))).map (byteAt (U : Int) 8)) = xs at *
      have HX := Lib.hid hX
      have HB := Lib.hid eB
      have HR := Lib.hid eR
      clear hX eB eR
      go_wp2_with (at_builtin; refine wpList_append_own _ rfl _ _ 74 rfl (wb.heap.size) 5 i0 (.int .u8 0) 1 1 Tryz.underlying74 hi hz0 hz1 hz2 rfl (by decide) _ _ _ rfl (World.ownsRow.alloc hown _) ⟨wr.heap.size, 0, none⟩ 1 1 (([(U : Int) / 2 ^ (8 * j) % 256] : List Int).map (Value.int .u8)) rfl rfl ?c1 ?c2 ?c3 ?c4 ?c5 ?_)
      case c1 => exact World.news_of_block (heap_alloc_new _ _)
      case c2 => intro u hu; simp at hu; rcases hu with rfl <;> rfl
      case c3 => unfold maxLen; omega
      case c4 => omega
      case c5 => simp; omega
      intro v' w3 hown' hgrow _
      obtain ⟨R1, R2⟩ := OB.pushL (ys := [(U : Int) / 2 ^ (8 * j) % 256]) hb hsz hown hown' hgrow
      clear hown hown' hgrow a0 a1 a2 a3
      go_wp2
      go_roundw
      case rel => exact ⟨j, by omega, by go_num, R2, by rw [HR.out, List.map_append, List.map_singleton, HB.out, ← List.cons_append, HX.out]; exact R1⟩
      case measure => simp [intOf]

set_option maxHeartbeats 1600000 in
set_option maxRecDepth 100000 in
theorem opPut_set0 (x : Nat) (n : Int) (s : ByteArray) (w : World) (h : Hid (rightB ⟨0, x, n, s⟩ = true)) (oa : Hid (ActL.Ok ⟨0, x, n, s⟩)) (hs : s.toList.isEmpty = true) (hx : x < two64) :
    Calls Tryz.prog 29 #[.agg #[.int .i64 0, .float .f64 x, .int .i64 n, .string s]] w fun e w' => e = .returned (.tuple #[.string ⟨(0 :: 110 :: bytesN8 (fkey x)).toArray⟩, .int .i64 0]) ∧ Bl w w' := by
  obtain ⟨i0, hi, hz0, hz1, hz2⟩ := info_parts info_byte
  have GB := Box.new w 0 x n s 61
  go_enter Tryz.func29, Tryz.ntmps29
  go_wp2_with fail
  refine (right_agg 0 x n s true _ h oa).mono ?_
  rintro e w1 ⟨rfl, hb1⟩
  generalize w.alloc (.cells #[.int .i64 0, .float .f64 x, .int .i64 n, .string s] 61) = wb at *
  have G := GB.keep hb1
  obtain ⟨a0, a1, a2, a3⟩ := G.a.act
  obtain ⟨l0, l1, l2, l3⟩ := G.later
  have hob := OB.one (B := wb.heap.size) w1 0 hb1.size
  have hb2 := hb1.alloc (.cells #[.int .u8 0] 5)
  go_wp2_with fail
  clear a0 a1 a2 a3 l0 l1 l2 l3 G
  generalize w1.alloc (.cells #[.int .u8 0] 5) = w2 at *
  generalize w1.heap.size = g0 at *
  replace hb2 := hb2.drew
  replace hob := hob.keep ((Bl.refl w2).drew)
  refine wp_region_idx [0, 4, 5] 7 (Bl wb) (fun _ _ h k => h.trans k) hb2 (by kernel_rfl) rfl (by kernel_rfl) (by kernel_rfl) ?_
  generalize w2.drew = W at *
  have a1 : ∀ m : Ext wb, _ := fun m => (GB.keep m.bl).a.act.2.1
  have a3 : ∀ m : Ext wb, _ := fun m => (GB.keep m.bl).a.act.2.2.2
  obtain ⟨s2, hs2⟩ : ∃ s2, s2 = strOfNums (putN (fkey x) 8 8) := ⟨_, rfl⟩
  have z2 : s2.size = 8 := by rw [hs2, (put8_SB x).size, bytesN8_len]
  have hput : ∀ W', Calls Tryz.prog 121 #[.float .f64 x] W' fun e w' => e = .returned (.string s2) ∧ Bl W' w' := fun W' => by rw [hs2]; exact rput_any x W' hx
  have HS2 := Lib.hid hs2
  clear hs2
  repeat (refine wpI_step rfl (fun K hK => ?_); go_simp; refine hK _ ?_; clear hK K)
  refine wpI_nil ?_
  clear a1 a3
  refine wpAnyE_one (i := 1) (by kernel_rfl) ?_
  intro W1 hc1
  go_simp
  have hc2 := hc1.alloc (.cells #[.int .u8 110] 5)
  have hnew := heap_alloc_new W1 (.cells #[.int .u8 110] 5)
  refine ⟨hb2.trans hc2, ?_⟩
  generalize W1.alloc (.cells #[.int .u8 110] 5) = W2 at *
  generalize W1.heap.size = g at *
  refine wpAnyE_one (i := 2) (by kernel_rfl) ?_
  intro W3 hc3
  have hob3 := hob.keep (hc2.trans hc3)
  have hb4 := hb2.trans (hc2.trans hc3)
  have hsz3 := hb4.size
  refine eOp_append rfl rfl _ _ 74 rfl (wb.heap.size) 5 i0 (.int .u8 0) 1 1 Tryz.underlying74 hi hz0 hz1 hz2 rfl (by decide) _ _ _ rfl hob3 ⟨g, 0, none⟩ 1 1 (([110] : List Int).map (Value.int .u8)) rfl rfl ?c1 ?c2 ?c3 ?c4 ?c5 ?_
  case c1 => exact World.news_of_block (hc3.heap hnew)
  case c2 => intro u hu; simp at hu; rcases hu with rfl <;> rfl
  case c3 => unfold maxLen; decide
  case c4 => decide
  case c5 => exact hsz3
  intro v' w3 hown' hgrow _
  have hgrow : W3.grownBy w3 (Value.slice (some ⟨g0, 0, none⟩) 1 1).ownBlock := hgrow
  obtain ⟨R1, R2⟩ := OB.pushL' (ys := [110]) hb4 hsz3 hob3 hown' hgrow
  clear hown' hgrow hob3 hb4 hsz3
  refine ⟨R2, ?_⟩
  simp only [Act.put, List.setIfInBounds_toArray]
  have hne : ∃ g cap, v' = .slice (some ⟨g, 0, none⟩) 2 cap := by
    obtain ⟨h1, ⟨rfl, h2⟩ | ⟨g, cap, cur, rfl, _⟩⟩ := R1
    · simp at h2
    · exact ⟨g, cap, by simp⟩
  obtain ⟨g, cap, rfl⟩ := hne
  refine wpAnyE_idx (C := Bl wb) (fun _ _ h k => h.trans k) (by kernel_rfl) 4 _ R2 [6] _ _ (by kernel_rfl) ?_
  refine wpI_step rfl (fun K hK => ?_)
  go_simp
  apply Exists.intro
  refine ⟨fun n => ?_, hK _ ?_⟩
  · exact hput _
  clear hK K
  refine wpI_nil ?_
  refine wpAnyE_one (i := 3) (by kernel_rfl) ?_
  intro W5 hc5
  have hst := OB.string (R1.keep hc5) (by simp)
  have R3 := R2.trans (Below.mono hc5 R2.size)
  obtain ⟨s1, hs1⟩ : ∃ s1, s1 = strOfNums ([0] ++ [110]) := ⟨_, rfl⟩
  have z1 : s1.size = 2 := by rw [hs1]; rfl
  rw [← hs1] at hst
  have HS1 := Lib.hid hs1
  clear hs1 R1 R2
  go_simp
  refine ⟨R3, ?_⟩
  clear hst hc5 hc3 hc2 hc1 hnew hob
  refine wpAnyE_one (i := 7) (by kernel_rfl) ?_
  intro W6 hc6
  replace R3 := R3.trans (Below.mono hc6 R3.size)
  clear hc6
  go_simp
  refine ⟨R3, ?_⟩
  refine wpAnyE_one (i := 8) (by kernel_rfl) ?_
  intro W6 hc6
  replace R3 := R3.trans (Below.mono hc6 R3.size)
  clear hc6
  go_simp
  refine ⟨R3, ?_⟩
  refine wpAnyE_one (i := 9) (by kernel_rfl) ?_
  intro W6 hc6
  replace R3 := R3.trans (Below.mono hc6 R3.size)
  clear hc6
  go_simp
  refine ⟨R3, ?_⟩
  refine wpAnyE_done (by kernel_rfl) ?_
  intro W6 hc6
  replace R3 := R3.trans (Below.mono hc6 R3.size)
  go_wp2_with fail
  go_ret2
  refine ⟨?_, GB.bl.trans R3⟩
  rw [HS1.out, HS2.out]
  exact congrArg (fun z => Ending.returned (.tuple #[.string z, .int .i64 0])) (SB.eq (SB.append (show SB (strOfNums ([0] ++ [110])) [0, 110] from rfl) (put8_SB x)) (SB.mk _))

set_option maxHeartbeats 1600000 in
set_option maxRecDepth 100000 in
theorem opPut_sett (x : Nat) (n : Int) (s : ByteArray) (w : World) (h : Hid (rightB ⟨0, x, n, s⟩ = true)) (oa : Hid (ActL.Ok ⟨0, x, n, s⟩)) (hs : s.toList.isEmpty = false) (hz : s.size ≤ 1024) :
    Calls Tryz.prog 29 #[.agg #[.int .i64 0, .float .f64 x, .int .i64 n, .string s]] w fun e w' => e = .returned (.tuple #[.string ⟨(0 :: 116 :: s.data.toList).toArray⟩, .int .i64 0]) ∧ Bl w w' := by
  obtain ⟨i0, hi, hz0, hz1, hz2⟩ := info_parts info_byte
  have hzs : (9223372036854775807 < 2 + s.size) = False := by simp; omega
  have GB := Box.new w 0 x n s 61
  go_enter Tryz.func29, Tryz.ntmps29
  go_wp2_with fail
  refine (right_agg 0 x n s true _ h oa).mono ?_
  rintro e w1 ⟨rfl, hb1⟩
  generalize w.alloc (.cells #[.int .i64 0, .float .f64 x, .int .i64 n, .string s] 61) = wb at *
  have G := GB.keep hb1
  obtain ⟨a0, a1, a2, a3⟩ := G.a.act
  obtain ⟨l0, l1, l2, l3⟩ := G.later
  have hob := OB.one (B := wb.heap.size) w1 0 hb1.size
  have hb2 := hb1.alloc (.cells #[.int .u8 0] 5)
  go_wp2_with fail
  clear a0 a1 a2 a3 l0 l1 l2 l3 G
  generalize w1.alloc (.cells #[.int .u8 0] 5) = w2 at *
  generalize w1.heap.size = g0 at *
  replace hb2 := hb2.drew
  replace hob := hob.keep ((Bl.refl w2).drew)
  refine wp_region_idx [0, 4, 5] 6 (Bl wb) (fun _ _ h k => h.trans k) hb2 (by kernel_rfl) rfl (by kernel_rfl) (by kernel_rfl) ?_
  generalize w2.drew = W at *
  have a1 : ∀ m : Ext wb, _ := fun m => (GB.keep m.bl).a.act.2.1
  have a3 : ∀ m : Ext wb, _ := fun m => (GB.keep m.bl).a.act.2.2.2
  repeat (refine wpI_step rfl (fun K hK => ?_); go_simp; refine hK _ ?_; clear hK K)
  refine wpI_nil ?_
  clear a1 a3
  refine wpAnyE_one (i := 1) (by kernel_rfl) ?_
  intro W1 hc1
  go_simp
  have hc2 := hc1.alloc (.cells #[.int .u8 116] 5)
  have hnew := heap_alloc_new W1 (.cells #[.int .u8 116] 5)
  refine ⟨hb2.trans hc2, ?_⟩
  generalize W1.alloc (.cells #[.int .u8 116] 5) = W2 at *
  generalize W1.heap.size = g at *
  refine wpAnyE_one (i := 2) (by kernel_rfl) ?_
  intro W3 hc3
  have hob3 := hob.keep (hc2.trans hc3)
  have hb4 := hb2.trans (hc2.trans hc3)
  have hsz3 := hb4.size
  refine eOp_append rfl rfl _ _ 74 rfl (wb.heap.size) 5 i0 (.int .u8 0) 1 1 Tryz.underlying74 hi hz0 hz1 hz2 rfl (by decide) _ _ _ rfl hob3 ⟨g, 0, none⟩ 1 1 (([116] : List Int).map (Value.int .u8)) rfl rfl ?c1 ?c2 ?c3 ?c4 ?c5 ?_
  case c1 => exact World.news_of_block (hc3.heap hnew)
  case c2 => intro u hu; simp at hu; rcases hu with rfl <;> rfl
  case c3 => unfold maxLen; decide
  case c4 => decide
  case c5 => exact hsz3
  intro v' w3 hown' hgrow _
  have hgrow : W3.grownBy w3 (Value.slice (some ⟨g0, 0, none⟩) 1 1).ownBlock := hgrow
  obtain ⟨R1, R2⟩ := OB.pushL' (ys := [116]) hb4 hsz3 hob3 hown' hgrow
  clear hown' hgrow hob3 hb4 hsz3
  refine ⟨R2, ?_⟩
  simp only [Act.put, List.setIfInBounds_toArray]
  have hne : ∃ g cap, v' = .slice (some ⟨g, 0, none⟩) 2 cap := by
    obtain ⟨h1, ⟨rfl, h2⟩ | ⟨g, cap, cur, rfl, _⟩⟩ := R1
    · simp at h2
    · exact ⟨g, cap, by simp⟩
  obtain ⟨g, cap, rfl⟩ := hne
  refine wpAnyE_one (i := 3) (by kernel_rfl) ?_
  intro W5 hc5
  have hst := OB.string (R1.keep hc5) (by simp)
  have R3 := R2.trans (Below.mono hc5 R2.size)
  obtain ⟨s1, hs1⟩ : ∃ s1, s1 = strOfNums ([0] ++ [116]) := ⟨_, rfl⟩
  have z1 : s1.size = 2 := by rw [hs1]; rfl
  rw [← hs1] at hst
  have HS1 := Lib.hid hs1
  clear hs1 R1 R2
  go_simp
  refine ⟨R3, ?_⟩
  clear hst hc5 hc3 hc2 hc1 hnew hob
  refine wpAnyE_one (i := 6) (by kernel_rfl) ?_
  intro W6 hc6
  replace R3 := R3.trans (Below.mono hc6 R3.size)
  clear hc6
  go_simp
  refine ⟨R3, ?_⟩
  refine wpAnyE_one (i := 7) (by kernel_rfl) ?_
  intro W6 hc6
  replace R3 := R3.trans (Below.mono hc6 R3.size)
  clear hc6
  go_simp
  refine ⟨R3, ?_⟩
  refine wpAnyE_one (i := 8) (by kernel_rfl) ?_
  intro W6 hc6
  replace R3 := R3.trans (Below.mono hc6 R3.size)
  clear hc6
  go_simp
  refine ⟨R3, ?_⟩
  refine wpAnyE_done (by kernel_rfl) ?_
  intro W6 hc6
  replace R3 := R3.trans (Below.mono hc6 R3.size)
  go_wp2_with fail
  go_ret2
  refine ⟨?_, GB.bl.trans R3⟩
  rw [HS1.out]
  exact congrArg (fun z => Ending.returned (.tuple #[.string z, .int .i64 0])) (SB.eq (SB.append (show SB (strOfNums ([0] ++ [116])) [0, 116] from rfl) (show SB s s.data.toList from rfl)) (SB.mk _))

/-- op.Put -/
theorem opPut_any (a : ActL) (w : World) (ok : a.Ok) :
    Calls Tryz.prog 29 #[.agg #[.int .i64 a.k, .float .f64 a.x, .int .i64 a.n, .string a.s]] w fun e w' => e = .returned (.tuple #[.string ⟨(putS a).toArray⟩, .int .i64 (putC a)]) ∧ Bl w w' := by
  unfold putS putC
  cases hr : rightB a
  · exact opPut_no a.k a.x a.n a.s w (Lib.hid hr) (Lib.hid ok)
  · have hz := right_size hr
    simp only [if_true]
    obtain ⟨k, x, n, s⟩ := a
    rcases right_kind ok hr with ⟨k0, _⟩ | ⟨k0, _⟩ | ⟨k0, _⟩ | ⟨k0, _⟩
    · simp only at k0; subst k0
      cases hs : s.toList.isEmpty
      · have e : putA ⟨0, x, n, s⟩ = 0 :: 116 :: s.data.toList := by unfold putA; rw [if_pos rfl]; simp only [hs]; rfl
        rw [e]; exact opPut_sett x n s w (Lib.hid hr) (Lib.hid ok) hs hz
      · have e : putA ⟨0, x, n, s⟩ = 0 :: 110 :: bytesN8 (fkey x) := by unfold putA; rw [if_pos rfl]; simp only [hs]; rfl
        rw [e]; exact opPut_set0 x n s w (Lib.hid hr) (Lib.hid ok) hs ok.x
    · simp only at k0; subst k0
      exact opPut_add x n s w (Lib.hid hr) (Lib.hid ok)
    · simp only at k0
      have e : putA ⟨k, x, n, s⟩ = UInt8.ofNat k.toNat :: bytesN8 (fkey x) := by
        rcases k0 with rfl | rfl <;> rfl
      rw [e]; exact opPut_num k x n s w k0 (Lib.hid hr) (Lib.hid ok) ok.x
    · simp only at k0; subst k0
      exact opPut_clear x n s w (Lib.hid hr) (Lib.hid ok)
end Go.Proofs.YtfmabjoindlfeaaGreat
end
