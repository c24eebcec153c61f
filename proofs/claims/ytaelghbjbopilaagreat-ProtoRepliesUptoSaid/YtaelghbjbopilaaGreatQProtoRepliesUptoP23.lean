import Derived.Test.YtaelghbjbopilaaGreatQProtoRepliesUptoP3
import Derived.Test.YtaelghbjbopilaaGreatQProtoRepliesUptoP7
import Derived.Lib.FrozenHead
import Derived.Test.YtaelghbjbopilaaGreatQProtoRepliesUptoP22
import Derived.Test.YtaelghbjbopilaaGreatQProtoRepliesUptoP15

/- WriteString leaves every other block as it is. · builders that String has read and that are written on. By an AI agent. -/
section
set_option linter.unusedVariables false
set_option linter.unusedSimpArgs false
namespace Go.Proofs.YtaelghbjbopilaaGreat
open Go.RowKit Go.Shelf

/-- the builder's row is not this block -/
def Far (b g : Nat) (w : World) : Prop := ∀ v, w.cell? ⟨b, 1, none⟩ = some v → v.ownBlock ≠ some g
theorem BI.form {B b : Nat} {l : List UInt8} {w : World} (h : BI B b l w) : ∃ p v, AC w b [p, v] ∧ w.ownsRow B 5 1 v (Lib.byteCells l).length (Lib.byteCells l) := by
  rcases h with ⟨_, v, h2, h3, _⟩ | ⟨_, v, h2, h3, _⟩
  · exact ⟨_, v, ⟨_, h2⟩, h3⟩
  · exact ⟨_, v, ⟨_, h2⟩, h3⟩
theorem BI.lt {B b : Nat} {l : List UInt8} {w : World} (h : BI B b l w) : b < w.heap.size := by
  rcases h with h | h
  · exact h.lt
  · exact h.lt
theorem Far.new {B b : Nat} {l : List UInt8} {w : World} (h : BI B b l w) (o : Obj) : Far b w.heap.size (w.alloc o) := by
  obtain ⟨p, v, hA, hr⟩ := h.form
  intro u hu e
  have := (hA.keep ((Bl.refl w).alloc o)).cell 1 _ rfl
  rw [this] at hu
  obtain rfl := Option.some.inj hu
  exact absurd (hr.lt _ e).2 (Nat.lt_irrefl _)
theorem Far.keep {B b g : Nat} {l : List UInt8} {w w' : World} (h : Far b g w) (hB : BI B b l w) (k : Bl w w') : Far b g w' := by
  obtain ⟨p, v, hA, hr⟩ := hB.form
  intro u hu
  have h1 := hA.cell 1 _ rfl
  rw [(hA.keep k).cell 1 _ rfl] at hu
  exact h u (by rw [h1, hu])

set_option maxHeartbeats 2000000 in
set_option maxRecDepth 100000 in
theorem copyCheck_far (B b : Nat) (bs : List Value) (w : World) (h : Lib.IsBuilder 80 5 B b bs w) (g : Nat) (hgb : g ≠ b) :
    Calls Tryz.prog 119 #[.pointer (some ⟨b, 0, none⟩)] w fun e w' => e = .returned (.tuple #[]) ∧ (Lib.BuilderAt 80 5 B b (.pointer (some ⟨b, 0, none⟩)) bs w' ∧ Below B w w') ∧ w'.heap[g]? = w.heap[g]? ∧ w'.heap.size = w.heap.size ∧ w'.cell? ⟨b, 1, none⟩ = w.cell? ⟨b, 1, none⟩ := by
  rcases h with h | h
  · refine (copyCheck_fresh b w h.cell0 h.shape h.frozen0).mono ?_
    rintro e w' ⟨rfl, rfl⟩
    have hk := h
    obtain ⟨_, v, hb, _⟩ := hk
    have hA : AC w b [.pointer none, v] := ⟨_, hb⟩
    exact ⟨rfl, ⟨h.used _, (Below.refl B w).setCell (p := ⟨b, 0, none⟩) h.1 _⟩, Below.heap_setCell _ _ _ _ hgb, by simp, by rw [(hA.setj 0 _).cell 1 _ rfl, hA.cell 1 _ rfl]⟩
  · refine (copyCheck_used b w h.cell0).mono ?_
    rintro e w' ⟨rfl, rfl⟩
    exact ⟨rfl, ⟨h, Below.refl B _⟩, rfl, rfl, rfl⟩

set_option maxHeartbeats 2000000 in
set_option maxRecDepth 100000 in
theorem writeString_far (B b : Nat) (bs : List Value) (s : ByteArray) (w : World) (h : Lib.IsBuilder 80 5 B b bs w) (hlen : bs.length + s.size ≤ 140737488355328) (hBw : B ≤ w.heap.size) (g : Nat) (hg : g < w.heap.size) (hgb : g ≠ b) (hF : Far b g w) :
    Calls Tryz.prog 23 #[.pointer (some ⟨b, 0, none⟩), .string s] w fun e w' => e = .returned (.tuple #[.int .i64 s.size, .nilIface]) ∧ (Lib.BuilderAt 80 5 B b (.pointer (some ⟨b, 0, none⟩)) (bs ++ Lib.strCells s) w' ∧ Below B w w') ∧ w'.heap[g]? = w.heap[g]? := by
  obtain ⟨i0, hi, hz0, hz1, hz2⟩ := info_parts info_byte
  go_enter Tryz.func23, Tryz.ntmps23
  go_wp2_with fail
  refine (copyCheck_far B b bs _ h g hgb).mono ?_
  rintro e w1 ⟨rfl, ⟨h1, hb1⟩, hh1, hs1, hc1⟩
  obtain ⟨hB, v, hbk, hown, hne⟩ := h1
  have c0 : w1.cell? ⟨b, 0, none⟩ = some (.pointer (some ⟨b, 0, none⟩)) := by rw [Lib.cell_of_heap hbk]; rfl
  have c1 : w1.cell? ⟨b, 1, none⟩ = some v := by rw [Lib.cell_of_heap hbk]; rfl
  have hvg : some g ≠ v.ownBlock := fun e => hF v (by rw [← hc1]; exact c1) e.symm
  have HH := Lib.hid hh1
  have HS := Lib.hid hs1
  clear hh1 hs1 hc1 hF
  go_wp2_with (at_builtin; refine Lib.wpList_append_own_string _ rfl _ _ 78 9 rfl B 5 i0 Tryz.underlying78 Tryz.underlying9 hi hz0 hz1 hz2 _ _ _ rfl hown s rfl ?c3 ?c4 ?c5 ?_)
  case c3 => unfold maxLen; omega
  case c4 => omega
  case c5 => have := hb1.size; omega
  intro v' w2 hown' hgrow _
  have hlt : b < w1.heap.size := by
    rcases Nat.lt_or_ge b w1.heap.size with h' | h'
    · exact h'
    · simp [Array.getElem?_eq_none h'] at hbk
  have hb2 : w2.heap[b]? = some (.cells #[.pointer (some ⟨b, 0, none⟩), v] 80 (0, 0)) := by
    rw [hgrow.block b hlt (fun e => hne e.symm)]
    exact hbk
  have d0 : w2.cell? ⟨b, 0, none⟩ = some (.pointer (some ⟨b, 0, none⟩)) := by rw [Lib.cell_of_heap hb2]; rfl
  have d1 : w2.cell? ⟨b, 1, none⟩ = some v := by rw [Lib.cell_of_heap hb2]; rfl
  have f1 : w2.frozen? ⟨b, 1, none⟩ = false := Lib.frozen_of_heap hb2 1
  obtain ⟨ao, n', cap, rfl⟩ : ∃ ao n' cap, v' = .slice ao n' cap := by
    rcases hown'.2 with ⟨hv, _⟩ | ⟨g, cap, cur, hv, _⟩
    · exact ⟨_, _, _, hv⟩
    · exact ⟨_, _, _, hv⟩
  go_wp2_with fail
  go_ret2
  refine ⟨rfl, ⟨?_, ?_⟩, ?_⟩
  · exact Lib.BuilderAt.put (T := 80) (e := 5) hB hb2 (bs' := bs ++ Lib.strCells s) (by simpa [Lib.strCells_length] using hown') (by decide)
  · exact (hb1.grown hgrow (by have := hb1.size; omega) (fun k hk => (hown.lt k hk).1)).setCell (p := ⟨b, 1, none⟩) hB _
  · rw [Below.heap_setCell _ _ _ _ hgb, hgrow.block g (by have := HS.out; omega) hvg, HH.out]
theorem bi_writeFar (B b : Nat) (l : List UInt8) (s : ByteArray) (m : List UInt8) (hs : s.data.toList = m) (w : World) (h : BI B b l w) (hlen : l.length + m.length ≤ 140737488355328) (hBw : B ≤ w.heap.size) (g : Nat) (cs : List Value) (hA : AC w g cs) (hgb : g ≠ b) (hF : Far b g w) :
    Calls Tryz.prog 23 #[.pointer (some ⟨b, 0, none⟩), .string s] w fun e w' => e = .returned (.tuple #[.int .i64 s.size, .nilIface]) ∧ BI B b (l ++ m) w' ∧ Below B w w' ∧ AC w' g cs := by
  have hz : s.size = m.length := by rw [← hs]; simp
  obtain ⟨t, ht⟩ := hA
  refine (writeString_far B b _ s w h (by rw [hz]; simpa [Lib.byteCells] using hlen) hBw g (lt_of_heap ht) hgb hF).mono ?_
  rintro e w' ⟨he, ⟨h1, hb⟩, hh⟩
  refine ⟨he, .inr ?_, hb, ⟨t, by rw [hh]; exact ht⟩⟩
  have e : Lib.byteCells (l ++ m) = Lib.byteCells l ++ Lib.strCells s := by
    simp [Lib.byteCells, Lib.strCells, hs]
  rw [e]; exact h1
end Go.Proofs.YtaelghbjbopilaaGreat

set_option linter.unusedVariables false
set_option linter.unusedSimpArgs false
namespace Go.Proofs.YtaelghbjbopilaaGreat
open Go.RowKit Go.Shelf


end Go.Proofs.YtaelghbjbopilaaGreat
end

/- proto.PutReply of an answer that can be. By an AI agent. -/
section
set_option linter.unusedVariables false
set_option linter.unusedSimpArgs false
namespace Go.Proofs.YtaelghbjbopilaaGreat
open Go.RowKit
attribute [local go_sem] eOp eOper eUpon

/-- six texts, one behind the other -/
structure Six (q1 q2 q3 q4 q5 q6 p2 p3 p4 p5 p6 : ByteArray) : Prop where
  e2 : q1 ++ q2 = p2
  z2 : p2.size ≤ 400000
  y2 : q2.size ≤ 400000
  e3 : p2 ++ q3 = p3
  z3 : p3.size ≤ 400000
  y3 : q3.size ≤ 400000
  e4 : p3 ++ q4 = p4
  z4 : p4.size ≤ 400000
  y4 : q4.size ≤ 400000
  e5 : p4 ++ q5 = p5
  z5 : p5.size ≤ 400000
  y5 : q5.size ≤ 400000
  e6 : p5 ++ q6 = p6
  y6 : q6.size ≤ 400000
  y1 : q1.size ≤ 400000

/-- worlds that go on from W1 and hold a box -/
def WithBox (W1 : World) (g : Nat) (cs : List Value) (W' : World) : Prop := Bl W1 W' ∧ AC W' g cs
theorem WithBox.keep {W1 : World} {g : Nat} {cs : List Value} (w w' : World) (h : WithBox W1 g cs w) (k : Bl w w') : WithBox W1 g cs w' := ⟨h.1.trans k, h.2.keep k⟩
theorem byteCells_len (l : List UInt8) : (Lib.byteCells l).length = l.length := by simp [Lib.byteCells]
theorem flat_take_len (ps : List (ByteArray × ValL)) (k : Nat) : ((ps.take k).flatMap putPair).length ≤ (ps.flatMap putPair).length := by
  have h : (ps.flatMap putPair) = (ps.take k).flatMap putPair ++ (ps.drop k).flatMap putPair := by rw [← List.flatMap_append, List.take_append_drop]
  rw [h, List.length_append]; omega
theorem flat_take_succ (ps : List (ByteArray × ValL)) {k : Nat} (hk : k < ps.length) : (ps.take (k + 1)).flatMap putPair = (ps.take k).flatMap putPair ++ putPair (nthQ ps k) := by
  rw [List.take_succ_eq_append_getElem hk, List.flatMap_append, nthQ_eq hk]
  simp
theorem textS_any (s : ByteArray) (w : World) (hz : s.size ≤ 70000) :
    Calls Tryz.prog 27 #[.string s] w fun e w' => e = .returned (.string (strL (textB s.data.toList))) ∧ Bl w w' := by
  have := text_any s.data.toList w (by rw [show s.data.toList.length = s.size by simp]; omega)
  exact this
theorem putVal_len (v : ValL) : (putVal v).length = 21 + v.s.size := by
  unfold putVal
  simp only [List.length_append, numB_len, bytesN8_len, textB_len]
  have : v.s.data.toList.length = v.s.size := by simp
  omega
theorem pair_sizes {p : ByteArray × ValL} (h : PairOk p 70000) : (strL (textB p.1.data.toList)).size ≤ 400000 ∧ (strL (putVal p.2)).size ≤ 400000 := by
  rw [strL_size, strL_size, putVal_len, textB_len]
  have h1 := h.key
  have h2 := h.s
  have : p.1.data.toList.length = p.1.size := by simp
  omega

theorem strL_small4 {l : List UInt8} (h : l.length ≤ 400000) : (strL l).size ≤ 400000 := by rw [strL_size]; exact h
end Go.Proofs.YtaelghbjbopilaaGreat
end
