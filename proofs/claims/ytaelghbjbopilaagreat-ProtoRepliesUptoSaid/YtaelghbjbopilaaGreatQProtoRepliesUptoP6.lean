import Derived.Test.YtaelghbjbopilaaGreatQProtoRepliesUptoP1
import Derived.Deep.RegionLaw
import Derived.Deep.AppendLies
import Derived.Test.YtaelghbjbopilaaGreatQProtoRepliesUptoP5
import Derived.Outline

/- a block that holds these cells. By an AI agent. -/
section
namespace Go.Proofs.YtaelghbjbopilaaGreat
open Go.RowKit

/-- a block that holds these cells -/
def AC (w : World) (g : Nat) (cs : List Value) : Prop := ∃ t, w.heap[g]? = some (.cells cs.toArray t (0, 0))
theorem AC.new (w : World) (g : Nat) (hg : g = w.heap.size) (cs : List Value) (t : TypeId) : AC (w.alloc (.cells cs.toArray t)) g cs := by
  subst hg; exact ⟨t, heap_alloc_new w _⟩
theorem AC.keep {w w' : World} {g : Nat} {cs : List Value} (h : AC w g cs) (hb : Bl w w') : AC w' g cs := by
  obtain ⟨t, h⟩ := h; exact ⟨t, hb.heap h⟩
theorem AC.cell {w : World} {g : Nat} {cs : List Value} (h : AC w g cs) (j : Nat) (v : Value) (hj : cs[j]? = some v) : w.cell? ⟨g, j, none⟩ = some v := by
  obtain ⟨t, h⟩ := h
  rw [cell_of_row w g j _ t (0, 0) h]
  simpa using hj
theorem AC.frozen {w : World} {g : Nat} {cs : List Value} (h : AC w g cs) (j : Nat) : w.frozen? ⟨g, j, none⟩ = false := by
  obtain ⟨t, h⟩ := h
  exact frozen_of_row w g j _ t h
theorem AC.lt {w : World} {g : Nat} {cs : List Value} (h : AC w g cs) : g < w.heap.size := by
  obtain ⟨t, h⟩ := h; exact lt_of_heap h
theorem AC.other {w : World} {g g' j : Nat} {cs : List Value} {u : Value} (h : AC w g cs) (hn : g ≠ g') : AC (w.setCell ⟨g', j, none⟩ u) g cs := by
  obtain ⟨t, h⟩ := h
  exact ⟨t, by rw [Below.heap_setCell _ _ _ _ hn]; exact h⟩
end Go.Proofs.YtaelghbjbopilaaGreat
end

/- acts and values, and what the package op tells of them: plain definitions and their laws; blocks of cells; op.nought, right. By an AI agent. -/
section
namespace Go.Proofs.YtaelghbjbopilaaGreat
open Go.RowKit

structure ActL where
  k : Int
  x : Nat
  n : Int
  s : ByteArray
structure ValL where
  there : Bool
  x : Nat
  n : Int
  s : ByteArray
def nilS : ByteArray := ⟨#[]⟩
def ActL.v (a : ActL) : Value := .agg #[.int .i64 a.k, .float .f64 a.x, .int .i64 a.n, .string a.s]
def ValL.v (a : ValL) : Value := .agg #[.bool a.there, .float .f64 a.x, .int .i64 a.n, .string a.s]
def noVal : ValL := ⟨false, 0, 0, nilS⟩
/-- ranges of Go's types -/
structure ActL.Ok (a : ActL) : Prop where
  k : -9223372036854775808 ≤ a.k ∧ a.k ≤ 9223372036854775807
  x : a.x < two64
  n : -9223372036854775808 ≤ a.n ∧ a.n ≤ 9223372036854775807
  s : a.s.size ≤ 140737488351232
structure ValL.Ok (a : ValL) : Prop where
  x : a.x < two64
  n : -9223372036854775808 ≤ a.n ∧ a.n ≤ 9223372036854775807
  s : a.s.size ≤ 140737488351232

def noughtB (x : Nat) : Bool := decide (fkey x = fkey 0)
def rightB (a : ActL) : Bool := decide (a.s.size ≤ 1024) &&
  if a.k = 0 then decide (a.n = 0) && (a.s.toList.isEmpty || noughtB a.x)
  else if a.k = 1 then noughtB a.x && a.s.toList.isEmpty
  else if a.k = 2 ∨ a.k = 3 then decide (a.n = 0) && a.s.toList.isEmpty
  else if a.k = 4 then noughtB a.x && (decide (a.n = 0) && a.s.toList.isEmpty)
  else false
/-- a key's first byte -/
def hd (key : ByteArray) : Nat := (key.data.toList.headD 0).toNat
def sameV (v u : ValL) : Bool := decide (v.there = u.there) && (decide (fkey v.x = fkey u.x) && (decide (v.n = u.n) && (v.s.toList == u.s.toList)))
def sameA (v u : ActL) : Bool := decide (v.k = u.k) && (decide (fkey v.x = fkey u.x) && (decide (v.n = u.n) && (v.s.toList == u.s.toList)))
theorem sameV_refl (v : ValL) : sameV v v = true := by simp [sameV]
theorem sameV_of {v u : ValL} (h1 : v.there = u.there) (h2 : fkey v.x = fkey u.x) (h3 : v.n = u.n) (h4 : v.s = u.s) : sameV v u = true := by simp [sameV, h1, h2, h3, h4]

theorem nil_of {s : ByteArray} (h : s.toList = []) : s = nilS := by
  rw [ByteArray.toList_eq] at h
  obtain ⟨⟨l⟩⟩ := s
  cases l with
  | nil => rfl
  | cons a l => cases h
theorem nil_list : nilS.toList = [] := by rw [ByteArray.toList_eq]; rfl
theorem nought_eq {x : Nat} (hx : x < two64) (h : noughtB x = true) : x = 0 := by
  simp only [noughtB, decide_eq_true_eq] at h
  exact fkey_inj' hx (by decide) h (by decide)


theorem nought_zero : noughtB 0 = true := by decide
theorem right_add (n : Int) : rightB ⟨1, 0, n, nilS⟩ = true := by simp [rightB, nil_list, nought_zero, show nilS.size = 0 from rfl]



end Go.Proofs.YtaelghbjbopilaaGreat

namespace Go.Proofs.YtaelghbjbopilaaGreat
open Go.RowKit

theorem AC.act {w : World} {g : Nat} {k n : Int} {x : Nat} {s : ByteArray} (h : AC w g [.int .i64 k, .float .f64 x, .int .i64 n, .string s]) :
    w.cell? ⟨g, 0, none⟩ = some (.int .i64 k) ∧ w.cell? ⟨g, 1, none⟩ = some (.float .f64 x) ∧ w.cell? ⟨g, 2, none⟩ = some (.int .i64 n) ∧ w.cell? ⟨g, 3, none⟩ = some (.string s) :=
  ⟨h.cell 0 _ rfl, h.cell 1 _ rfl, h.cell 2 _ rfl, h.cell 3 _ rfl⟩
theorem AC.val {w : World} {g : Nat} {b : Bool} {n : Int} {x : Nat} {s : ByteArray} (h : AC w g [.bool b, .float .f64 x, .int .i64 n, .string s]) :
    w.cell? ⟨g, 0, none⟩ = some (.bool b) ∧ w.cell? ⟨g, 1, none⟩ = some (.float .f64 x) ∧ w.cell? ⟨g, 2, none⟩ = some (.int .i64 n) ∧ w.cell? ⟨g, 3, none⟩ = some (.string s) :=
  ⟨h.cell 0 _ rfl, h.cell 1 _ rfl, h.cell 2 _ rfl, h.cell 3 _ rfl⟩

theorem nought_any (x : Nat) (w : World) (hx : x < two64) : Calls Tryz.prog 188 #[.float .f64 x] w fun e w' => e = .returned (.bool (noughtB x)) ∧ Bl w w' := by
  go_enter Tryz.func188, Tryz.ntmps188
  go_wp2_with fail
  refine (rsameF_any x 0 _ hx (by decide)).mono ?_
  rintro e w1 ⟨rfl, hb1⟩
  go_wp2_with fail
  go_ret
  exact ⟨rfl, hb1⟩


set_option maxHeartbeats 800000 in
set_option maxRecDepth 100000 in
theorem right_any (a : ActL) (w : World) (ok : a.Ok) : Calls Tryz.prog 165 #[a.v] w fun e w' => e = .returned (.bool (rightB a)) ∧ Bl w w' := by
  obtain ⟨k, x, n, s⟩ := a
  obtain ⟨hk, hx, hn, hs⟩ := ok
  simp only at hk hx hn hs
  show Calls Tryz.prog 165 #[.agg #[.int .i64 k, .float .f64 x, .int .i64 n, .string s]] w _
  go_enter Tryz.func165, Tryz.ntmps165
  go_wp2_with (first | (refine (nought_any _ _ hx).mono ?_; rintro e w' ⟨rfl, hb⟩; obtain ⟨c0, c1, c2, c3⟩ := ((AC.new w _ rfl [_, _, _, _] _).keep hb).act) | fail)
  all_goals (go_ret; refine ⟨ret_bool ?_, ?_⟩)
  all_goals first | exact (Bl.refl w).alloc _ | exact ((Bl.refl w).alloc _).trans (by assumption) | skip
  all_goals (unfold rightB; simp_all; try omega)
theorem store_float (a : Addr) (b : Nat) (w : World) : (store a (.float .f64 b)).run Tryz.prog w = stored Tryz.prog w a (.float .f64 b) .plain := run_store Tryz.prog w a _ .plain rfl
theorem Bl.store4 {w W : World} (h : Bl w W) {g : Nat} (hg : w.heap.size ≤ g) (a b c d : Value) : Bl w ((((W.setCell ⟨g, 0, none⟩ a).setCell ⟨g, 1, none⟩ b).setCell ⟨g, 2, none⟩ c).setCell ⟨g, 3, none⟩ d) :=
  Below.setCell (p := ⟨g, 3, none⟩) (Below.setCell (p := ⟨g, 2, none⟩) (Below.setCell (p := ⟨g, 1, none⟩) (Below.setCell (p := ⟨g, 0, none⟩) h hg _) hg _) hg _) hg _


theorem AC.set4 {w : World} {g : Nat} {a0 b0 c0 d0 : Value} (h : AC w g [a0, b0, c0, d0]) (a b c d : Value) :
    AC ((((w.setCell ⟨g, 0, none⟩ a).setCell ⟨g, 1, none⟩ b).setCell ⟨g, 2, none⟩ c).setCell ⟨g, 3, none⟩ d) g [a, b, c, d] := by
  obtain ⟨t, h⟩ := h
  refine ⟨t, ?_⟩
  have h1 := heap_setCell_same w g 0 _ t a h
  have h2 := heap_setCell_same _ g 1 _ t b h1
  have h3 := heap_setCell_same _ g 2 _ t c h2
  have h4 := heap_setCell_same _ g 3 _ t d h3
  rw [h4]
  simp
theorem AC.other4 {w : World} {g g' : Nat} {cs : List Value} (h : AC w g cs) (hn : g ≠ g') (a b c d : Value) :
    AC ((((w.setCell ⟨g', 0, none⟩ a).setCell ⟨g', 1, none⟩ b).setCell ⟨g', 2, none⟩ c).setCell ⟨g', 3, none⟩ d) g cs :=
  (((h.other hn).other hn).other hn).other hn
theorem nil_small : nilS.size ≤ 140737488351232 := by decide
end Go.Proofs.YtaelghbjbopilaaGreat
end
