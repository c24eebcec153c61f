/- ikey.IsKey, op.nought, right. By an AI agent. -/
import Derived.Test.YtgdlcoicejgdkaaDoorOpL
import Derived.Outline
namespace Go.Proofs.YtgdlcoicejgdkaaDoor
open Go.RowKit

/-- a block that holds these cells -/
def AC (w : World) (g : Nat) (cs : List Value) : Prop := ∃ t, w.heap[g]? = some (.cells cs.toArray t (0, 0))
theorem AC.new (w : World) (g : Nat) (hg : g = w.heap.size) (cs : List Value) (t : TypeId) : AC (w.alloc (.cells cs.toArray t)) g cs := by
  subst hg; exact ⟨t, heap_alloc_new w _⟩
theorem AC.keep {w w' : World} {g : Nat} {cs : List Value} (h : AC w g cs) (hb : Bl w w') : AC w' g cs := by
  obtain ⟨t, h⟩ := h; exact ⟨t, hb.heap h⟩
theorem AC.cell {w : World} {g : Nat} {cs : List Value} (h : AC w g cs) (j : Nat) (v : Value) (hj : cs[j]? = some v) : w.cell? ⟨g, j, none⟩ = some v := by
  obtain ⟨t, h⟩ := h
  rw [cell_of_row w g j _ t (0, 0) h]
  simpa using hj
theorem AC.frozen {w : World} {g : Nat} {cs : List Value} (h : AC w g cs) (j : Nat) : w.frozen? ⟨g, j, none⟩ = false := by
  obtain ⟨t, h⟩ := h
  exact frozen_of_row w g j _ t h
theorem AC.lt {w : World} {g : Nat} {cs : List Value} (h : AC w g cs) : g < w.heap.size := by
  obtain ⟨t, h⟩ := h; exact lt_of_heap h

def ActL.cs (a : ActL) : List Value := [.int .i64 a.k, .float .f64 a.x, .int .i64 a.n, .string a.s]
def ValL.cs (a : ValL) : List Value := [.bool a.there, .float .f64 a.x, .int .i64 a.n, .string a.s]
theorem AC.act {w : World} {g : Nat} {k n : Int} {x : Nat} {s : ByteArray} (h : AC w g [.int .i64 k, .float .f64 x, .int .i64 n, .string s]) :
    w.cell? ⟨g, 0, none⟩ = some (.int .i64 k) ∧ w.cell? ⟨g, 1, none⟩ = some (.float .f64 x) ∧ w.cell? ⟨g, 2, none⟩ = some (.int .i64 n) ∧ w.cell? ⟨g, 3, none⟩ = some (.string s) :=
  ⟨h.cell 0 _ rfl, h.cell 1 _ rfl, h.cell 2 _ rfl, h.cell 3 _ rfl⟩
theorem AC.val {w : World} {g : Nat} {b : Bool} {n : Int} {x : Nat} {s : ByteArray} (h : AC w g [.bool b, .float .f64 x, .int .i64 n, .string s]) :
    w.cell? ⟨g, 0, none⟩ = some (.bool b) ∧ w.cell? ⟨g, 1, none⟩ = some (.float .f64 x) ∧ w.cell? ⟨g, 2, none⟩ = some (.int .i64 n) ∧ w.cell? ⟨g, 3, none⟩ = some (.string s) :=
  ⟨h.cell 0 _ rfl, h.cell 1 _ rfl, h.cell 2 _ rfl, h.cell 3 _ rfl⟩

theorem nought_any (x : Nat) (w : World) (hx : x < two64) : Calls Tryd.prog 94 #[.float .f64 x] w fun e w' => e = .returned (.bool (noughtB x)) ∧ Bl w w' := by
  go_enter Tryd.func94, Tryd.ntmps94
  go_wp2_with fail
  refine (rsameF_any x 0 _ hx (by decide)).mono ?_
  rintro e w1 ⟨rfl, hb1⟩
  go_wp2_with fail
  go_ret
  exact ⟨rfl, hb1⟩

theorem u8_num (c : UInt8) (k : Nat) (hk : k < 256) : decide (c.toNat = k) = (c == UInt8.ofNat k) := by
  rw [Bool.eq_iff_iff, decide_eq_true_eq, beq_iff_eq]
  constructor
  · rintro rfl; simp
  · rintro rfl; simp; omega
theorem idx5 (c : UInt8) : decide (0 ≤ Lib.indexByte [114, 116, 99, 120, 110] c) = (decide (c.toNat = 114) || (decide (c.toNat = 116) || (decide (c.toNat = 99) || (decide (c.toNat = 120) || decide (c.toNat = 110))))) := by
  rw [u8_num c 114 (by decide), u8_num c 116 (by decide), u8_num c 99 (by decide), u8_num c 120 (by decide), u8_num c 110 (by decide)]
  have h : ∀ n : Fin 256, decide (0 ≤ Lib.indexByte [114, 116, 99, 120, 110] (UInt8.ofNat n.val)) = ((UInt8.ofNat n.val) == UInt8.ofNat 114 || ((UInt8.ofNat n.val) == UInt8.ofNat 116 || ((UInt8.ofNat n.val) == UInt8.ofNat 99 || ((UInt8.ofNat n.val) == UInt8.ofNat 120 || (UInt8.ofNat n.val) == UInt8.ofNat 110)))) := by decide +kernel
  have h1 := h ⟨c.toNat, c.toNat_lt⟩
  have h2 : UInt8.ofNat c.toNat = c := UInt8.ofNat_toNat
  simp only [h2] at h1
  exact h1
theorem hd_get {s : ByteArray} (h : 0 < s.size) : (s[0]'h).toNat = hd s := by
  obtain ⟨⟨l⟩⟩ := s
  cases l with
  | nil => exact absurd h (by decide)
  | cons a l => rfl
theorem pos_of {s : ByteArray} (h : ¬ s.toList = []) : 0 < s.size := by
  rw [ByteArray.toList_eq] at h
  obtain ⟨⟨l⟩⟩ := s
  cases l with
  | nil => exact absurd rfl h
  | cons a l => simp [ByteArray.size]

set_option maxRecDepth 100000 in
theorem isKey_any (s : ByteArray) (w : World) (hs : s.size ≤ 140737488351232) : Calls Tryd.prog 72 #[.string s] w fun e w' => e = .returned (.bool (isKeyB s)) ∧ w = w' := by
  by_cases h0 : s.toList = []
  · go_enter Tryd.func72, Tryd.ntmps72
    go_wp2_with fail
    go_ret
    exact ⟨ret_bool (by simp [isKeyB, h0]), rfl⟩
  · have hp := pos_of h0
    have h1 : s.toList.isEmpty = false := by simpa using h0
    by_cases h64 : s.size ≤ 64
    · have HI := Lib.hid (idx5 (s[0]'hp))
      have HH := Lib.hid (hd_get hp)
      have H1 := Lib.hid h1
      clear h0
      go_enter Tryd.func72, Tryd.ntmps72
      go_wp2_with (first | (refine (Tryd.strings_IndexByte _ _ _).mono ?_; rintro e w' ⟨rfl, rfl⟩) | fail)
      go_ret
      refine ⟨ret_bool ?_, rfl⟩
      have h2 : (s[0]'hp).toNat.toUInt8 = s[0]'hp := by simp
      have h3 : (s.toList.isEmpty) = false := H1.out
      simp [isKeyB, h3, h64, ← HH.out, ← HI.out]
    · clear h0
      go_enter Tryd.func72, Tryd.ntmps72
      go_wp2_with fail
      go_ret
      exact ⟨ret_bool (by simp [isKeyB, h64]), rfl⟩

set_option maxHeartbeats 800000 in
set_option maxRecDepth 100000 in
theorem right_any (a : ActL) (w : World) (ok : a.Ok) : Calls Tryd.prog 89 #[a.v] w fun e w' => e = .returned (.bool (rightB a)) ∧ Bl w w' := by
  obtain ⟨k, x, n, s⟩ := a
  obtain ⟨hk, hx, hn, hs⟩ := ok
  simp only at hk hx hn hs
  show Calls Tryd.prog 89 #[.agg #[.int .i64 k, .float .f64 x, .int .i64 n, .string s]] w _
  go_enter Tryd.func89, Tryd.ntmps89
  go_wp2_with (first | (refine (nought_any _ _ hx).mono ?_; rintro e w' ⟨rfl, hb⟩; obtain ⟨c0, c1, c2, c3⟩ := ((AC.new w _ rfl [_, _, _, _] _).keep hb).act) | fail)
  all_goals (go_ret; refine ⟨ret_bool ?_, ?_⟩)
  all_goals first | exact (Bl.refl w).alloc _ | exact ((Bl.refl w).alloc _).trans (by assumption) | skip
  all_goals (unfold rightB; simp_all; try omega)
end Go.Proofs.YtgdlcoicejgdkaaDoor
