/- the four boxes of OpTogether; contracts with structs taken apart. By an AI agent. -/
import Derived.Test.YtgdlcoicejgdkaaDoorOp7
import Derived.Test.YtgdlcoicejgdkaaDoorOp5
namespace Go.Proofs.YtgdlcoicejgdkaaDoor
open Go.RowKit

/-- four boxes of a law: three acts and a value -/
structure Four (w W : World) (a b c : ActL) (v : ValL) : Prop where
  bl : Bl w W
  a : AC W w.heap.size a.cs
  b : AC W (w.heap.size + 1) b.cs
  c : AC W (w.heap.size + 1 + 1) c.cs
  v : AC W (w.heap.size + 1 + 1 + 1) v.cs
theorem Four.keep {w W W' : World} {a b c : ActL} {v : ValL} (h : Four w W a b c v) (k : Bl W W') : Four w W' a b c v :=
  ⟨h.bl.trans k, h.a.keep k, h.b.keep k, h.c.keep k, h.v.keep k⟩
theorem Four.new (w : World) (a b c : ActL) (v : ValL) (T U V X : TypeId) :
    Four w ((((w.alloc (.cells a.cs.toArray T)).alloc (.cells b.cs.toArray U)).alloc (.cells c.cs.toArray V)).alloc (.cells v.cs.toArray X)) a b c v := by
  have h1 := ((AC.new w _ rfl a.cs T).keep ((Bl.refl _).alloc (.cells b.cs.toArray U))).keep ((Bl.refl _).alloc (.cells c.cs.toArray V))
  have h2 := (AC.new (w.alloc (.cells a.cs.toArray T)) (w.heap.size + 1) (by simp) b.cs U).keep ((Bl.refl _).alloc (.cells c.cs.toArray V))
  have h3 := AC.new ((w.alloc (.cells a.cs.toArray T)).alloc (.cells b.cs.toArray U)) (w.heap.size + 1 + 1) (by simp) c.cs V
  have h4 := AC.new (((w.alloc (.cells a.cs.toArray T)).alloc (.cells b.cs.toArray U)).alloc (.cells c.cs.toArray V)) (w.heap.size + 1 + 1 + 1) (by simp) v.cs X
  exact ⟨((((Bl.refl w).alloc _).alloc _).alloc _).alloc _, h1.keep ((Bl.refl _).alloc _), h2.keep ((Bl.refl _).alloc _), h3.keep ((Bl.refl _).alloc _), h4⟩
/-- a world that holds more than the four boxes -/
def Big (w W : World) : Prop := w.heap.size + 1 + 1 + 1 < W.heap.size
theorem Four.big {w W : World} {a b c : ActL} {v : ValL} (h : Four w W a b c v) : Big w W := h.v.lt
theorem Big.keep {w W W' : World} (h : Big w W) (k : Bl W W') : Big w W' := Nat.lt_of_lt_of_le h k.size
theorem Big.alloc {w W : World} (h : Big w W) (o : Obj) : Big w (W.alloc o) := h.keep ((Bl.refl _).alloc _)
theorem Big.drew {w W : World} (h : Big w W) : Big w W.drew := h.keep ((Bl.refl _).drew)
theorem AC.set4 {w : World} {g : Nat} {a0 b0 c0 d0 : Value} (h : AC w g [a0, b0, c0, d0]) (a b c d : Value) :
    AC ((((w.setCell ⟨g, 0, none⟩ a).setCell ⟨g, 1, none⟩ b).setCell ⟨g, 2, none⟩ c).setCell ⟨g, 3, none⟩ d) g [a, b, c, d] := by
  obtain ⟨t, h⟩ := h
  refine ⟨t, ?_⟩
  have h1 := heap_setCell_same w g 0 _ t a h
  have h2 := heap_setCell_same _ g 1 _ t b h1
  have h3 := heap_setCell_same _ g 2 _ t c h2
  have h4 := heap_setCell_same _ g 3 _ t d h3
  rw [h4]
  simp
theorem AC.other4 {w : World} {g g' : Nat} {cs : List Value} (h : AC w g cs) (hn : g ≠ g') (a b c d : Value) :
    AC ((((w.setCell ⟨g', 0, none⟩ a).setCell ⟨g', 1, none⟩ b).setCell ⟨g', 2, none⟩ c).setCell ⟨g', 3, none⟩ d) g cs :=
  (((h.other hn).other hn).other hn).other hn
theorem Four.store4 {w W X : World} {a b c : ActL} {v : ValL} (h : Four w W a b c v) (hX : Big w X) (p q r s : Value) :
    Four w ((((W.setCell ⟨X.heap.size, 0, none⟩ p).setCell ⟨X.heap.size, 1, none⟩ q).setCell ⟨X.heap.size, 2, none⟩ r).setCell ⟨X.heap.size, 3, none⟩ s) a b c v := by
  unfold Big at hX
  exact ⟨h.bl.store4 (by omega) _ _ _ _, h.a.other4 (by omega) _ _ _ _, h.b.other4 (by omega) _ _ _ _, h.c.other4 (by omega) _ _ _ _, h.v.other4 (by omega) _ _ _ _⟩

theorem wrap64_bd (n : Int) : -9223372036854775808 ≤ wrap64 n ∧ wrap64 n ≤ 9223372036854775807 := by unfold wrap64; omega
theorem nil_small : nilS.size ≤ 140737488351232 := by decide
theorem small_int (n : Int) (h : -10 ≤ n ∧ n ≤ 10) : -9223372036854775808 ≤ n ∧ n ≤ 9223372036854775807 := by omega
theorem joined_ok {a b : ActL} (oa : a.Ok) (ob : b.Ok) : (joined a b).Ok := by
  unfold joined
  split
  · exact ⟨small_int 1 (by omega), (by decide : (0 : Nat) < two64), wrap64_bd _, nil_small⟩
  · split
    · exact ⟨small_int 2 (by omega), rmax_lt' oa.x ob.x, small_int 0 (by omega), nil_small⟩
    · split
      · exact ⟨small_int 3 (by omega), rmin_lt oa.x ob.x, small_int 0 (by omega), nil_small⟩
      · exact ob
theorem both_ok {key : ByteArray} {a b : ActL} (oa : a.Ok) (ob : b.Ok) : (bothL key a b).Ok := by
  unfold bothL
  split
  · exact ob
  · exact joined_ok oa ob
theorem valOf_ok {a : ActL} (oa : a.Ok) : (valOf a).Ok := by
  unfold valOf
  split
  · exact noVal_ok
  · exact ⟨oa.x, oa.n, oa.s⟩
theorem after_ok {key : ByteArray} {v : ValL} {a : ActL} (ov : v.Ok) (oa : a.Ok) : (afterL key v a).Ok := by
  unfold afterL
  split
  · refine valOf_ok ?_
    split
    · exact joined_ok ⟨oa.k, ov.x, ov.n, by show (0 : Nat) ≤ _; omega⟩ oa
    · exact oa
  · exact ov
theorem after_ex (key : ByteArray) (v : ValL) (a : ActL) (ov : v.Ok) (oa : a.Ok) : ∃ r : ValL, afterL key v a = r ∧ r.Ok := ⟨_, rfl, after_ok ov oa⟩
theorem both_ex (key : ByteArray) (a b : ActL) (oa : a.Ok) (ob : b.Ok) : ∃ r : ActL, bothL key a b = r ∧ r.Ok := ⟨_, rfl, both_ok oa ob⟩

theorem after_agg (key : ByteArray) (vb : Bool) (vx : Nat) (vn : Int) (vs : ByteArray) (k : Int) (x : Nat) (n : Int) (s : ByteArray) (rb : Bool) (rx : Nat) (rn : Int) (rs : ByteArray) (w : World)
    (h : Hid (afterL key ⟨vb, vx, vn, vs⟩ ⟨k, x, n, s⟩ = ⟨rb, rx, rn, rs⟩)) (hkey : key.size ≤ 140737488351232) (ov : Hid (ValL.Ok ⟨vb, vx, vn, vs⟩)) (oa : Hid (ActL.Ok ⟨k, x, n, s⟩)) :
    Calls Tryd.prog 42 #[.string key, .agg #[.bool vb, .float .f64 vx, .int .i64 vn, .string vs], .agg #[.int .i64 k, .float .f64 x, .int .i64 n, .string s]] w fun e w' => e = .returned (.agg #[.bool rb, .float .f64 rx, .int .i64 rn, .string rs]) ∧ Bl w w' := by
  refine (after_any key ⟨vb, vx, vn, vs⟩ ⟨k, x, n, s⟩ w hkey ov.out oa.out).mono ?_
  rintro e w' ⟨rfl, hb⟩
  rw [h.out]
  exact ⟨rfl, hb⟩
theorem both_agg (key : ByteArray) (l : Int) (y : Nat) (m : Int) (t : ByteArray) (k : Int) (x : Nat) (n : Int) (s : ByteArray) (rk : Int) (rx : Nat) (rn : Int) (rs : ByteArray) (w : World)
    (h : Hid (bothL key ⟨l, y, m, t⟩ ⟨k, x, n, s⟩ = ⟨rk, rx, rn, rs⟩)) (hkey : key.size ≤ 140737488351232) (ob : Hid (ActL.Ok ⟨l, y, m, t⟩)) (oa : Hid (ActL.Ok ⟨k, x, n, s⟩)) :
    Calls Tryd.prog 44 #[.string key, .agg #[.int .i64 l, .float .f64 y, .int .i64 m, .string t], .agg #[.int .i64 k, .float .f64 x, .int .i64 n, .string s]] w fun e w' => e = .returned (.agg #[.int .i64 rk, .float .f64 rx, .int .i64 rn, .string rs]) ∧ Bl w w' := by
  refine (both_any key ⟨l, y, m, t⟩ ⟨k, x, n, s⟩ w hkey ob.out oa.out).mono ?_
  rintro e w' ⟨rfl, hb⟩
  rw [h.out]
  exact ⟨rfl, hb⟩
theorem same_agg (vb : Bool) (vx : Nat) (vn : Int) (vs : ByteArray) (rb : Bool) (rx : Nat) (rn : Int) (rs : ByteArray) (r : Bool) (w : World)
    (h : Hid (sameV ⟨vb, vx, vn, vs⟩ ⟨rb, rx, rn, rs⟩ = r)) (ov : Hid (ValL.Ok ⟨vb, vx, vn, vs⟩)) (oa : Hid (ValL.Ok ⟨rb, rx, rn, rs⟩)) :
    Calls Tryd.prog 19 #[.agg #[.bool vb, .float .f64 vx, .int .i64 vn, .string vs], .agg #[.bool rb, .float .f64 rx, .int .i64 rn, .string rs]] w fun e w' => e = .returned (.bool r) ∧ Bl w w' := by
  refine (sameV_any ⟨vb, vx, vn, vs⟩ ⟨rb, rx, rn, rs⟩ w ov.out oa.out).mono ?_
  rintro e w' ⟨rfl, hb⟩
  rw [h.out]
  exact ⟨rfl, hb⟩
theorem fits_agg (key : ByteArray) (k : Int) (x : Nat) (n : Int) (s : ByteArray) (r : Bool) (w : World)
    (h : Hid (fitsB key ⟨k, x, n, s⟩ = r)) (hkey : key.size ≤ 140737488351232) (oa : Hid (ActL.Ok ⟨k, x, n, s⟩)) :
    Calls Tryd.prog 39 #[.string key, .agg #[.int .i64 k, .float .f64 x, .int .i64 n, .string s]] w fun e w' => e = .returned (.bool r) ∧ Bl w w' := by
  refine (fits_any key ⟨k, x, n, s⟩ w hkey oa.out).mono ?_
  rintro e w' ⟨rfl, hb⟩
  rw [h.out]
  exact ⟨rfl, hb⟩
theorem cell_far {w W X : World} {p : Addr} {u : Value} (h : W.cell? p = some u) (hX : Big w X) (hp : p.block ≤ w.heap.size + 1 + 1 + 1) (a b c d : Value) :
    ((((W.setCell ⟨X.heap.size, 0, none⟩ a).setCell ⟨X.heap.size, 1, none⟩ b).setCell ⟨X.heap.size, 2, none⟩ c).setCell ⟨X.heap.size, 3, none⟩ d).cell? p = some u := by
  unfold Big at hX
  have key : ∀ (V : World) (j : Nat) (z : Value), V.cell? p = some u → (V.setCell ⟨X.heap.size, j, none⟩ z).cell? p = some u := fun V j z hV =>
    (Below.cell (Below.setCell (p := ⟨X.heap.size, j, none⟩) (Below.refl (w.heap.size + 1 + 1 + 1 + 1) V) (by show _ ≤ X.heap.size; omega) z) (by omega)).trans hV
  exact key _ _ _ (key _ _ _ (key _ _ _ (key _ _ _ h)))
end Go.Proofs.YtgdlcoicejgdkaaDoor
