/- a block of one cell. · real.Scale. · real.Parse. By an AI agent. -/
import Derived.Test.YtgdlcoicejgdkaaDoorBase
import Derived.Test.YtgdlcoicejgdkaaDoorScale0
import Derived.Outline
import Derived.Test.YtgdlcoicejgdkaaDoorNum5
import Derived.Deep.RegionHeld3
import Derived.Recover
import Derived.Laws.Pointers
import Derived.WalkLawsBesides
namespace Go.Proofs.YtgdlcoicejgdkaaDoor
open Go.RowKit

/-! ### a block of one cell -/
def C1 (w : World) (g : Nat) (v : Value) : Prop := ∃ t, w.heap[g]? = some (.cells #[v] t (0, 0))
theorem C1.cell {w : World} {g : Nat} {v : Value} (h : C1 w g v) : w.cell? ⟨g, 0, none⟩ = some v := by
  obtain ⟨t, h⟩ := h
  rw [cell_of_row w g 0 _ t (0, 0) h]; rfl
theorem C1.frozen {w : World} {g : Nat} {v : Value} (h : C1 w g v) : w.frozen? ⟨g, 0, none⟩ = false := by
  obtain ⟨t, h⟩ := h
  exact frozen_of_row w g 0 _ t h
theorem C1.lt {w : World} {g : Nat} {v : Value} (h : C1 w g v) : g < w.heap.size := by
  obtain ⟨t, h⟩ := h
  exact lt_of_heap h
theorem C1.set {w : World} {g : Nat} {v : Value} (h : C1 w g v) (u : Value) : C1 (w.setCell ⟨g, 0, none⟩ u) g u := by
  obtain ⟨t, h⟩ := h
  exact ⟨t, by rw [heap_setCell_same w g 0 _ t _ h]; rfl⟩
theorem C1.other {w : World} {g g' : Nat} {v : Value} (h : C1 w g v) (hn : g ≠ g') (u : Value) : C1 (w.setCell ⟨g', 0, none⟩ u) g v := by
  obtain ⟨t, h⟩ := h
  exact ⟨t, by rw [Below.heap_setCell _ _ _ _ hn]; exact h⟩
theorem C1.keep {w w' : World} {g : Nat} {v : Value} (h : C1 w g v) (hb : Bl w w') : C1 w' g v := by
  obtain ⟨t, h⟩ := h
  exact ⟨t, hb.heap h⟩
theorem C1.grown {w w' : World} {g : Nat} {v : Value} {row : Option Nat} (h : C1 w g v) (hg : w.grownBy w' row) (hn : some g ≠ row) : C1 w' g v := by
  obtain ⟨t, h⟩ := h
  exact ⟨t, by rw [hg.block g (lt_of_heap h) hn]; exact h⟩
theorem C1.alloc {w : World} {g : Nat} {v : Value} (h : C1 w g v) (o : Obj) : C1 (w.alloc o) g v := h.keep ((Bl.refl w).alloc o)
theorem C1.new (w : World) (g : Nat) (hg : g = w.heap.size) (v : Value) (t : TypeId) : C1 (w.alloc (.cells #[v] t)) g v := by
  subst hg
  exact ⟨t, heap_alloc_new w _⟩

end Go.Proofs.YtgdlcoicejgdkaaDoor

namespace Go.Proofs.YtgdlcoicejgdkaaDoor
open Go.RowKit Ieee

theorem zero_cmp {y : Nat} (hy : y < two64) (hn : nanB y = false) :
    (FloatKind.f64.format.order y 0 == some .lt) = (decide (y % two63 ≠ 0) && decide (two63 ≤ y)) ∧ (FloatKind.f64.format.order y 0 == some .eq) = decide (y % two63 = 0) := by
  have e : FloatKind.f64.format.order y 0 = some (compare (sval y) (sval 0)) := order_eq hy (by decide) hn (by decide)
  rw [e, show sval 0 = 0 from by decide]
  by_cases h : y % two63 = 0
  · have : sval y = 0 := by
      unfold sval
      rw [h]
      split <;> rfl
    rw [this, decide_eq_true h, decide_eq_false (by simp [h])]
    exact ⟨rfl, rfl⟩
  · have hu : 0 < uval (y % two63) := by
      have := uval_lt (show 0 < y % two63 by omega)
      rwa [show uval 0 = 0 from by decide] at this
    rw [decide_eq_false h, decide_eq_true h]
    unfold sval
    by_cases h2 : two63 ≤ y
    · rw [if_pos h2, decide_eq_true h2, Int.compare_eq_lt.2 (by omega)]; exact ⟨rfl, rfl⟩
    · rw [if_neg h2, decide_eq_false h2, Int.compare_eq_gt.2 (by omega)]; exact ⟨rfl, rfl⟩
theorem far_order {r : Nat} (h : r ≤ infR) : (FloatKind.f64.format.order r 4823355200913801216 == some .gt) = decide (w48 < r) ∧ (FloatKind.f64.format.order r 4823355200913801216 == some .eq) = decide (r = w48) := by
  have e : FloatKind.f64.format.order r w48 = some (compare r w48) := order_pos (by unfold infR two63 at *; omega) (by decide) (nan_small h) (by decide +kernel)
  rw [show (4823355200913801216 : Nat) = w48 from rfl, e]
  rcases Nat.lt_trichotomy r w48 with k | k | k
  · rw [Nat.compare_eq_lt.2 k, decide_eq_false (by omega), decide_eq_false (by omega)]; exact ⟨rfl, rfl⟩
  · subst k; exact ⟨by decide +kernel, by decide +kernel⟩
  · rw [Nat.compare_eq_gt.2 k, decide_eq_true k, decide_eq_false (by omega)]; exact ⟨rfl, rfl⟩
theorem mul_inf {c : Nat} (h0 : c ≠ 0) (h : c < 2 ^ 53) : floatBits .mul .f64 (rung c 0) infR = some infR := by
  show Ieee.double.mul _ _ = _
  unfold Format.mul
  rw [read_natF h0 h, show Ieee.double.read infR = .infinity false from by decide +kernel]
  have h1 := (nat_word h0 h).2.1
  have h2 : c * 2 ^ (52 - c.log2) ≠ 0 := by unfold two52 at h1; omega
  simp only [Datum.product]
  first | (rw [if_neg h2]; decide +kernel) | (simp [h2]; decide +kernel)

set_option maxRecDepth 100000 in
theorem scale_any (n : Int) (y : Nat) (w : World) (hn : -9223372036854775808 ≤ n ∧ n ≤ 9223372036854775807) (hy : y < two64) :
    Calls Tryd.prog 61 #[.int .i64 n, .float .f64 y] w fun e w' => e = .returned (.int .i64 (scaleV n y)) ∧ w = w' := by
  have q1 : (FloatKind.f64.format.order y y != some .eq) = nanB y := self_nan hy
  cases hnan : nanB y
  · rw [hnan] at q1
    obtain ⟨qlt, qeq⟩ := zero_cmp hy hnan
    have hc := clampT_bd n
    by_cases hz : clampT n = 0
    · have HS := Lib.hid (show scaleV n y = 0 from by unfold scaleV; rw [hnan, if_neg (by simp), if_pos (.inl hz)])
      have hz' : min (max n 0) 281474976710656 = 0 := hz
      clear hz qlt qeq hc hnan
      go_enter Tryd.func61, Tryd.ntmps61
      go_wp2_with fail
      all_goals (go_ret; exact ⟨ret_int HS.out.symm, rfl⟩)
    · obtain ⟨c, hcn⟩ : ∃ c : Nat, clampT n = (c : Int) := ⟨(clampT n).toNat, by omega⟩
      have hc0 : c ≠ 0 := by omega
      have hc53 : c < 2 ^ 53 := by omega
      have hcz : ((c : Int) == 0) = false := by simpa using hc0
      have hz' : min (max n 0) 281474976710656 = (c : Int) := hcn
      have hz2 : ¬ (c : Int) = 0 := by omega
      cases hu : underB y
      · have hp : y % two63 ≠ 0 ∧ ¬ two63 ≤ y := by
          simp only [underB, Bool.or_eq_false_iff, decide_eq_false_iff_not] at hu
          exact hu
        have hm : y % two63 = y := Nat.mod_eq_of_lt (by omega)
        have hyi : y ≤ infR := by simpa [nanB, hm] using hnan
        rw [decide_eq_false hp.2, Bool.and_false] at qlt
        rw [decide_eq_false hp.1] at qeq
        have HF := Lib.hid (float_rung c)
        obtain ⟨r, hr, hri, hsr⟩ : ∃ r, floatBits .mul .f64 (rung c 0) y = some r ∧ r ≤ infR ∧ scaleV n y = if w48 ≤ r then 281474976710656 else (floorR r : Int) := by
          by_cases hi : y = infR
          · refine ⟨infR, by rw [hi]; exact mul_inf hc0 hc53, Nat.le_refl _, ?_⟩
            unfold scaleV
            rw [hnan, if_neg (by simp), hu, if_neg (by simp [hz]), if_pos (.inl hi), if_pos (by decide)]
          · refine ⟨farR c y, mul_far hc0 hc53 (by omega), rung_le_inf _ _, ?_⟩
            unfold scaleV
            rw [hnan, if_neg (by simp), hu, if_neg (by simp [hz]), hcn, Int.toNat_natCast]
            by_cases k : w48 ≤ farR c y
            · rw [if_pos (.inr k), if_pos k]
            · rw [if_neg (by rintro (k2 | k2); · exact hi k2
                             · exact k k2), if_neg k]
        obtain ⟨qg, qe⟩ := far_order hri
        have hmul : ∀ W : World, (binOp .mul 26 (.float .f64 (rung c 0)) (.float .f64 y)).run Tryd.prog W = .ok (.float .f64 r) W := fun W => run_float_arith W .mul 26 .f64 _ y r hr
        have hfl : floatOfInt .f64 (c : Int) = rung c 0 := float_rung c
        by_cases k : w48 ≤ r
        · have HS := Lib.hid (hsr.trans (if_pos k))
          have qge : ((FloatKind.f64.format.order r 4823355200913801216 == some .gt) || (FloatKind.f64.format.order r 4823355200913801216 == some .eq)) = true := by
            rw [qg, qe]; simp; omega
          generalize rung c 0 = F at *
          clear hz hc hcn hc53 hr hri hm hyi hp hu hnan hsr qg qe HF hy
          go_enter Tryd.func61, Tryd.ntmps61
          go_wp2_with fail
          go_ret
          exact ⟨ret_int HS.out.symm, rfl⟩
        · have HS := Lib.hid (hsr.trans (if_neg k))
          have qg1 : (FloatKind.f64.format.order r 4823355200913801216 == some .gt) = false := by rw [qg]; simp; omega
          have qe1 : (FloatKind.f64.format.order r 4823355200913801216 == some .eq) = false := by rw [qe]; simp; omega
          have hcv : ∀ W, (convert 26 3 (.float .f64 r)).run Tryd.prog W = .ok (.int .i64 (floorR r)) W := fun W =>
            run_convert_float_int W 26 3 .f64 .i64 _ _ (by rw [Tryd.underlying26]; rfl) Tryd.underlying3 (to_int_floor (by omega))
          generalize rung c 0 = F at *
          generalize floorR r = R at *
          clear hz hc hcn hc53 hr hri hm hyi hp hu hnan hsr qg qe HF hy
          go_enter Tryd.func61, Tryd.ntmps61
          go_wp2_with fail
          go_ret
          exact ⟨ret_int HS.out.symm, rfl⟩
      · have HS := Lib.hid (show scaleV n y = 0 from by unfold scaleV; rw [hnan, if_neg (by simp), if_pos (.inr hu)])
        have qu : (FloatKind.f64.format.order y 0 == some .lt) = true ∨ (FloatKind.f64.format.order y 0 == some .eq) = true := by
          rw [qlt, qeq]
          simp only [underB, Bool.or_eq_true, decide_eq_true_eq] at hu
          by_cases k : y % two63 = 0
          · right; simp [k]
          · left; simp [k]; omega
        clear hz hc qlt qeq hu hnan
        rcases qu with qu | qu
        all_goals
          go_enter Tryd.func61, Tryd.ntmps61
          go_wp2_with fail
          all_goals (go_ret; exact ⟨ret_int HS.out.symm, rfl⟩)
  · rw [hnan] at q1
    have HS := Lib.hid (show scaleV n y = min (max n 0) 281474976710656 from by unfold scaleV; rw [hnan]; rfl)
    go_enter Tryd.func61, Tryd.ntmps61
    go_wp2_with fail
    go_ret
    exact ⟨ret_int HS.out.symm, rfl⟩
end Go.Proofs.YtgdlcoicejgdkaaDoor

namespace Go.Proofs.YtgdlcoicejgdkaaDoor
open Go.RowKit

theorem hmf (fn : Fn) (first cap : Array Value) (w : World) : (Instr.makeFunc fn first cap).run Tryd.prog w = .ok (.func fn first cap) w := rfl
theorem assert_code (c : Int) (w : World) : (Instr.typeAssert (.iface 40 (.int .i64 c)) 20 40 true).run Tryd.prog w = .ok (.tuple #[.int .i64 c, .bool true]) w := by
  simp [Instr.typeAssert, run_underlying Tryd.underlying40]
theorem store_fl (a : Addr) (b : Nat) (w : World) : (store a (.float .f64 b)).run Tryd.prog w = stored Tryd.prog w a (.float .f64 b) .plain := run_store Tryd.prog w a _ .plain rfl
/-- a recovered panic settles to a return -/
theorem leaves_back {P : Program} {fn : Func} {tmps : Array Value} {R : Ending → World → Prop} {w : World} {v x : Value} (h : (results fn tmps).run P w = .ok v w) (hR : R (.returned v) w) :
    Leaves P fn tmps R [] (settle (.panicking [{ v := x, recovered := true }])) w := ⟨v, h, hR⟩
theorem leaves_ret {P : Program} {fn : Func} {tmps : Array Value} {R : Ending → World → Prop} {w : World} {v : Value} (h : (results fn tmps).run P w = .ok v w) (hR : R (.returned v) w) :
    Leaves P fn tmps R [] (settle .returning) w := ⟨v, h, hR⟩

theorem pcatch_idle (a0 a1 : Addr) (w : World) :
    CallsD Tryd.prog 83 #[.pointer (some a0), .pointer (some a1)] .returning w fun e u' w' => e = .returned (.tuple #[]) ∧ u' = .returning ∧ w' = w := by
  refine callsD_of_wpS Tryd.func83 rfl fun c₀ cs hu => ?_
  apply wpS_seq
  apply wpS_region
  simp [wpOpsS, go_sem, recoverD, hu, Tryd.ntmps83, Exit.thenS]
  apply wpS_seq
  apply wpS_region
  simp [wpOpsS, go_sem, Exit.thenS]
  refine wpS_cond (t := false) (by simp [Act.eval, Array.replicate]) ?_
  simp only [Bool.false_eq_true, if_false]
  refine wpS_of_wp (wp_skip ?_)
  cases c₀
  simp_all [bodyPostS, results, Tryd.results83]

set_option maxRecDepth 100000 in
theorem pcatch_code (a0 a1 : Addr) (c : Int) (v0 v1 : Value) (older : List PanicEntry) (w : World) (h0 : w.cell? a0 = some v0) (h1 : w.cell? a1 = some v1)
    (f0 : w.frozen? a0 = false) (f1 : w.frozen? a1 = false) (n01 : a0 ≠ a1) :
    CallsD Tryd.prog 83 #[.pointer (some a0), .pointer (some a1)] (.panicking ({ v := .iface 40 (.int .i64 c), recovered := false } :: older)) w fun e u' w' =>
      e = .returned (.tuple #[]) ∧ u' = .panicking ({ v := .iface 40 (.int .i64 c), recovered := true } :: older) ∧ w' = (w.setCell a0 (.float .f64 0)).setCell a1 (.int .i64 c) := by
  refine callsD_of_wpS Tryd.func83 rfl fun c₀ cs hu => ?_
  apply wpS_seq
  apply wpS_region
  simp [wpOpsS, go_sem, recoverD, hu, Tryd.ntmps83, Exit.thenS]
  apply wpS_seq
  apply wpS_region
  simp [wpOpsS, go_sem, Exit.thenS]
  refine wpS_cond (t := true) (by simp [Act.eval, Array.replicate]) ?_
  simp only [if_true]
  apply wpS_seq
  apply wpS_region
  simp [wpOpsS, go_sem, Exit.thenS, assert_code, recoverD]
  apply wpS_seq
  apply wpS_seq
  apply wpS_region
  simp [wpOpsS, go_sem, Exit.thenS, recoverD]
  refine wpS_cond (t := false) (by simp [Act.eval, Array.replicate]) ?_
  simp only [Bool.false_eq_true, if_false]
  refine wpS_of_wp (wp_skip ?_)
  simp only [Exit.thenS]
  apply wpS_region
  have c1 : (w.setCell a0 (.float .f64 0)).cell? a1 = some v1 := (World.cell?_setCell_other _ _ _ _ n01).trans h1
  simp [wpOpsS, go_sem, store_fl, h0, f0, c1, f1, recoverD, bodyPostS, results, Tryd.results83]

theorem nan_is (w : World) : Calls Tryd.prog 79 #[] w fun e w' => e = .returned (.float .f64 nanW) ∧ w = w' := by
  have hrb := run_frombits
  go_enter Tryd.func79, Tryd.ntmps79
  go_wp2_with fail
  go_ret
  exact ⟨rfl, rfl⟩
theorem copysign_neg (x : Nat) (w : World) (hx : x < two63) : Calls Tryd.prog 78 #[.float .f64 x, .float .f64 13830554455654793216] w fun e w' => e = .returned (.float .f64 (x + two63)) ∧ w = w' := by
  have hx64 : x < two64 := by unfold two63 two64 at *; omega
  have hrx := run_bits x
  have hry := run_bits 13830554455654793216
  have hfb := run_frombits
  have e1 := abs_bits x hx64
  rw [Nat.mod_eq_of_lt hx] at e1
  have e2 : bits .and .u64 13830554455654793216 9223372036854775808 = 9223372036854775808 := by decide +kernel
  have e3 : bits .or .u64 (x : Int) 9223372036854775808 = ((x + two63 : Nat) : Int) := by
    rw [show (9223372036854775808 : Int) = ((9223372036854775808 : Nat) : Int) from rfl, u64_or_nat x _ hx64 (by decide)]
    congr 1
    rw [Nat.or_comm, Nat.add_comm, show (9223372036854775808 : Nat) = 2 ^ 63 * 1 from by decide, ← Nat.two_pow_add_eq_or_of_lt (i := 63) (by unfold two63 at hx; exact hx)]
    rfl
  go_enter Tryd.func78, Tryd.ntmps78
  go_wp2_with fail
  go_ret
  exact ⟨rfl, rfl⟩

/-- the two results of real.Parse, read -/
theorem parse_results {tmps : Array Value} {w : World} {b0 b1 : Addr} {v0 : Nat} {v1 : Int} (h0 : tmps.getD 2 undef = .pointer (some b0)) (h1 : tmps.getD 3 undef = .pointer (some b1))
    (d0 : w.cell? b0 = some (.float .f64 v0)) (d1 : w.cell? b1 = some (.int .i64 v1)) :
    (results Tryd.f31 tmps).run Tryd.prog w = .ok (.tuple #[.float .f64 v0, .int .i64 v1]) w := by
  rw [Array.getD_eq_getD_getElem?] at h0 h1
  simp [results, Tryd.results31, go_sem, h0, h1, d0, d1]

theorem numF_lt (n : Nat) (k : Int) : (numF n k).1 < two63 := by
  have h := rung_le_inf n k
  unfold numF
  split
  · decide
  · split
    · decide
    · split
      · decide
      · show rung n k < two63; unfold infR two63 at *; omega
theorem numP_lt (l : List UInt8) : (numP l).1 < two63 := by
  unfold numP
  split
  · decide
  · split
    · decide
    · split
      · decide
      · exact numF_lt _ _
theorem numF_code (n : Nat) (k : Int) : (numF n k).2 = 0 ∨ (numF n k).2 = 11 := by
  unfold numF
  split
  · exact .inl rfl
  · split
    · exact .inr rfl
    · split
      · exact .inr rfl
      · exact .inl rfl

set_option maxHeartbeats 800000 in
set_option maxRecDepth 100000 in
theorem parse_nan (s : ByteArray) (w : World) (hs : s.toList = [110, 97, 110]) :
    Calls Tryd.prog 31 #[.string s] w fun e w' => e = .returned (.tuple #[.float .f64 nanW, .int .i64 0]) ∧ Bl w w' := by
  have hmf := hmf
  have hsf := store_fl
  have q : (s.toList == [110, 97, 110]) = true := by rw [hs]; rfl
  clear hs
  go_enter_defers Tryd.func31, Tryd.ntmps31
  go_wp2_with fail
  have c1 := C1.new (w.alloc (.cells #[.float .f64 0] 26)) (w.heap.size + 1) (by simp) (.int .i64 0) 40
  have c0 := (C1.new w w.heap.size rfl (.float .f64 0) 26).alloc (.cells #[.int .i64 0] 40)
  have hb := ((Bl.refl w).alloc (.cells #[.float .f64 0] 26)).alloc (.cells #[.int .i64 0] 40)
  generalize (w.alloc (.cells #[.float .f64 0] 26)).alloc (.cells #[.int .i64 0] 40) = W at *
  refine (nan_is _).mono ?_
  rintro e w1 ⟨rfl, rfl⟩
  have k0 := c0.cell
  have k1 := c1.cell
  have f0 := c0.frozen
  have f1 := c1.frozen
  go_wp2_with fail
  refine leaves_cons (f := 83) (args := #[.pointer (some ⟨w.heap.size, 0, none⟩), .pointer (some ⟨w.heap.size + 1, 0, none⟩)]) (by simp) (by simp [go_sem]) ?_
  refine (pcatch_idle _ _ _).mono ?_
  rintro e u' w'' ⟨rfl, rfl, rfl⟩
  have d0 := ((c0.set (.float .f64 nanW)).other (g' := w.heap.size + 1) (by omega) (.int .i64 0)).cell
  have d1 := ((c1.other (g' := w.heap.size) (by omega) (.float .f64 nanW)).set (.int .i64 0)).cell
  exact leaves_ret (parse_results rfl rfl d0 d1) ⟨rfl, (hb.setCell (p := ⟨w.heap.size, 0, none⟩) (Nat.le_refl _) _).setCell (p := ⟨w.heap.size + 1, 0, none⟩) (Nat.le_succ _) _⟩

/-- what Parse finds behind the sign -/
structure RestOf (s r : ByteArray) (b : Bool) (f : Nat) (c : Int) : Prop where
  cut : ∀ w, Calls Tryd.prog 84 #[.string s, .string ⟨#[45]⟩] w fun e w' => e = .returned (.tuple #[.string r, .bool b]) ∧ w = w'
  num : ∀ w, Tab w → Calls Tryd.prog 86 #[.string r] w fun e w' => e = numE f c ∧ Bl w w'

set_option maxHeartbeats 1600000 in
set_option maxRecDepth 100000 in
theorem parse_bad (s r : ByteArray) (b : Bool) (f : Nat) (c : Int) (w : World) (R : Hid (RestOf s r b f c)) (hT : Tab w) (q : (s.toList == [110, 97, 110]) = false) (q2 : (r.toList == [105, 110, 102]) = false) (hc : c ≠ 0) :
    Calls Tryd.prog 31 #[.string s] w fun e w' => e = .returned (.tuple #[.float .f64 0, .int .i64 c]) ∧ Bl w w' := by
  have hmf := hmf
  have hsf := store_fl
  have HE := Lib.hid (numE_bad f c hc)
  go_enter_defers Tryd.func31, Tryd.ntmps31
  go_wp2_with fail
  have c1 := C1.new (w.alloc (.cells #[.float .f64 0] 26)) (w.heap.size + 1) (by simp) (.int .i64 0) 40
  have c0 := (C1.new w w.heap.size rfl (.float .f64 0) 26).alloc (.cells #[.int .i64 0] 40)
  have hb := ((Bl.refl w).alloc (.cells #[.float .f64 0] 26)).alloc (.cells #[.int .i64 0] 40)
  generalize (w.alloc (.cells #[.float .f64 0] 26)).alloc (.cells #[.int .i64 0] 40) = W at *
  refine (R.out.cut _).mono ?_
  rintro e w1 ⟨rfl, rfl⟩
  go_wp2_with fail
  refine (R.out.num _ (hT.keep hb)).mono ?_
  rintro e w1 ⟨rfl, hb1⟩
  rw [HE.out]
  have c0 := c0.keep hb1
  have c1 := c1.keep hb1
  have hb := hb.trans hb1
  refine leaves_cons (f := 83) (args := #[.pointer (some ⟨w.heap.size, 0, none⟩), .pointer (some ⟨w.heap.size + 1, 0, none⟩)]) (by simp) (by simp [go_sem]) ?_
  refine (pcatch_code ⟨w.heap.size, 0, none⟩ ⟨w.heap.size + 1, 0, none⟩ c _ _ [] _ c0.cell c1.cell c0.frozen c1.frozen (by simp)).mono ?_
  rintro e u' w'' ⟨rfl, rfl, rfl⟩
  have d0 := ((c0.set (.float .f64 0)).other (g' := w.heap.size + 1) (by omega) (.int .i64 c)).cell
  have d1 := ((c1.other (g' := w.heap.size) (by omega) (.float .f64 0)).set (.int .i64 c)).cell
  exact leaves_back (parse_results rfl rfl d0 d1) ⟨rfl, (hb.setCell (p := ⟨w.heap.size, 0, none⟩) (Nat.le_refl _) _).setCell (p := ⟨w.heap.size + 1, 0, none⟩) (Nat.le_succ _) _⟩

set_option maxHeartbeats 1600000 in
set_option maxRecDepth 100000 in
theorem parse_num (s r : ByteArray) (b : Bool) (f : Nat) (w : World) (R : Hid (RestOf s r b f 0)) (hT : Tab w) (q : (s.toList == [110, 97, 110]) = false) (q2 : (r.toList == [105, 110, 102]) = false) (hf : f < two63) :
    Calls Tryd.prog 31 #[.string s] w fun e w' => e = .returned (.tuple #[.float .f64 (withS b f), .int .i64 0]) ∧ Bl w w' := by
  have hmf := hmf
  have hsf := store_fl
  have HE := Lib.hid (numE_ok f)
  go_enter_defers Tryd.func31, Tryd.ntmps31
  go_wp2_with fail
  have c1 := C1.new (w.alloc (.cells #[.float .f64 0] 26)) (w.heap.size + 1) (by simp) (.int .i64 0) 40
  have c0 := (C1.new w w.heap.size rfl (.float .f64 0) 26).alloc (.cells #[.int .i64 0] 40)
  have hb := ((Bl.refl w).alloc (.cells #[.float .f64 0] 26)).alloc (.cells #[.int .i64 0] 40)
  generalize (w.alloc (.cells #[.float .f64 0] 26)).alloc (.cells #[.int .i64 0] 40) = W at *
  refine (R.out.cut _).mono ?_
  rintro e w1 ⟨rfl, rfl⟩
  go_wp2_with fail
  refine (R.out.num _ (hT.keep hb)).mono ?_
  rintro e w1 ⟨rfl, hb1⟩
  rw [HE.out]
  have c0 := c0.keep hb1
  have c1 := c1.keep hb1
  have hb := hb.trans hb1
  have k0 := c0.cell
  have k1 := c1.cell
  have f0 := c0.frozen
  have f1 := c1.frozen
  cases b
  · go_wp2_with fail
    refine leaves_cons (f := 83) (args := #[.pointer (some ⟨w.heap.size, 0, none⟩), .pointer (some ⟨w.heap.size + 1, 0, none⟩)]) (by simp) (by simp [go_sem]) ?_
    refine (pcatch_idle _ _ _).mono ?_
    rintro e u' w'' ⟨rfl, rfl, rfl⟩
    have d0 := (((c0.set (.float .f64 f)).set (.float .f64 f)).other (g' := w.heap.size + 1) (by omega) (.int .i64 0)).cell
    have d1 := (((c1.other (g' := w.heap.size) (by omega) (.float .f64 f)).other (g' := w.heap.size) (by omega) (.float .f64 f)).set (.int .i64 0)).cell
    exact leaves_ret (parse_results rfl rfl d0 d1) ⟨rfl, ((hb.setCell (p := ⟨w.heap.size, 0, none⟩) (Nat.le_refl _) _).setCell (p := ⟨w.heap.size, 0, none⟩) (Nat.le_refl _) _).setCell (p := ⟨w.heap.size + 1, 0, none⟩) (Nat.le_succ _) _⟩
  · go_wp2_with fail
    refine (copysign_neg f _ hf).mono ?_
    rintro e w1 ⟨rfl, rfl⟩
    go_wp2_with fail
    refine leaves_cons (f := 83) (args := #[.pointer (some ⟨w.heap.size, 0, none⟩), .pointer (some ⟨w.heap.size + 1, 0, none⟩)]) (by simp) (by simp [go_sem]) ?_
    refine (pcatch_idle _ _ _).mono ?_
    rintro e u' w'' ⟨rfl, rfl, rfl⟩
    have d0 := ((((c0.set (.float .f64 f)).set (.float .f64 (f + two63))).set (.float .f64 (f + two63))).other (g' := w.heap.size + 1) (by omega) (.int .i64 0)).cell
    have d1 := ((((c1.other (g' := w.heap.size) (by omega) (.float .f64 f)).other (g' := w.heap.size) (by omega) (.float .f64 (f + two63))).other (g' := w.heap.size) (by omega) (.float .f64 (f + two63))).set (.int .i64 0)).cell
    exact leaves_ret (parse_results rfl rfl d0 d1) ⟨rfl, (((hb.setCell (p := ⟨w.heap.size, 0, none⟩) (Nat.le_refl _) _).setCell (p := ⟨w.heap.size, 0, none⟩) (Nat.le_refl _) _).setCell (p := ⟨w.heap.size, 0, none⟩) (Nat.le_refl _) _).setCell (p := ⟨w.heap.size + 1, 0, none⟩) (Nat.le_succ _) _⟩

set_option maxHeartbeats 1600000 in
set_option maxRecDepth 100000 in
theorem parse_inf (s r : ByteArray) (b : Bool) (f : Nat) (c : Int) (w : World) (R : Hid (RestOf s r b f c)) (q : (s.toList == [110, 97, 110]) = false) (q2 : (r.toList == [105, 110, 102]) = true) :
    Calls Tryd.prog 31 #[.string s] w fun e w' => e = .returned (.tuple #[.float .f64 (withS b infR), .int .i64 0]) ∧ Bl w w' := by
  have hmf := hmf
  have hsf := store_fl
  go_enter_defers Tryd.func31, Tryd.ntmps31
  go_wp2_with fail
  have c1 := C1.new (w.alloc (.cells #[.float .f64 0] 26)) (w.heap.size + 1) (by simp) (.int .i64 0) 40
  have c0 := (C1.new w w.heap.size rfl (.float .f64 0) 26).alloc (.cells #[.int .i64 0] 40)
  have hb := ((Bl.refl w).alloc (.cells #[.float .f64 0] 26)).alloc (.cells #[.int .i64 0] 40)
  generalize (w.alloc (.cells #[.float .f64 0] 26)).alloc (.cells #[.int .i64 0] 40) = W at *
  refine (R.out.cut _).mono ?_
  rintro e w1 ⟨rfl, rfl⟩
  go_wp2_with fail
  refine (inf_pos _).mono ?_
  rintro e w1 ⟨rfl, rfl⟩
  have k0 := c0.cell
  have k1 := c1.cell
  have f0 := c0.frozen
  have f1 := c1.frozen
  cases b
  · go_wp2_with fail
    refine leaves_cons (f := 83) (args := #[.pointer (some ⟨w.heap.size, 0, none⟩), .pointer (some ⟨w.heap.size + 1, 0, none⟩)]) (by simp) (by simp [go_sem]) ?_
    refine (pcatch_idle _ _ _).mono ?_
    rintro e u' w'' ⟨rfl, rfl, rfl⟩
    have d0 := (((c0.set (.float .f64 infR)).set (.float .f64 infR)).other (g' := w.heap.size + 1) (by omega) (.int .i64 0)).cell
    have d1 := (((c1.other (g' := w.heap.size) (by omega) (.float .f64 infR)).other (g' := w.heap.size) (by omega) (.float .f64 infR)).set (.int .i64 0)).cell
    exact leaves_ret (parse_results rfl rfl d0 d1) ⟨rfl, ((hb.setCell (p := ⟨w.heap.size, 0, none⟩) (Nat.le_refl _) _).setCell (p := ⟨w.heap.size, 0, none⟩) (Nat.le_refl _) _).setCell (p := ⟨w.heap.size + 1, 0, none⟩) (Nat.le_succ _) _⟩
  · go_wp2_with fail
    refine (copysign_neg infR _ (by decide)).mono ?_
    rintro e w1 ⟨rfl, rfl⟩
    go_wp2_with fail
    refine leaves_cons (f := 83) (args := #[.pointer (some ⟨w.heap.size, 0, none⟩), .pointer (some ⟨w.heap.size + 1, 0, none⟩)]) (by simp) (by simp [go_sem]) ?_
    refine (pcatch_idle _ _ _).mono ?_
    rintro e u' w'' ⟨rfl, rfl, rfl⟩
    have d0 := ((((c0.set (.float .f64 infR)).set (.float .f64 (infR + two63))).set (.float .f64 (infR + two63))).other (g' := w.heap.size + 1) (by omega) (.int .i64 0)).cell
    have d1 := ((((c1.other (g' := w.heap.size) (by omega) (.float .f64 infR)).other (g' := w.heap.size) (by omega) (.float .f64 (infR + two63))).other (g' := w.heap.size) (by omega) (.float .f64 (infR + two63))).set (.int .i64 0)).cell
    exact leaves_ret (parse_results rfl rfl d0 d1) ⟨rfl, (((hb.setCell (p := ⟨w.heap.size, 0, none⟩) (Nat.le_refl _) _).setCell (p := ⟨w.heap.size, 0, none⟩) (Nat.le_refl _) _).setCell (p := ⟨w.heap.size, 0, none⟩) (Nat.le_refl _) _).setCell (p := ⟨w.heap.size + 1, 0, none⟩) (Nat.le_succ _) _⟩

theorem ret_fl {a b : Nat} {c d : Int} (h : a = b) (k : c = d) : Ending.returned (.tuple #[.float .f64 a, .int .i64 c]) = Ending.returned (.tuple #[.float .f64 b, .int .i64 d]) := by rw [h, k]
/-- real.Parse, of every text -/
theorem parse_any (s : ByteArray) (l : List UInt8) (w : World) (hs : SB s l) (hsz : s.size ≤ 140737488351232) (hT : Tab w) :
    Calls Tryd.prog 31 #[.string s] w fun e w' => e = .returned (.tuple #[.float .f64 (parseP l).1, .int .i64 (parseP l).2]) ∧ Bl w w' := by
  have hsl : s.toList = l := by rw [ByteArray.toList_eq]; exact hs
  have hr := hs.trim
  have hlen : (restL l).length ≤ l.length := by
    unfold restL Lib.trimPrefix
    split
    · simp
    · exact Nat.le_refl _
  have hz := hs.size
  generalize hrr : (⟨(Lib.trimPrefix s.data.toList [45]).toArray⟩ : ByteArray) = r at hr
  have hrl : r.toList = restL l := by rw [ByteArray.toList_eq]; exact hr
  have R : RestOf s r (signB l) (numP (restL l)).1 (numP (restL l)).2 := by
    refine ⟨fun w => ?_, fun w hT => rnumber_any r _ w hr (by rw [hr.size]; omega) hT⟩
    refine (Tryd.strings_CutPrefix s ⟨#[45]⟩ w).mono ?_
    rintro e w' ⟨rfl, rfl⟩
    have e1 : (ByteArray.mk #[45]).data.toList = [45] := rfl
    rw [e1, hrr, show Lib.hasPrefix s.data.toList [45] = signB l from by rw [signB, ← hs]]
    exact ⟨rfl, rfl⟩
  by_cases h1 : l = nanL
  · have e : parseP l = (nanW, 0) := if_pos h1
    rw [e]
    exact parse_nan s w (hsl.trans h1)
  · have q : (s.toList == [110, 97, 110]) = false := by
      rw [beq_eq_false_iff_ne, hsl]; exact h1
    by_cases h2 : restL l = infL
    · have e : parseP l = (withS (signB l) infR, 0) := by unfold parseP; rw [if_neg h1, if_pos h2]
      rw [e]
      exact parse_inf s r _ _ _ w (Lib.hid R) q (by rw [hrl, h2]; rfl)
    · have q2 : (r.toList == [105, 110, 102]) = false := by
        rw [beq_eq_false_iff_ne, hrl]; exact h2
      by_cases h3 : (numP (restL l)).2 = 0
      · have e : parseP l = (withS (signB l) (numP (restL l)).1, 0) := by unfold parseP; rw [if_neg h1, if_neg h2, if_pos h3]
        rw [e]
        rw [h3] at R
        exact parse_num s r _ _ w (Lib.hid R) hT q q2 (numP_lt _)
      · have e : parseP l = (0, (numP (restL l)).2) := by unfold parseP; rw [if_neg h1, if_neg h2, if_neg h3]
        rw [e]
        exact parse_bad s r _ _ _ w (Lib.hid R) hT q q2 h3
end Go.Proofs.YtgdlcoicejgdkaaDoor
