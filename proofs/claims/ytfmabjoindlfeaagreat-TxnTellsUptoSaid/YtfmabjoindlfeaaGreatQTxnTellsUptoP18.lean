import Derived.Test.YtfmabjoindlfeaaGreatQTxnTellsUptoP15
import Derived.Test.YtfmabjoindlfeaaGreatQTxnTellsUptoP17
import Derived.Lib.Strings
import Derived.Recover
import Derived.Laws.Pointers
import Derived.WalkLawsBesides
import Derived.Deep.RegionHeld3
import Derived.Test.YtfmabjoindlfeaaGreatQTxnTellsUptoP9

/- the assertion that a recovered value is a code. By an AI agent. -/
section
namespace Go.Proofs.YtfmabjoindlfeaaGreat
open Go.RowKit

theorem assert_code (c : Int) (w : World) : (Instr.typeAssert (.iface 49 (.int .i64 c)) 20 49 true).run Tryz.prog w = .ok (.tuple #[.int .i64 c, .bool true]) w := by
  simp [Instr.typeAssert, run_underlying Tryz.underlying49]
end Go.Proofs.YtfmabjoindlfeaaGreat
end

/- vec.take, vec.Get (lines of the texts Get, Get2). By an AI agent. -/
section
namespace Go.Proofs.YtfmabjoindlfeaaGreat
open Go.RowKit

theorem take_some (b : Nat) (s : ByteArray) (n : Nat) (w : World) (hc : w.cell? ⟨b, 0, none⟩ = some (.string s)) (hz : w.frozen? ⟨b, 0, none⟩ = false) (hn : n ≤ s.size) :
    Calls Tryz.prog 185 #[.pointer (some ⟨b, 0, none⟩), .int .i64 n] w fun e w' => e = .returned (.string (s.extract 0 n)) ∧ w' = w.setCell ⟨b, 0, none⟩ (.string (s.extract n s.size)) := by
  go_enter Tryz.func185, Tryz.ntmps185
  go_wp2
  go_ret
  exact ⟨rfl, rfl⟩
theorem take_short (b : Nat) (s : ByteArray) (n : Nat) (w : World) (hc : w.cell? ⟨b, 0, none⟩ = some (.string s)) (hn : s.size < n) :
    Calls Tryz.prog 185 #[.pointer (some ⟨b, 0, none⟩), .int .i64 n] w fun e w' => e = .panicked [{ v := .iface 49 (.int .i64 3), recovered := false }] ∧ w' = w := by
  go_enter Tryz.func185, Tryz.ntmps185
  go_wp2
  exact ⟨rfl, rfl, rfl⟩

theorem catch_idle (a0 a1 a2 : Addr) (w : World) :
    CallsD Tryz.prog 184 #[.pointer (some a0), .pointer (some a1), .pointer (some a2)] .returning w fun e u' w' => e = .returned (.tuple #[]) ∧ u' = .returning ∧ w' = w := by
  refine callsD_of_wpS Tryz.func184 rfl fun c₀ cs hu => ?_
  apply wpS_seq
  apply wpS_region
  simp [wpOpsS, go_sem, recoverD, hu, Tryz.ntmps184, Exit.thenS]
  apply wpS_seq
  apply wpS_region
  simp [wpOpsS, go_sem, Exit.thenS]
  refine wpS_cond (t := false) (by simp [Act.eval, Array.replicate]) ?_
  simp only [Bool.false_eq_true, if_false]
  refine wpS_of_wp (wp_skip ?_)
  cases c₀
  simp_all [bodyPostS, results, Tryz.results184]

set_option maxRecDepth 100000 in
theorem catch_code (a0 a1 a2 : Addr) (c : Int) (v0 v1 v2 : Value) (older : List PanicEntry) (w : World) (h0 : w.cell? a0 = some v0) (h1 : w.cell? a1 = some v1) (h2 : w.cell? a2 = some v2)
    (f0 : w.frozen? a0 = false) (f1 : w.frozen? a1 = false) (f2 : w.frozen? a2 = false) (n01 : a0 ≠ a1) (n02 : a0 ≠ a2) (n12 : a1 ≠ a2) :
    CallsD Tryz.prog 184 #[.pointer (some a0), .pointer (some a1), .pointer (some a2)] (.panicking ({ v := .iface 49 (.int .i64 c), recovered := false } :: older)) w fun e u' w' =>
      e = .returned (.tuple #[]) ∧ u' = .panicking ({ v := .iface 49 (.int .i64 c), recovered := true } :: older) ∧ w' = ((w.setCell a0 (.slice none 0 0)).setCell a1 (.int .i64 0)).setCell a2 (.int .i64 c) := by
  refine callsD_of_wpS Tryz.func184 rfl fun c₀ cs hu => ?_
  apply wpS_seq
  apply wpS_region
  simp [wpOpsS, go_sem, recoverD, hu, Tryz.ntmps184, Exit.thenS]
  apply wpS_seq
  apply wpS_region
  simp [wpOpsS, go_sem, Exit.thenS]
  refine wpS_cond (t := true) (by simp [Act.eval, Array.replicate]) ?_
  simp only [if_true]
  apply wpS_seq
  apply wpS_region
  simp [wpOpsS, go_sem, Exit.thenS, assert_code, recoverD]
  apply wpS_seq
  apply wpS_seq
  apply wpS_region
  simp [wpOpsS, go_sem, Exit.thenS, recoverD]
  refine wpS_cond (t := false) (by simp [Act.eval, Array.replicate]) ?_
  simp only [Bool.false_eq_true, if_false]
  refine wpS_of_wp (wp_skip ?_)
  simp only [Exit.thenS]
  apply wpS_region
  have c1 : (w.setCell a0 (.slice none 0 0)).cell? a1 = some v1 := (World.cell?_setCell_other _ _ _ _ n01).trans h1
  have c2 : ((w.setCell a0 (.slice none 0 0)).setCell a1 (.int .i64 0)).cell? a2 = some v2 := (World.cell?_setCell_other _ _ _ _ n12).trans ((World.cell?_setCell_other _ _ _ _ n02).trans h2)
  simp [wpOpsS, go_sem, h0, f0, c1, f1, c2, f2, recoverD, bodyPostS, results, Tryz.results184]
theorem take_list (b : Nat) (s : ByteArray) (l : List UInt8) (n : Nat) (w : World) (hs : SB s l) (hc : C1 w b (.string s)) (hn : n ≤ l.length) :
    Calls Tryz.prog 185 #[.pointer (some ⟨b, 0, none⟩), .int .i64 n] w fun e w' => ∃ t r : ByteArray, e = .returned (.string t) ∧ SB t (l.take n) ∧ SB r (l.drop n) ∧ w' = w.setCell ⟨b, 0, none⟩ (.string r) := by
  refine (take_some b s n w hc.cell hc.frozen (by rw [hs.size]; exact hn)).mono ?_
  rintro e w' ⟨rfl, rfl⟩
  refine ⟨_, _, rfl, ?_, ?_, rfl⟩
  · rw [SB, Lib.extract_data, hs]; simp
  · rw [SB, Lib.extract_data, hs, hs.size]; rw [List.take_of_length_le]; simp

/-- a recovered panic settles to a return -/
theorem vget_results {tmps : Array Value} {w : World} {b0 b1 b2 : Addr} {v0 : Value} {v1 v2 : Int} (h0 : tmps.getD 2 undef = .pointer (some b0)) (h1 : tmps.getD 3 undef = .pointer (some b1)) (h2 : tmps.getD 4 undef = .pointer (some b2))
    (d0 : w.cell? b0 = some v0) (d1 : w.cell? b1 = some (.int .i64 v1)) (d2 : w.cell? b2 = some (.int .i64 v2)) :
    (results Tryz.f138 tmps).run Tryz.prog w = .ok (.tuple #[v0, .int .i64 v1, .int .i64 v2]) w := by
  rw [Array.getD_eq_getD_getElem?] at h0 h1 h2
  simp [results, Tryz.results138, go_sem, h0, h1, h2, d0, d1, d2]
theorem _root_.Go.World.ownsRow.mono {w : World} {B B' : Nat} {e : TypeId} {sz : Nat} {v : Value} {n : Nat} {xs : List Value} (h : w.ownsRow B e sz v n xs) (hB : B' ≤ B) : w.ownsRow B' e sz v n xs := by
  obtain ⟨h1, h2 | ⟨g, cap, cur, hv, hg, r⟩⟩ := h
  · exact ⟨h1, .inl h2⟩
  · exact ⟨h1, .inr ⟨g, cap, cur, hv, Nat.le_trans hB hg, r⟩⟩

set_option maxHeartbeats 800000 in
set_option maxRecDepth 100000 in
theorem vget_none (s : ByteArray) (w : World) (h : s.size = 0) :
    Calls Tryz.prog 138 #[.string s] w fun e w' => e = .returned (.tuple #[.slice none 0 0, .int .i64 0, .int .i64 3]) ∧ Bl w w' := by
  have H0 := Lib.hid h; clear h
  have hmf := hmf
  go_enter_defers Tryz.func138, Tryz.ntmps138
  go_wp2_with fail
  have c3 := C1.new (((w.alloc (.cells #[.slice none 0 0] 23)).alloc (.cells #[.int .i64 0] 3)).alloc (.cells #[.int .i64 0] 49)) (w.heap.size + 1 + 1 + 1) (by simp) (.string s) 9
  have c2 := (C1.new ((w.alloc (.cells #[.slice none 0 0] 23)).alloc (.cells #[.int .i64 0] 3)) (w.heap.size + 1 + 1) (by simp) (.int .i64 0) 49).alloc (.cells #[.string s] 9)
  have c1 := ((C1.new (w.alloc (.cells #[.slice none 0 0] 23)) (w.heap.size + 1) (by simp) (.int .i64 0) 3).alloc (.cells #[.int .i64 0] 49)).alloc (.cells #[.string s] 9)
  have c0 := (((C1.new w w.heap.size rfl (.slice none 0 0) 23).alloc (.cells #[.int .i64 0] 3)).alloc (.cells #[.int .i64 0] 49)).alloc (.cells #[.string s] 9)
  have hb := ((((Bl.refl w).alloc (.cells #[.slice none 0 0] 23)).alloc (.cells #[.int .i64 0] 3)).alloc (.cells #[.int .i64 0] 49)).alloc (.cells #[.string s] 9)
  generalize ((((w.alloc (.cells #[.slice none 0 0] 23)).alloc (.cells #[.int .i64 0] 3)).alloc (.cells #[.int .i64 0] 49)).alloc (.cells #[.string s] 9)) = W at *
  refine (take_short _ s 1 _ c3.cell (by rw [H0.out]; decide)).mono ?_
  rintro e w1 ⟨rfl, rfl⟩
  refine leaves_cons (f := 184) (args := #[.pointer (some ⟨w.heap.size, 0, none⟩), .pointer (some ⟨w.heap.size + 1, 0, none⟩), .pointer (some ⟨w.heap.size + 1 + 1, 0, none⟩)]) (by simp) (by simp [go_sem]) ?_
  refine (catch_code ⟨w.heap.size, 0, none⟩ ⟨w.heap.size + 1, 0, none⟩ ⟨w.heap.size + 1 + 1, 0, none⟩ 3 _ _ _ [] _ c0.cell c1.cell c2.cell c0.frozen c1.frozen c2.frozen (by simp) (by simp) (by simp)).mono ?_
  rintro e u' w'' ⟨rfl, rfl, rfl⟩
  have d0 := (((c0.set (.slice none 0 0)).other (g' := w.heap.size + 1) (by omega) (.int .i64 0)).other (g' := w.heap.size + 1 + 1) (by omega) (.int .i64 3)).cell
  have d1 := (((c1.other (g' := w.heap.size) (by omega) (.slice none 0 0)).set (.int .i64 0)).other (g' := w.heap.size + 1 + 1) (by omega) (.int .i64 3)).cell
  have d2 := (((c2.other (g' := w.heap.size) (by omega) (.slice none 0 0)).other (g' := w.heap.size + 1) (by omega) (.int .i64 0)).set (.int .i64 3)).cell
  have hb9 := ((hb.setCell (p := ⟨w.heap.size, 0, none⟩) (Nat.le_refl _) (.slice none 0 0)).setCell (p := ⟨w.heap.size + 1, 0, none⟩) (Nat.le_succ _) (.int .i64 0)).setCell (p := ⟨w.heap.size + 1 + 1, 0, none⟩) (by show w.heap.size ≤ w.heap.size + 1 + 1; omega) (.int .i64 3)
  exact leaves_back (vget_results rfl rfl rfl d0 d1 d2) ⟨rfl, hb9⟩

theorem head_byte {t : ByteArray} {l : List UInt8} {n : Nat} (ht : SB t (l.take 1)) (h : 1 ≤ l.length) (hn : l.head?.map (·.toNat) = some n) : ∃ h : 0 < t.size, (t[0]'h).toNat = n := by
  cases l with
  | nil => simp at h
  | cons b l =>
    simp at hn
    have hsz : t.size = 1 := by rw [ht.size]; simp
    refine ⟨by omega, ?_⟩
    rw [ht.get 0 (by omega) (by simp)]
    simpa using hn

set_option maxHeartbeats 800000 in
set_option maxRecDepth 100000 in
theorem vget_form (s : ByteArray) (l : List UInt8) (n : Nat) (w : World) (hs : SB s l) (h : 1 ≤ l.length) (hb0 : l.head?.map (·.toNat) = some n) (hf : n < 1 ∨ 8 < n) :
    Calls Tryz.prog 138 #[.string s] w fun e w' => e = .returned (.tuple #[.slice none 0 0, .int .i64 0, .int .i64 4]) ∧ Bl w w' := by
  have HB := Lib.hid hb0; clear hb0
  have hn8 : n < 256 := by
    have := HB.out
    cases l with
    | nil => simp at this
    | cons b l => simp at this; rw [← this]; exact UInt8.toNat_lt b
  have hmf := hmf
  go_enter_defers Tryz.func138, Tryz.ntmps138
  go_wp2_with fail
  have c3 := C1.new (((w.alloc (.cells #[.slice none 0 0] 23)).alloc (.cells #[.int .i64 0] 3)).alloc (.cells #[.int .i64 0] 49)) (w.heap.size + 1 + 1 + 1) (by simp) (.string s) 9
  have c2 := (C1.new ((w.alloc (.cells #[.slice none 0 0] 23)).alloc (.cells #[.int .i64 0] 3)) (w.heap.size + 1 + 1) (by simp) (.int .i64 0) 49).alloc (.cells #[.string s] 9)
  have c1 := ((C1.new (w.alloc (.cells #[.slice none 0 0] 23)) (w.heap.size + 1) (by simp) (.int .i64 0) 3).alloc (.cells #[.int .i64 0] 49)).alloc (.cells #[.string s] 9)
  have c0 := (((C1.new w w.heap.size rfl (.slice none 0 0) 23).alloc (.cells #[.int .i64 0] 3)).alloc (.cells #[.int .i64 0] 49)).alloc (.cells #[.string s] 9)
  have hb := ((((Bl.refl w).alloc (.cells #[.slice none 0 0] 23)).alloc (.cells #[.int .i64 0] 3)).alloc (.cells #[.int .i64 0] 49)).alloc (.cells #[.string s] 9)
  generalize ((((w.alloc (.cells #[.slice none 0 0] 23)).alloc (.cells #[.int .i64 0] 3)).alloc (.cells #[.int .i64 0] 49)).alloc (.cells #[.string s] 9)) = W at *
  refine (take_list _ s l 1 _ hs c3 h).mono ?_
  rintro e w1 ⟨t, r, rfl, ht, hr, rfl⟩
  have c0 := c0.other (g' := w.heap.size + 1 + 1 + 1) (by omega) (.string r)
  have c1 := c1.other (g' := w.heap.size + 1 + 1 + 1) (by omega) (.string r)
  have c2 := c2.other (g' := w.heap.size + 1 + 1 + 1) (by omega) (.string r)
  have hb := hb.setCell (p := ⟨w.heap.size + 1 + 1 + 1, 0, none⟩) (by show w.heap.size ≤ w.heap.size + 1 + 1 + 1; omega) (.string r)
  generalize W.setCell ⟨w.heap.size + 1 + 1 + 1, 0, none⟩ (.string r) = W at *
  obtain ⟨h0, hn0⟩ := head_byte ht h HB.out
  have hw : wrap64 (n : Int) = n := by unfold wrap64; omega
  clear ht hr c3
  go_wp2_with fail
  all_goals
    refine leaves_cons (f := 184) (args := #[.pointer (some ⟨w.heap.size, 0, none⟩), .pointer (some ⟨w.heap.size + 1, 0, none⟩), .pointer (some ⟨w.heap.size + 1 + 1, 0, none⟩)]) (by simp) (by simp [go_sem]) ?_
    refine (catch_code ⟨w.heap.size, 0, none⟩ ⟨w.heap.size + 1, 0, none⟩ ⟨w.heap.size + 1 + 1, 0, none⟩ 4 _ _ _ [] _ c0.cell c1.cell c2.cell c0.frozen c1.frozen c2.frozen (by simp) (by simp) (by simp)).mono ?_
    rintro e u' w'' ⟨rfl, rfl, rfl⟩
    have d0 := (((c0.set (.slice none 0 0)).other (g' := w.heap.size + 1) (by omega) (.int .i64 0)).other (g' := w.heap.size + 1 + 1) (by omega) (.int .i64 4)).cell
    have d1 := (((c1.other (g' := w.heap.size) (by omega) (.slice none 0 0)).set (.int .i64 0)).other (g' := w.heap.size + 1 + 1) (by omega) (.int .i64 4)).cell
    have d2 := (((c2.other (g' := w.heap.size) (by omega) (.slice none 0 0)).other (g' := w.heap.size + 1) (by omega) (.int .i64 0)).set (.int .i64 4)).cell
    have hb9 := ((hb.setCell (p := ⟨w.heap.size, 0, none⟩) (Nat.le_refl _) (.slice none 0 0)).setCell (p := ⟨w.heap.size + 1, 0, none⟩) (Nat.le_succ _) (.int .i64 0)).setCell (p := ⟨w.heap.size + 1 + 1, 0, none⟩) (by show w.heap.size ≤ w.heap.size + 1 + 1; omega) (.int .i64 4)
    exact leaves_back (vget_results rfl rfl rfl d0 d1 d2) ⟨rfl, hb9⟩

/-- the first k numbers of some bytes, six bytes a number -/
def valsL (k : Nat) (m : List UInt8) : List Int := (List.range k).map fun j => getN ((m.drop (6 * j)).take 6)
theorem valsL_len (k : Nat) (m : List UInt8) : (valsL k m).length = k := by simp [valsL]
theorem valsL_succ (k : Nat) (m : List UInt8) : valsL (k + 1) m = valsL k m ++ [getN ((m.drop (6 * k)).take 6)] := by simp [valsL, List.range_succ]
set_option maxRecDepth 100000 in
theorem get6_bound (l : List UInt8) : 0 ≤ getN (l.take 6) ∧ getN (l.take 6) < 281474976710656 := by
  have h := getN_bound (l.take 6)
  have h1 : (l.take 6).length ≤ 6 := List.length_take_le _ _
  have h2 : (256 : Int) ^ (l.take 6).length ≤ 256 ^ 6 := by
    have := Nat.pow_le_pow_right (show 0 < 256 by decide) h1
    exact_mod_cast this
  omega
theorem valsL_bound (k : Nat) (m : List UInt8) : ∀ x ∈ valsL k m, 0 ≤ x ∧ x < 281474976710656 := by
  intro x hx
  obtain ⟨j, _, rfl⟩ := List.mem_map.1 hx
  exact get6_bound _

def GetPost (w : World) (l : List UInt8) (n : Nat) (e : Ending) (w' : World) : Prop :=
  if 1 + 6 * n ≤ l.length then ∃ v, e = .returned (.tuple #[v, .int .i64 ((1 + 6 * n : Nat) : Int), .int .i64 0]) ∧ FI w.heap.size w' v (valsL n (l.drop 1)) ∧ Bl w w'
  else e = .returned (.tuple #[.slice none 0 0, .int .i64 0, .int .i64 3]) ∧ Bl w w'
theorem get_sizes {s r : ByteArray} {l m : List UInt8} {k : Nat} (hs : SB s l) (hr : SB r (m.drop (6 * k))) (hml : m.length + 1 = l.length) (hk : 6 * k ≤ m.length) : s.size = 1 + 6 * k + r.size := by
  rw [hs.size, hr.size, List.length_drop]; omega
theorem get_wrap {s r : ByteArray} {l m : List UInt8} {k : Nat} (hs : SB s l) (hr : SB r (m.drop (6 * k))) (hml : m.length + 1 = l.length) (hk : 6 * k ≤ m.length) (hz : l.length ≤ 2000000) :
    IntKind.i64.wrap ((s.size : Int) - (r.size : Int)) = ((1 + 6 * k : Nat) : Int) := by
  have := get_sizes hs hr hml hk
  rw [IntKind.wrap_i64, this]
  have h2 : r.size ≤ 2000000 := by rw [hr.size, List.length_drop]; omega
  have h3 : k ≤ 2000000 := by omega
  generalize r.size = z at *
  omega
theorem get_yes {l m : List UInt8} {k : Nat} (hml : m.length + 1 = l.length) (hk : 6 * k ≤ m.length) : 1 + 6 * k ≤ l.length := by omega
theorem get_rest {r : ByteArray} {l m : List UInt8} {k : Nat} (hr : SB r (m.drop (6 * k))) (hml : m.length + 1 = l.length) (hz : l.length ≤ 2000000) : r.size ≤ 2000000 := by
  rw [hr.size, List.length_drop]; omega

set_option maxHeartbeats 1600000 in
set_option maxRecDepth 100000 in
theorem vget_loop (s : ByteArray) (l : List UInt8) (n : Nat) (w : World) (hs : SB s l) (hz : l.length ≤ 2000000) (h : 1 ≤ l.length) (hb0 : l.head?.map (·.toNat) = some n) (hf : 1 ≤ n ∧ n ≤ 8) :
    Calls Tryz.prog 138 #[.string s] w (GetPost w l n) := by
  have HB := Lib.hid hb0; clear hb0
  obtain ⟨hf1, hf8⟩ := hf
  obtain ⟨i0, hi, hz0, hz1, hz2⟩ := info_parts info_int
  have hmf := hmf
  go_enter_defers Tryz.func138, Tryz.ntmps138
  go_wp2_with fail
  have c3 := C1.new (((w.alloc (.cells #[.slice none 0 0] 23)).alloc (.cells #[.int .i64 0] 3)).alloc (.cells #[.int .i64 0] 49)) (w.heap.size + 1 + 1 + 1) (by simp) (.string s) 9
  have c2 := (C1.new ((w.alloc (.cells #[.slice none 0 0] 23)).alloc (.cells #[.int .i64 0] 3)) (w.heap.size + 1 + 1) (by simp) (.int .i64 0) 49).alloc (.cells #[.string s] 9)
  have c1 := ((C1.new (w.alloc (.cells #[.slice none 0 0] 23)) (w.heap.size + 1) (by simp) (.int .i64 0) 3).alloc (.cells #[.int .i64 0] 49)).alloc (.cells #[.string s] 9)
  have c0 := (((C1.new w w.heap.size rfl (.slice none 0 0) 23).alloc (.cells #[.int .i64 0] 3)).alloc (.cells #[.int .i64 0] 49)).alloc (.cells #[.string s] 9)
  have hb := ((((Bl.refl w).alloc (.cells #[.slice none 0 0] 23)).alloc (.cells #[.int .i64 0] 3)).alloc (.cells #[.int .i64 0] 49)).alloc (.cells #[.string s] 9)
  have hsz4 : w.heap.size + 4 ≤ (((((w.alloc (.cells #[.slice none 0 0] 23)).alloc (.cells #[.int .i64 0] 3)).alloc (.cells #[.int .i64 0] 49)).alloc (.cells #[.string s] 9))).heap.size := by simp
  generalize ((((w.alloc (.cells #[.slice none 0 0] 23)).alloc (.cells #[.int .i64 0] 3)).alloc (.cells #[.int .i64 0] 49)).alloc (.cells #[.string s] 9)) = W at *
  refine (take_list _ s l 1 _ hs c3 h).mono ?_
  rintro e w1 ⟨t, r, rfl, ht, hr, rfl⟩
  have c0 := c0.other (g' := w.heap.size + 1 + 1 + 1) (by omega) (.string r)
  have c1 := c1.other (g' := w.heap.size + 1 + 1 + 1) (by omega) (.string r)
  have c2 := c2.other (g' := w.heap.size + 1 + 1 + 1) (by omega) (.string r)
  have c3 := c3.set (.string r)
  have hb := hb.setCell (p := ⟨w.heap.size + 1 + 1 + 1, 0, none⟩) (by show w.heap.size ≤ w.heap.size + 1 + 1 + 1; omega) (.string r)
  have hsz4 : w.heap.size + 4 ≤ (W.setCell ⟨w.heap.size + 1 + 1 + 1, 0, none⟩ (.string r)).heap.size := by simpa [World.setCell] using hsz4
  generalize W.setCell ⟨w.heap.size + 1 + 1 + 1, 0, none⟩ (.string r) = W at *
  obtain ⟨h0, hn0⟩ := head_byte ht h HB.out
  have hw : wrap64 (n : Int) = n := by unfold wrap64; omega
  clear ht
  have HM : ∃ m, m = l.drop 1 ∧ m.length + 1 = l.length := ⟨_, rfl, by simp; omega⟩
  obtain ⟨m, hm, hml⟩ := HM
  rw [← hm] at hr
  have HMD := Lib.hid hm; clear hm
  have HML := Lib.hid hml; clear hml
  go_wp2_with fail
  go_loopw [22] (fun i wr => ∃ (k : Nat) (v : Value) (acc : List Int) (r : ByteArray), i = .int .i64 k ∧ k ≤ n ∧ C1 wr (w.heap.size + 1 + 1 + 1) (.string r) ∧ SB r (m.drop (6 * k)) ∧ C1 wr w.heap.size v ∧ OI (w.heap.size + 4) wr v acc ∧ acc = valsL k m ∧
    C1 wr (w.heap.size + 1) (.int .i64 0) ∧ C1 wr (w.heap.size + 1 + 1) (.int .i64 0) ∧ Below w.heap.size w wr ∧ w.heap.size + 4 ≤ wr.heap.size ∧ 6 * k ≤ m.length) (fun i _ => n - (intOf i).toNat)
  case atStart => exact ⟨0, _, [], r, rfl, Nat.zero_le _, c3, by simpa using hr, c0, OI.nil _ _, rfl, c1, c2, hb, hsz4, by omega⟩
  case round =>
    clear c0 c1 c2 c3 hb hsz4 hr
    obtain ⟨k, v, acc, r, rfl, hk, c3, hr, c0, hown, hacc, c1, c2, hb, hsz4, hkm⟩ := hrel
    have hal : acc.length = k := by rw [hacc, valsL_len]
    have HAL := Lib.hid hal
    have hal2 : acc.length ≤ 8 := by omega
    clear hal
    have HACC := Lib.hid hacc; clear hacc
    by_cases hlt : k < n
    · by_cases hshort : (m.drop (6 * k)).length < 6
      · have hno : ¬ 1 + 6 * n ≤ l.length := by
          have := HML.out
          rw [List.length_drop] at hshort; omega
        go_wp2_with fail
        refine (take_short _ r 6 _ c3.cell (by rw [hr.size]; exact hshort)).mono ?_
        rintro e w1 ⟨rfl, rfl⟩
        refine leaves_cons (f := 184) (args := #[.pointer (some ⟨w.heap.size, 0, none⟩), .pointer (some ⟨w.heap.size + 1, 0, none⟩), .pointer (some ⟨w.heap.size + 1 + 1, 0, none⟩)]) (by simp) (by simp [go_sem]) ?_
        refine (catch_code ⟨w.heap.size, 0, none⟩ ⟨w.heap.size + 1, 0, none⟩ ⟨w.heap.size + 1 + 1, 0, none⟩ 3 _ _ _ [] _ c0.cell c1.cell c2.cell c0.frozen c1.frozen c2.frozen (by simp) (by simp) (by simp)).mono ?_
        rintro e u' w'' ⟨rfl, rfl, rfl⟩
        have d0 := (((c0.set (.slice none 0 0)).other (g' := w.heap.size + 1) (by omega) (.int .i64 0)).other (g' := w.heap.size + 1 + 1) (by omega) (.int .i64 3)).cell
        have d1 := (((c1.other (g' := w.heap.size) (by omega) (.slice none 0 0)).set (.int .i64 0)).other (g' := w.heap.size + 1 + 1) (by omega) (.int .i64 3)).cell
        have d2 := (((c2.other (g' := w.heap.size) (by omega) (.slice none 0 0)).other (g' := w.heap.size + 1) (by omega) (.int .i64 0)).set (.int .i64 3)).cell
        have hb9 := ((hb.setCell (p := ⟨w.heap.size, 0, none⟩) (Nat.le_refl _) (.slice none 0 0)).setCell (p := ⟨w.heap.size + 1, 0, none⟩) (Nat.le_succ _) (.int .i64 0)).setCell (p := ⟨w.heap.size + 1 + 1, 0, none⟩) (by show w.heap.size ≤ w.heap.size + 1 + 1; omega) (.int .i64 3)
        refine leaves_back (vget_results rfl rfl rfl d0 d1 d2) ?_
        rw [GetPost, if_neg hno]
        exact ⟨rfl, hb9⟩
      · have hge : 6 ≤ (m.drop (6 * k)).length := by omega
        have hkm6 : 6 * (k + 1) ≤ m.length := by rw [List.length_drop] at hge; omega
        go_wp2_with fail
        refine (take_list _ r _ 6 _ hr c3 hge).mono ?_
        rintro e w1 ⟨t2, r2, rfl, ht2, hr2, rfl⟩
        have c0 := c0.other (g' := w.heap.size + 1 + 1 + 1) (by omega) (.string r2)
        have c1 := c1.other (g' := w.heap.size + 1 + 1 + 1) (by omega) (.string r2)
        have c2 := c2.other (g' := w.heap.size + 1 + 1 + 1) (by omega) (.string r2)
        have c3 := c3.set (.string r2)
        have hb := hb.setCell (p := ⟨w.heap.size + 1 + 1 + 1, 0, none⟩) (by show w.heap.size ≤ w.heap.size + 1 + 1 + 1; omega) (.string r2)
        have hsz4 : w.heap.size + 4 ≤ (wr.setCell ⟨w.heap.size + 1 + 1 + 1, 0, none⟩ (.string r2)).heap.size := by simpa [World.setCell] using hsz4
        have hown : OI (w.heap.size + 4) (wr.setCell ⟨w.heap.size + 1 + 1 + 1, 0, none⟩ (.string r2)) v acc := ownsRow_setCell_below hown (by show w.heap.size + 1 + 1 + 1 < w.heap.size + 4; omega) _
        generalize wr.setCell ⟨w.heap.size + 1 + 1 + 1, 0, none⟩ (.string r2) = wr at *
        have hts : t2.size = 6 := by rw [ht2.size, List.length_take]; omega
        have HTS := Lib.hid hts; clear hts
        go_wp2_with fail
        refine (get_any t2 _ (by rw [HTS.out]; decide) (by rw [HTS.out]; decide)).mono ?_
        rintro e w1 ⟨rfl, rfl⟩
        have HG := Lib.hid (show getN t2.data.toList = getN ((m.drop (6 * k)).take 6) from congrArg getN ht2)
        generalize getN t2.data.toList = x at *
        have q0 := c0.cell
        go_wp2_with (at_builtin; refine wpList_append_own _ rfl _ _ 23 rfl (w.heap.size + 4) 3 i0 (.int .i64 0) 1 8 Tryz.underlying23 hi hz0 hz1 hz2 rfl (by decide) _ _ _ rfl (World.ownsRow.alloc hown _) ⟨wr.heap.size, 0, none⟩ 1 1 [.int .i64 x] rfl rfl ?c1 ?c2 ?c3 ?c4 ?c5 ?_)
        case c1 =>
          intro j u hj
          match j, hj with
          | 0, hj => simp at hj; subst hj; simp [Addr.add]
        case c2 => intro u hu; simp at hu; subst hu; rfl
        case c3 => unfold maxLen; omega
        case c4 => omega
        case c5 => simp; omega
        intro v' w2 hown' hgrow _
        have hne : ∀ g, g < w.heap.size + 4 → some g ≠ v.ownBlock := fun g hg e => by have := (World.ownsRow.lt hown g e.symm).1; omega
        have c0 := (c0.alloc _).grown hgrow (hne _ (by omega))
        have c1 := (c1.alloc _).grown hgrow (hne _ (by omega))
        have c2 := (c2.alloc _).grown hgrow (hne _ (by omega))
        have c3 := (c3.alloc _).grown hgrow (hne _ (by omega))
        have hsz5 := hgrow.size
        have hsz4 : w.heap.size + 4 ≤ w2.heap.size := by simp at hsz5; omega
        have R := OI.push (Below.refl _ _) (by omega) hown hown' hgrow
        have hb := (Below.alloc hb (by omega) _).grown hgrow (by simp; omega) (fun j hj => by have := (World.ownsRow.lt hown j hj).1; omega)
        have hown := R.1
        clear hown' hgrow R hne hsz5 q0
        obtain ⟨va, vn, vc, rfl⟩ : ∃ a n c, v' = .slice a n c := by
          rcases hown.2 with ⟨hv, _⟩ | ⟨g, cap, cur, hv, _⟩
          · exact ⟨_, _, _, hv⟩
          · exact ⟨_, _, _, hv⟩
        have q0 := c0.cell
        have q1 := c0.frozen
        go_wp2
        go_roundw
        case rel => exact ⟨k + 1, _, acc ++ [x], r2, by go_num, by omega, c3.other (by omega) _, by rw [List.drop_drop] at hr2; exact hr2, c0.set _, ownsRow_setCell_below hown (by show w.heap.size < w.heap.size + 4; omega) _, by rw [valsL_succ, HG.out, HACC.out], c1.other (by omega) _, c2.other (by omega) _, hb.setCell (Nat.le_refl _) _, by simpa [World.setCell] using hsz4, hkm6⟩
        case measure => simp [intOf]; omega
    · have hkn : k = n := by omega
      subst hkn
      clear hlt hk
      have hyes := get_yes HML.out hkm
      have HW6 := Lib.hid (get_wrap hs hr HML.out hkm hz)
      have HSS := Lib.hid (get_sizes hs hr HML.out hkm)
      have hrz : r.size ≤ 2000000 := get_rest hr HML.out hz
      have hsz : s.size ≤ 2000000 := by rw [hs.size]; exact hz
      obtain ⟨va, vn, vc, rfl⟩ : ∃ a n c, v = .slice a n c := by
        rcases hown.2 with ⟨hv, _⟩ | ⟨g, cap, cur, hv, _⟩
        · exact ⟨_, _, _, hv⟩
        · exact ⟨_, _, _, hv⟩
      have q0 := c0.cell
      have q1 := c1.cell
      have q2 := c2.cell
      have q3 := c3.cell
      have f0 := c0.frozen
      have f1 := c1.frozen
      have f2 := c2.frozen
      clear hn0 hr
      go_wp2_with fail
      have cA0 := c0.set (.slice va vn vc)
      have cA1 := c1.other (g' := w.heap.size) (by omega) (.slice va vn vc)
      have cA2 := c2.other (g' := w.heap.size) (by omega) (.slice va vn vc)
      have cA3 := c3.other (g' := w.heap.size) (by omega) (.slice va vn vc)
      have cB0 := cA0.other (g' := w.heap.size + 1) (by omega) (.int .i64 (IntKind.i64.wrap ((s.size : Int) - (r.size : Int))))
      have cB1 := cA1.set (.int .i64 (IntKind.i64.wrap ((s.size : Int) - (r.size : Int))))
      have cB2 := cA2.other (g' := w.heap.size + 1) (by omega) (.int .i64 (IntKind.i64.wrap ((s.size : Int) - (r.size : Int))))
      have cB3 := cA3.other (g' := w.heap.size + 1) (by omega) (.int .i64 (IntKind.i64.wrap ((s.size : Int) - (r.size : Int))))
      have cC0 := cB0.other (g' := w.heap.size + 1 + 1) (by omega) (.int .i64 0)
      have cC1 := cB1.other (g' := w.heap.size + 1 + 1) (by omega) (.int .i64 0)
      have cC2 := cB2.set (.int .i64 0)
      have cC3 := cB3.other (g' := w.heap.size + 1 + 1) (by omega) (.int .i64 0)
      go_region_held3 (fun w' => w'.cell? ⟨w.heap.size, 0, none⟩ = some (.slice va vn vc) ∧ w'.cell? ⟨w.heap.size + 1 + 1 + 1, 0, none⟩ = some (.string r)) (first | (go_keep; done) | exact ⟨cA0.cell, cA3.cell⟩ | exact ⟨cB0.cell, cB3.cell⟩ | exact ⟨cC0.cell, cC3.cell⟩) (fail)
      go_wp2_with fail
      refine leaves_cons (f := 184) (args := #[.pointer (some ⟨w.heap.size, 0, none⟩), .pointer (some ⟨w.heap.size + 1, 0, none⟩), .pointer (some ⟨w.heap.size + 1 + 1, 0, none⟩)]) (by simp) (by simp [go_sem]) ?_
      refine (catch_idle _ _ _ _).mono ?_
      rintro e u' w'' ⟨rfl, rfl, rfl⟩
      refine leaves_ret (vget_results rfl rfl rfl cC0.cell cC1.cell cC2.cell) ?_
      rw [GetPost, if_pos hyes, HW6.out, ← HMD.out, ← HACC.out]
      exact ⟨_, rfl, (FI.mk ((ownsRow_setCell_below (ownsRow_setCell_below (ownsRow_setCell_below hown (by show w.heap.size < w.heap.size + 4; omega) _) (by show w.heap.size + 1 < w.heap.size + 4; omega) _) (by show w.heap.size + 1 + 1 < w.heap.size + 4; omega) _).mono (by omega)) (by omega) (fun x hx => by rw [HACC.out] at hx; have := valsL_bound _ _ x hx; omega)).keep (Bl.refl _).drew,
        Below.drew (((hb.setCell (p := ⟨w.heap.size, 0, none⟩) (Nat.le_refl _) _).setCell (p := ⟨w.heap.size + 1, 0, none⟩) (Nat.le_succ _) _).setCell (p := ⟨w.heap.size + 1 + 1, 0, none⟩) (by show w.heap.size ≤ w.heap.size + 1 + 1; omega) _)⟩
end Go.Proofs.YtfmabjoindlfeaaGreat
end

/- readers: a cell that holds what is left; vec.Get, whatever the bytes are. By an AI agent. -/
section
namespace Go.Proofs.YtfmabjoindlfeaaGreat
open Go.RowKit

theorem OB.other {B g j : Nat} {w : World} {v u : Value} {xs : List Int} (h : OB B w v xs) (hg : g < B) : OB B (w.setCell ⟨g, j, none⟩ u) v xs := by
  obtain ⟨h1, h2 | ⟨g', cap, cur, hv, hB, hh, r⟩⟩ := h
  · exact ⟨h1, .inl h2⟩
  · exact ⟨h1, .inr ⟨g', cap, cur, hv, hB, by rw [Below.heap_setCell _ _ _ _ (show g' ≠ g by omega)]; exact hh, r⟩⟩

theorem SB.one {t : ByteArray} {c : UInt8} (h : SB t [c]) : t = ⟨#[c]⟩ := by
  apply ByteArray.ext
  apply Array.toList_inj.1
  exact h
theorem Bl.same {w : World} {g : Nat} {v : Value} (hc : C1 w g v) : Bl (w.setCell ⟨g, 0, none⟩ v) w := by
  obtain ⟨t, hg⟩ := hc
  refine ⟨rfl, rfl, rfl, by simp, fun q hq => ?_⟩
  by_cases hqg : q = g
  · subst hqg
    rw [heap_setCell_same w q 0 _ t v hg, hg]; rfl
  · rw [Below.heap_setCell _ _ _ _ hqg]
def cellLen (w : World) (b : Nat) : Nat := match w.cell? ⟨b, 0, none⟩ with | some (.string s) => s.size | _ => 0
theorem cellLen_of {w : World} {b : Nat} {s : ByteArray} (h : C1 w b (.string s)) : cellLen w b = s.size := by unfold cellLen; rw [h.cell]

/-- the plain way back of numbers -/
theorem getN_put6 (x : Int) (h0 : 0 ≤ x) (h1 : x < 281474976710656) : getN (bytesN (putN x 6 6)) = x := by
  have e : putN x 6 6 = [x / 1099511627776 % 256, x / 4294967296 % 256, x / 16777216 % 256, x / 65536 % 256, x / 256 % 256, x % 256] := by
    simp [putN, byteAt, List.range, List.range.loop]
  rw [e]
  simp only [bytesN, List.map_cons, List.map_nil, getN, List.foldl_cons, List.foldl_nil]
  have hb : ∀ y : Int, ((UInt8.ofNat (y % 256).toNat).toNat : Int) = y % 256 := by
    intro y
    simp; omega
  simp only [hb]
  omega
theorem putBodyL_cons (x : Int) (xs : List Int) : putBodyL (x :: xs) = bytesN (putN x 6 6) ++ putBodyL xs := by simp [putBodyL]
theorem len6 (x : Int) : (bytesN (putN x 6 6)).length = 6 := by rw [bytesN_len, putN_len]
theorem body_drop (xs : List Int) (more : List UInt8) (j : Nat) (hj : j ≤ xs.length) : (putBodyL xs ++ more).drop (6 * j) = putBodyL (xs.drop j) ++ more := by
  induction j generalizing xs with
  | zero => simp
  | succ j ih =>
    cases xs with
    | nil => simp at hj
    | cons x xs =>
      rw [putBodyL_cons, List.append_assoc, show 6 * (j + 1) = 6 + 6 * j by omega, ← List.drop_drop, List.drop_left' (len6 x), ih xs (by simpa using hj)]
      simp
theorem vals_put (xs : List Int) (more : List UInt8) (hw : ∀ j, j < xs.length → 0 ≤ nth xs j ∧ nth xs j < 281474976710656) : valsL xs.length (putBodyL xs ++ more) = xs := by
  refine getD_ext (valsL_len _ _) fun j hj => ?_
  rw [valsL_len] at hj
  have h1 : nth (valsL xs.length (putBodyL xs ++ more)) j = getN (((putBodyL xs ++ more).drop (6 * j)).take 6) := by
    rw [nth_eq (by rw [valsL_len]; exact hj)]; simp [valsL]
  rw [h1, body_drop xs more j (by omega), List.drop_eq_getElem_cons hj, putBodyL_cons, List.append_assoc, List.take_left' (len6 _), ← nth_eq hj]
  have := hw j hj
  exact getN_put6 _ this.1 this.2

/-- a slice that lies from block B on -/
def FarIA (B : Nat) (w : World) (a : Option Addr) (n : Nat) (xs : List Int) : Prop := IA w a n xs ∧ ∀ b off, a = some ⟨b, off, none⟩ → n = 0 ∨ B ≤ b
theorem FarIA.nil (B : Nat) (w : World) : FarIA B w none 0 [] := ⟨IA.nil _ _, fun _ _ _ => .inl rfl⟩
theorem FarIA.keep {B : Nat} {w w' : World} {a : Option Addr} {n : Nat} {xs : List Int} (h : FarIA B w a n xs) (hb : Bl w w') : FarIA B w' a n xs := ⟨h.1.keep hb, h.2⟩
theorem FarIA.mono {B B' : Nat} {w : World} {a : Option Addr} {n : Nat} {xs : List Int} (h : FarIA B w a n xs) (hB : B' ≤ B) : FarIA B' w a n xs :=
  ⟨h.1, fun b off e => by have := h.2 b off e; omega⟩
theorem FarIA.set {B : Nat} {w : World} {a : Option Addr} {n : Nat} {xs : List Int} (h : FarIA B w a n xs) {q : Nat} (hq : q < B) (j : Nat) (u : Value) : FarIA B (w.setCell ⟨q, j, none⟩ u) a n xs := by
  refine ⟨⟨h.1.len, h.1.cap, fun i hi => ?_, h.1.wf⟩, h.2⟩
  obtain ⟨b, off, e, hc⟩ := h.1.cells i hi
  refine ⟨b, off, e, fun i hi => ?_⟩
  have hne : b ≠ q := by
    have := h.2 b off e
    omega
  rw [← hc i hi]
  unfold World.cell?
  rw [Below.heap_setCell _ _ _ _ hne]
theorem FI.far {B : Nat} {w : World} {a : Option Addr} {n ca : Nat} {xs : List Int} (h : FI B w (.slice a n ca) xs) : FarIA B w a n xs := by
  obtain ⟨a', n', ca', e, hI⟩ := h.si
  cases e
  refine ⟨hI, fun b off e => ?_⟩
  obtain ⟨-, ⟨h1, -⟩ | ⟨g, cap, cur, hv, hB, -⟩⟩ := h.own
  · cases h1; cases e
  · cases hv
    cases e
    exact .inr hB
theorem AC.setj {w : World} {g : Nat} {cs : List Value} (h : AC w g cs) (j : Nat) (v : Value) : AC (w.setCell ⟨g, j, none⟩ v) g (cs.set j v) := by
  obtain ⟨t, h⟩ := h
  exact ⟨t, by rw [heap_setCell_same w g j _ t v h]; simp⟩
theorem C1.otherj {w : World} {g g' j : Nat} {v u : Value} (h : C1 w g v) (hn : g ≠ g') : C1 (w.setCell ⟨g', j, none⟩ u) g v := by
  obtain ⟨t, h⟩ := h
  exact ⟨t, by rw [Below.heap_setCell _ _ _ _ hn]; exact h⟩
end Go.Proofs.YtfmabjoindlfeaaGreat
end
