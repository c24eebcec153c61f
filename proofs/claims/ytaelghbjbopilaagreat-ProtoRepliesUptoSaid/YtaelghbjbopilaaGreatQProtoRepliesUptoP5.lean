import Derived.Test.YtaelghbjbopilaaGreatQProtoRepliesUptoP3
import Derived.Test.YtaelghbjbopilaaGreatQProtoRepliesUptoP4
import Derived.Lib.Strings
import Derived.Recover
import Derived.Laws.Pointers
import Derived.WalkLawsBesides
import Derived.Deep.RegionHeld3
import Derived.Test.YtaelghbjbopilaaGreatRows
import Derived.Laws.FloatBits
import Derived.Test.YtaelghbjbopilaaGreatQProtoRepliesUptoP1
import Derived.Test.YtaelghbjbopilaaGreatShelf

/- vec.take, vec.Get (lines of the texts Get, Get2). By an AI agent. -/
section
namespace Go.Proofs.YtaelghbjbopilaaGreat
open Go.RowKit

theorem take_some (b : Nat) (s : ByteArray) (n : Nat) (w : World) (hc : w.cell? ⟨b, 0, none⟩ = some (.string s)) (hz : w.frozen? ⟨b, 0, none⟩ = false) (hn : n ≤ s.size) :
    Calls Tryz.prog 179 #[.pointer (some ⟨b, 0, none⟩), .int .i64 n] w fun e w' => e = .returned (.string (s.extract 0 n)) ∧ w' = w.setCell ⟨b, 0, none⟩ (.string (s.extract n s.size)) := by
  go_enter Tryz.func179, Tryz.ntmps179
  go_wp2
  go_ret
  exact ⟨rfl, rfl⟩
theorem take_short (b : Nat) (s : ByteArray) (n : Nat) (w : World) (hc : w.cell? ⟨b, 0, none⟩ = some (.string s)) (hn : s.size < n) :
    Calls Tryz.prog 179 #[.pointer (some ⟨b, 0, none⟩), .int .i64 n] w fun e w' => e = .panicked [{ v := .iface 22 (.int .i64 3), recovered := false }] ∧ w' = w := by
  go_enter Tryz.func179, Tryz.ntmps179
  go_wp2
  exact ⟨rfl, rfl, rfl⟩

theorem catch_idle (a0 a1 a2 : Addr) (w : World) :
    CallsD Tryz.prog 178 #[.pointer (some a0), .pointer (some a1), .pointer (some a2)] .returning w fun e u' w' => e = .returned (.tuple #[]) ∧ u' = .returning ∧ w' = w := by
  refine callsD_of_wpS Tryz.func178 rfl fun c₀ cs hu => ?_
  apply wpS_seq
  apply wpS_region
  simp [wpOpsS, go_sem, recoverD, hu, Tryz.ntmps178, Exit.thenS]
  apply wpS_seq
  apply wpS_region
  simp [wpOpsS, go_sem, Exit.thenS]
  refine wpS_cond (t := false) (by simp [Act.eval, Array.replicate]) ?_
  simp only [Bool.false_eq_true, if_false]
  refine wpS_of_wp (wp_skip ?_)
  cases c₀
  simp_all [bodyPostS, results, Tryz.results178]

set_option maxRecDepth 100000 in
theorem catch_code (a0 a1 a2 : Addr) (c : Int) (v0 v1 v2 : Value) (older : List PanicEntry) (w : World) (h0 : w.cell? a0 = some v0) (h1 : w.cell? a1 = some v1) (h2 : w.cell? a2 = some v2)
    (f0 : w.frozen? a0 = false) (f1 : w.frozen? a1 = false) (f2 : w.frozen? a2 = false) (n01 : a0 ≠ a1) (n02 : a0 ≠ a2) (n12 : a1 ≠ a2) :
    CallsD Tryz.prog 178 #[.pointer (some a0), .pointer (some a1), .pointer (some a2)] (.panicking ({ v := .iface 22 (.int .i64 c), recovered := false } :: older)) w fun e u' w' =>
      e = .returned (.tuple #[]) ∧ u' = .panicking ({ v := .iface 22 (.int .i64 c), recovered := true } :: older) ∧ w' = ((w.setCell a0 (.slice none 0 0)).setCell a1 (.int .i64 0)).setCell a2 (.int .i64 c) := by
  refine callsD_of_wpS Tryz.func178 rfl fun c₀ cs hu => ?_
  apply wpS_seq
  apply wpS_region
  simp [wpOpsS, go_sem, recoverD, hu, Tryz.ntmps178, Exit.thenS]
  apply wpS_seq
  apply wpS_region
  simp [wpOpsS, go_sem, Exit.thenS]
  refine wpS_cond (t := true) (by simp [Act.eval, Array.replicate]) ?_
  simp only [if_true]
  apply wpS_seq
  apply wpS_region
  simp [wpOpsS, go_sem, Exit.thenS, assert_code, recoverD]
  apply wpS_seq
  apply wpS_seq
  apply wpS_region
  simp [wpOpsS, go_sem, Exit.thenS, recoverD]
  refine wpS_cond (t := false) (by simp [Act.eval, Array.replicate]) ?_
  simp only [Bool.false_eq_true, if_false]
  refine wpS_of_wp (wp_skip ?_)
  simp only [Exit.thenS]
  apply wpS_region
  have c1 : (w.setCell a0 (.slice none 0 0)).cell? a1 = some v1 := (World.cell?_setCell_other _ _ _ _ n01).trans h1
  have c2 : ((w.setCell a0 (.slice none 0 0)).setCell a1 (.int .i64 0)).cell? a2 = some v2 := (World.cell?_setCell_other _ _ _ _ n12).trans ((World.cell?_setCell_other _ _ _ _ n02).trans h2)
  simp [wpOpsS, go_sem, h0, f0, c1, f1, c2, f2, recoverD, bodyPostS, results, Tryz.results178]
theorem take_list (b : Nat) (s : ByteArray) (l : List UInt8) (n : Nat) (w : World) (hs : SB s l) (hc : C1 w b (.string s)) (hn : n ≤ l.length) :
    Calls Tryz.prog 179 #[.pointer (some ⟨b, 0, none⟩), .int .i64 n] w fun e w' => ∃ t r : ByteArray, e = .returned (.string t) ∧ SB t (l.take n) ∧ SB r (l.drop n) ∧ w' = w.setCell ⟨b, 0, none⟩ (.string r) := by
  refine (take_some b s n w hc.cell hc.frozen (by rw [hs.size]; exact hn)).mono ?_
  rintro e w' ⟨rfl, rfl⟩
  refine ⟨_, _, rfl, ?_, ?_, rfl⟩
  · rw [SB, Lib.extract_data, hs]; simp
  · rw [SB, Lib.extract_data, hs, hs.size]; rw [List.take_of_length_le]; simp

/-- a recovered panic settles to a return -/
theorem vget_results {tmps : Array Value} {w : World} {b0 b1 b2 : Addr} {v0 : Value} {v1 v2 : Int} (h0 : tmps.getD 2 undef = .pointer (some b0)) (h1 : tmps.getD 3 undef = .pointer (some b1)) (h2 : tmps.getD 4 undef = .pointer (some b2))
    (d0 : w.cell? b0 = some v0) (d1 : w.cell? b1 = some (.int .i64 v1)) (d2 : w.cell? b2 = some (.int .i64 v2)) :
    (results Tryz.f129 tmps).run Tryz.prog w = .ok (.tuple #[v0, .int .i64 v1, .int .i64 v2]) w := by
  rw [Array.getD_eq_getD_getElem?] at h0 h1 h2
  simp [results, Tryz.results129, go_sem, h0, h1, h2, d0, d1, d2]
theorem _root_.Go.World.ownsRow.mono {w : World} {B B' : Nat} {e : TypeId} {sz : Nat} {v : Value} {n : Nat} {xs : List Value} (h : w.ownsRow B e sz v n xs) (hB : B' ≤ B) : w.ownsRow B' e sz v n xs := by
  obtain ⟨h1, h2 | ⟨g, cap, cur, hv, hg, r⟩⟩ := h
  · exact ⟨h1, .inl h2⟩
  · exact ⟨h1, .inr ⟨g, cap, cur, hv, Nat.le_trans hB hg, r⟩⟩


theorem head_byte {t : ByteArray} {l : List UInt8} {n : Nat} (ht : SB t (l.take 1)) (h : 1 ≤ l.length) (hn : l.head?.map (·.toNat) = some n) : ∃ h : 0 < t.size, (t[0]'h).toNat = n := by
  cases l with
  | nil => simp at h
  | cons b l =>
    simp at hn
    have hsz : t.size = 1 := by rw [ht.size]; simp
    refine ⟨by omega, ?_⟩
    rw [ht.get 0 (by omega) (by simp)]
    simpa using hn

set_option maxHeartbeats 800000 in
set_option maxRecDepth 100000 in
theorem vget_form (s : ByteArray) (l : List UInt8) (n : Nat) (w : World) (hs : SB s l) (h : 1 ≤ l.length) (hb0 : l.head?.map (·.toNat) = some n) (hf : n < 1 ∨ 8 < n) :
    Calls Tryz.prog 129 #[.string s] w fun e w' => e = .returned (.tuple #[.slice none 0 0, .int .i64 0, .int .i64 4]) ∧ Bl w w' := by
  have HB := Lib.hid hb0; clear hb0
  have hn8 : n < 256 := by
    have := HB.out
    cases l with
    | nil => simp at this
    | cons b l => simp at this; rw [← this]; exact UInt8.toNat_lt b
  have hmf := hmf
  go_enter_defers Tryz.func129, Tryz.ntmps129
  go_wp2_with fail
  have c3 := C1.new (((w.alloc (.cells #[.slice none 0 0] 24)).alloc (.cells #[.int .i64 0] 3)).alloc (.cells #[.int .i64 0] 22)) (w.heap.size + 1 + 1 + 1) (by simp) (.string s) 9
  have c2 := (C1.new ((w.alloc (.cells #[.slice none 0 0] 24)).alloc (.cells #[.int .i64 0] 3)) (w.heap.size + 1 + 1) (by simp) (.int .i64 0) 22).alloc (.cells #[.string s] 9)
  have c1 := ((C1.new (w.alloc (.cells #[.slice none 0 0] 24)) (w.heap.size + 1) (by simp) (.int .i64 0) 3).alloc (.cells #[.int .i64 0] 22)).alloc (.cells #[.string s] 9)
  have c0 := (((C1.new w w.heap.size rfl (.slice none 0 0) 24).alloc (.cells #[.int .i64 0] 3)).alloc (.cells #[.int .i64 0] 22)).alloc (.cells #[.string s] 9)
  have hb := ((((Bl.refl w).alloc (.cells #[.slice none 0 0] 24)).alloc (.cells #[.int .i64 0] 3)).alloc (.cells #[.int .i64 0] 22)).alloc (.cells #[.string s] 9)
  generalize ((((w.alloc (.cells #[.slice none 0 0] 24)).alloc (.cells #[.int .i64 0] 3)).alloc (.cells #[.int .i64 0] 22)).alloc (.cells #[.string s] 9)) = W at *
  refine (take_list _ s l 1 _ hs c3 h).mono ?_
  rintro e w1 ⟨t, r, rfl, ht, hr, rfl⟩
  have c0 := c0.other (g' := w.heap.size + 1 + 1 + 1) (by omega) (.string r)
  have c1 := c1.other (g' := w.heap.size + 1 + 1 + 1) (by omega) (.string r)
  have c2 := c2.other (g' := w.heap.size + 1 + 1 + 1) (by omega) (.string r)
  have hb := hb.setCell (p := ⟨w.heap.size + 1 + 1 + 1, 0, none⟩) (by show w.heap.size ≤ w.heap.size + 1 + 1 + 1; omega) (.string r)
  generalize W.setCell ⟨w.heap.size + 1 + 1 + 1, 0, none⟩ (.string r) = W at *
  obtain ⟨h0, hn0⟩ := head_byte ht h HB.out
  have hw : wrap64 (n : Int) = n := by unfold wrap64; omega
  clear ht hr c3
  go_wp2_with fail
  all_goals
    refine leaves_cons (f := 178) (args := #[.pointer (some ⟨w.heap.size, 0, none⟩), .pointer (some ⟨w.heap.size + 1, 0, none⟩), .pointer (some ⟨w.heap.size + 1 + 1, 0, none⟩)]) (by simp) (by simp [go_sem]) ?_
    refine (catch_code ⟨w.heap.size, 0, none⟩ ⟨w.heap.size + 1, 0, none⟩ ⟨w.heap.size + 1 + 1, 0, none⟩ 4 _ _ _ [] _ c0.cell c1.cell c2.cell c0.frozen c1.frozen c2.frozen (by simp) (by simp) (by simp)).mono ?_
    rintro e u' w'' ⟨rfl, rfl, rfl⟩
    have d0 := (((c0.set (.slice none 0 0)).other (g' := w.heap.size + 1) (by omega) (.int .i64 0)).other (g' := w.heap.size + 1 + 1) (by omega) (.int .i64 4)).cell
    have d1 := (((c1.other (g' := w.heap.size) (by omega) (.slice none 0 0)).set (.int .i64 0)).other (g' := w.heap.size + 1 + 1) (by omega) (.int .i64 4)).cell
    have d2 := (((c2.other (g' := w.heap.size) (by omega) (.slice none 0 0)).other (g' := w.heap.size + 1) (by omega) (.int .i64 0)).set (.int .i64 4)).cell
    have hb9 := ((hb.setCell (p := ⟨w.heap.size, 0, none⟩) (Nat.le_refl _) (.slice none 0 0)).setCell (p := ⟨w.heap.size + 1, 0, none⟩) (Nat.le_succ _) (.int .i64 0)).setCell (p := ⟨w.heap.size + 1 + 1, 0, none⟩) (by show w.heap.size ≤ w.heap.size + 1 + 1; omega) (.int .i64 4)
    exact leaves_back (vget_results rfl rfl rfl d0 d1 d2) ⟨rfl, hb9⟩

/-- the first k numbers of some bytes, six bytes a number -/
def valsL (k : Nat) (m : List UInt8) : List Int := (List.range k).map fun j => getN ((m.drop (6 * j)).take 6)
theorem valsL_len (k : Nat) (m : List UInt8) : (valsL k m).length = k := by simp [valsL]
theorem valsL_succ (k : Nat) (m : List UInt8) : valsL (k + 1) m = valsL k m ++ [getN ((m.drop (6 * k)).take 6)] := by simp [valsL, List.range_succ]
set_option maxRecDepth 100000 in
theorem get6_bound (l : List UInt8) : 0 ≤ getN (l.take 6) ∧ getN (l.take 6) < 281474976710656 := by
  have h := getN_bound (l.take 6)
  have h1 : (l.take 6).length ≤ 6 := List.length_take_le _ _
  have h2 : (256 : Int) ^ (l.take 6).length ≤ 256 ^ 6 := by
    have := Nat.pow_le_pow_right (show 0 < 256 by decide) h1
    exact_mod_cast this
  omega
theorem valsL_bound (k : Nat) (m : List UInt8) : ∀ x ∈ valsL k m, 0 ≤ x ∧ x < 281474976710656 := by
  intro x hx
  obtain ⟨j, _, rfl⟩ := List.mem_map.1 hx
  exact get6_bound _

def GetPost (w : World) (l : List UInt8) (n : Nat) (e : Ending) (w' : World) : Prop :=
  if 1 + 6 * n ≤ l.length then ∃ v, e = .returned (.tuple #[v, .int .i64 ((1 + 6 * n : Nat) : Int), .int .i64 0]) ∧ FI w.heap.size w' v (valsL n (l.drop 1)) ∧ Bl w w'
  else e = .returned (.tuple #[.slice none 0 0, .int .i64 0, .int .i64 3]) ∧ Bl w w'
theorem get_sizes {s r : ByteArray} {l m : List UInt8} {k : Nat} (hs : SB s l) (hr : SB r (m.drop (6 * k))) (hml : m.length + 1 = l.length) (hk : 6 * k ≤ m.length) : s.size = 1 + 6 * k + r.size := by
  rw [hs.size, hr.size, List.length_drop]; omega
theorem get_wrap {s r : ByteArray} {l m : List UInt8} {k : Nat} (hs : SB s l) (hr : SB r (m.drop (6 * k))) (hml : m.length + 1 = l.length) (hk : 6 * k ≤ m.length) (hz : l.length ≤ 2000000) :
    IntKind.i64.wrap ((s.size : Int) - (r.size : Int)) = ((1 + 6 * k : Nat) : Int) := by
  have := get_sizes hs hr hml hk
  rw [IntKind.wrap_i64, this]
  have h2 : r.size ≤ 2000000 := by rw [hr.size, List.length_drop]; omega
  have h3 : k ≤ 2000000 := by omega
  generalize r.size = z at *
  omega
theorem get_yes {l m : List UInt8} {k : Nat} (hml : m.length + 1 = l.length) (hk : 6 * k ≤ m.length) : 1 + 6 * k ≤ l.length := by omega
theorem get_rest {r : ByteArray} {l m : List UInt8} {k : Nat} (hr : SB r (m.drop (6 * k))) (hml : m.length + 1 = l.length) (hz : l.length ≤ 2000000) : r.size ≤ 2000000 := by
  rw [hr.size, List.length_drop]; omega

set_option maxHeartbeats 1600000 in
set_option maxRecDepth 100000 in
theorem vget_loop (s : ByteArray) (l : List UInt8) (n : Nat) (w : World) (hs : SB s l) (hz : l.length ≤ 2000000) (h : 1 ≤ l.length) (hb0 : l.head?.map (·.toNat) = some n) (hf : 1 ≤ n ∧ n ≤ 8) :
    Calls Tryz.prog 129 #[.string s] w (GetPost w l n) := by
  have HB := Lib.hid hb0; clear hb0
  obtain ⟨hf1, hf8⟩ := hf
  obtain ⟨i0, hi, hz0, hz1, hz2⟩ := info_parts info_int
  have hmf := hmf
  go_enter_defers Tryz.func129, Tryz.ntmps129
  go_wp2_with fail
  have c3 := C1.new (((w.alloc (.cells #[.slice none 0 0] 24)).alloc (.cells #[.int .i64 0] 3)).alloc (.cells #[.int .i64 0] 22)) (w.heap.size + 1 + 1 + 1) (by simp) (.string s) 9
  have c2 := (C1.new ((w.alloc (.cells #[.slice none 0 0] 24)).alloc (.cells #[.int .i64 0] 3)) (w.heap.size + 1 + 1) (by simp) (.int .i64 0) 22).alloc (.cells #[.string s] 9)
  have c1 := ((C1.new (w.alloc (.cells #[.slice none 0 0] 24)) (w.heap.size + 1) (by simp) (.int .i64 0) 3).alloc (.cells #[.int .i64 0] 22)).alloc (.cells #[.string s] 9)
  have c0 := (((C1.new w w.heap.size rfl (.slice none 0 0) 24).alloc (.cells #[.int .i64 0] 3)).alloc (.cells #[.int .i64 0] 22)).alloc (.cells #[.string s] 9)
  have hb := ((((Bl.refl w).alloc (.cells #[.slice none 0 0] 24)).alloc (.cells #[.int .i64 0] 3)).alloc (.cells #[.int .i64 0] 22)).alloc (.cells #[.string s] 9)
  have hsz4 : w.heap.size + 4 ≤ (((((w.alloc (.cells #[.slice none 0 0] 24)).alloc (.cells #[.int .i64 0] 3)).alloc (.cells #[.int .i64 0] 22)).alloc (.cells #[.string s] 9))).heap.size := by simp
  generalize ((((w.alloc (.cells #[.slice none 0 0] 24)).alloc (.cells #[.int .i64 0] 3)).alloc (.cells #[.int .i64 0] 22)).alloc (.cells #[.string s] 9)) = W at *
  refine (take_list _ s l 1 _ hs c3 h).mono ?_
  rintro e w1 ⟨t, r, rfl, ht, hr, rfl⟩
  have c0 := c0.other (g' := w.heap.size + 1 + 1 + 1) (by omega) (.string r)
  have c1 := c1.other (g' := w.heap.size + 1 + 1 + 1) (by omega) (.string r)
  have c2 := c2.other (g' := w.heap.size + 1 + 1 + 1) (by omega) (.string r)
  have c3 := c3.set (.string r)
  have hb := hb.setCell (p := ⟨w.heap.size + 1 + 1 + 1, 0, none⟩) (by show w.heap.size ≤ w.heap.size + 1 + 1 + 1; omega) (.string r)
  have hsz4 : w.heap.size + 4 ≤ (W.setCell ⟨w.heap.size + 1 + 1 + 1, 0, none⟩ (.string r)).heap.size := by simpa [World.setCell] using hsz4
  generalize W.setCell ⟨w.heap.size + 1 + 1 + 1, 0, none⟩ (.string r) = W at *
  obtain ⟨h0, hn0⟩ := head_byte ht h HB.out
  have hw : wrap64 (n : Int) = n := by unfold wrap64; omega
  clear ht
  have HM : ∃ m, m = l.drop 1 ∧ m.length + 1 = l.length := ⟨_, rfl, by simp; omega⟩
  obtain ⟨m, hm, hml⟩ := HM
  rw [← hm] at hr
  have HMD := Lib.hid hm; clear hm
  have HML := Lib.hid hml; clear hml
  go_wp2_with fail
  go_loopw [22] (fun i wr => ∃ (k : Nat) (v : Value) (acc : List Int) (r : ByteArray), i = .int .i64 k ∧ k ≤ n ∧ C1 wr (w.heap.size + 1 + 1 + 1) (.string r) ∧ SB r (m.drop (6 * k)) ∧ C1 wr w.heap.size v ∧ OI (w.heap.size + 4) wr v acc ∧ acc = valsL k m ∧
    C1 wr (w.heap.size + 1) (.int .i64 0) ∧ C1 wr (w.heap.size + 1 + 1) (.int .i64 0) ∧ Below w.heap.size w wr ∧ w.heap.size + 4 ≤ wr.heap.size ∧ 6 * k ≤ m.length) (fun i _ => n - (intOf i).toNat)
  case atStart => exact ⟨0, _, [], r, rfl, Nat.zero_le _, c3, by simpa using hr, c0, OI.nil _ _, rfl, c1, c2, hb, hsz4, by omega⟩
  case round =>
    clear c0 c1 c2 c3 hb hsz4 hr
    obtain ⟨k, v, acc, r, rfl, hk, c3, hr, c0, hown, hacc, c1, c2, hb, hsz4, hkm⟩ := hrel
    have hal : acc.length = k := by rw [hacc, valsL_len]
    have HAL := Lib.hid hal
    have hal2 : acc.length ≤ 8 := by omega
    clear hal
    have HACC := Lib.hid hacc; clear hacc
    by_cases hlt : k < n
    · by_cases hshort : (m.drop (6 * k)).length < 6
      · have hno : ¬ 1 + 6 * n ≤ l.length := by
          have := HML.out
          rw [List.length_drop] at hshort; omega
        go_wp2_with fail
        refine (take_short _ r 6 _ c3.cell (by rw [hr.size]; exact hshort)).mono ?_
        rintro e w1 ⟨rfl, rfl⟩
        refine leaves_cons (f := 178) (args := #[.pointer (some ⟨w.heap.size, 0, none⟩), .pointer (some ⟨w.heap.size + 1, 0, none⟩), .pointer (some ⟨w.heap.size + 1 + 1, 0, none⟩)]) (by simp) (by simp [go_sem]) ?_
        refine (catch_code ⟨w.heap.size, 0, none⟩ ⟨w.heap.size + 1, 0, none⟩ ⟨w.heap.size + 1 + 1, 0, none⟩ 3 _ _ _ [] _ c0.cell c1.cell c2.cell c0.frozen c1.frozen c2.frozen (by simp) (by simp) (by simp)).mono ?_
        rintro e u' w'' ⟨rfl, rfl, rfl⟩
        have d0 := (((c0.set (.slice none 0 0)).other (g' := w.heap.size + 1) (by omega) (.int .i64 0)).other (g' := w.heap.size + 1 + 1) (by omega) (.int .i64 3)).cell
        have d1 := (((c1.other (g' := w.heap.size) (by omega) (.slice none 0 0)).set (.int .i64 0)).other (g' := w.heap.size + 1 + 1) (by omega) (.int .i64 3)).cell
        have d2 := (((c2.other (g' := w.heap.size) (by omega) (.slice none 0 0)).other (g' := w.heap.size + 1) (by omega) (.int .i64 0)).set (.int .i64 3)).cell
        have hb9 := ((hb.setCell (p := ⟨w.heap.size, 0, none⟩) (Nat.le_refl _) (.slice none 0 0)).setCell (p := ⟨w.heap.size + 1, 0, none⟩) (Nat.le_succ _) (.int .i64 0)).setCell (p := ⟨w.heap.size + 1 + 1, 0, none⟩) (by show w.heap.size ≤ w.heap.size + 1 + 1; omega) (.int .i64 3)
        refine leaves_back (vget_results rfl rfl rfl d0 d1 d2) ?_
        rw [GetPost, if_neg hno]
        exact ⟨rfl, hb9⟩
      · have hge : 6 ≤ (m.drop (6 * k)).length := by omega
        have hkm6 : 6 * (k + 1) ≤ m.length := by rw [List.length_drop] at hge; omega
        go_wp2_with fail
        refine (take_list _ r _ 6 _ hr c3 hge).mono ?_
        rintro e w1 ⟨t2, r2, rfl, ht2, hr2, rfl⟩
        have c0 := c0.other (g' := w.heap.size + 1 + 1 + 1) (by omega) (.string r2)
        have c1 := c1.other (g' := w.heap.size + 1 + 1 + 1) (by omega) (.string r2)
        have c2 := c2.other (g' := w.heap.size + 1 + 1 + 1) (by omega) (.string r2)
        have c3 := c3.set (.string r2)
        have hb := hb.setCell (p := ⟨w.heap.size + 1 + 1 + 1, 0, none⟩) (by show w.heap.size ≤ w.heap.size + 1 + 1 + 1; omega) (.string r2)
        have hsz4 : w.heap.size + 4 ≤ (wr.setCell ⟨w.heap.size + 1 + 1 + 1, 0, none⟩ (.string r2)).heap.size := by simpa [World.setCell] using hsz4
        have hown : OI (w.heap.size + 4) (wr.setCell ⟨w.heap.size + 1 + 1 + 1, 0, none⟩ (.string r2)) v acc := ownsRow_setCell_below hown (by show w.heap.size + 1 + 1 + 1 < w.heap.size + 4; omega) _
        generalize wr.setCell ⟨w.heap.size + 1 + 1 + 1, 0, none⟩ (.string r2) = wr at *
        have hts : t2.size = 6 := by rw [ht2.size, List.length_take]; omega
        have HTS := Lib.hid hts; clear hts
        go_wp2_with fail
        refine (get_any t2 _ (by rw [HTS.out]; decide) (by rw [HTS.out]; decide)).mono ?_
        rintro e w1 ⟨rfl, rfl⟩
        have HG := Lib.hid (show getN t2.data.toList = getN ((m.drop (6 * k)).take 6) from congrArg getN ht2)
        generalize getN t2.data.toList = x at *
        have q0 := c0.cell
        go_wp2_with (at_builtin; refine wpList_append_own _ rfl _ _ 24 rfl (w.heap.size + 4) 3 i0 (.int .i64 0) 1 8 Tryz.underlying24 hi hz0 hz1 hz2 rfl (by decide) _ _ _ rfl (World.ownsRow.alloc hown _) ⟨wr.heap.size, 0, none⟩ 1 1 [.int .i64 x] rfl rfl ?c1 ?c2 ?c3 ?c4 ?c5 ?_)
        case c1 =>
          intro j u hj
          match j, hj with
          | 0, hj => simp at hj; subst hj; simp [Addr.add]
        case c2 => intro u hu; simp at hu; subst hu; rfl
        case c3 => unfold maxLen; omega
        case c4 => omega
        case c5 => simp; omega
        intro v' w2 hown' hgrow _
        have hne : ∀ g, g < w.heap.size + 4 → some g ≠ v.ownBlock := fun g hg e => by have := (World.ownsRow.lt hown g e.symm).1; omega
        have c0 := (c0.alloc _).grown hgrow (hne _ (by omega))
        have c1 := (c1.alloc _).grown hgrow (hne _ (by omega))
        have c2 := (c2.alloc _).grown hgrow (hne _ (by omega))
        have c3 := (c3.alloc _).grown hgrow (hne _ (by omega))
        have hsz5 := hgrow.size
        have hsz4 : w.heap.size + 4 ≤ w2.heap.size := by simp at hsz5; omega
        have R := OI.push (Below.refl _ _) (by omega) hown hown' hgrow
        have hb := (Below.alloc hb (by omega) _).grown hgrow (by simp; omega) (fun j hj => by have := (World.ownsRow.lt hown j hj).1; omega)
        have hown := R.1
        clear hown' hgrow R hne hsz5 q0
        obtain ⟨va, vn, vc, rfl⟩ : ∃ a n c, v' = .slice a n c := by
          rcases hown.2 with ⟨hv, _⟩ | ⟨g, cap, cur, hv, _⟩
          · exact ⟨_, _, _, hv⟩
          · exact ⟨_, _, _, hv⟩
        have q0 := c0.cell
        have q1 := c0.frozen
        go_wp2
        go_roundw
        case rel => exact ⟨k + 1, _, acc ++ [x], r2, by go_num, by omega, c3.other (by omega) _, by rw [List.drop_drop] at hr2; exact hr2, c0.set _, ownsRow_setCell_below hown (by show w.heap.size < w.heap.size + 4; omega) _, by rw [valsL_succ, HG.out, HACC.out], c1.other (by omega) _, c2.other (by omega) _, hb.setCell (Nat.le_refl _) _, by simpa [World.setCell] using hsz4, hkm6⟩
        case measure => simp [intOf]; omega
    · have hkn : k = n := by omega
      subst hkn
      clear hlt hk
      have hyes := get_yes HML.out hkm
      have HW6 := Lib.hid (get_wrap hs hr HML.out hkm hz)
      have HSS := Lib.hid (get_sizes hs hr HML.out hkm)
      have hrz : r.size ≤ 2000000 := get_rest hr HML.out hz
      have hsz : s.size ≤ 2000000 := by rw [hs.size]; exact hz
      obtain ⟨va, vn, vc, rfl⟩ : ∃ a n c, v = .slice a n c := by
        rcases hown.2 with ⟨hv, _⟩ | ⟨g, cap, cur, hv, _⟩
        · exact ⟨_, _, _, hv⟩
        · exact ⟨_, _, _, hv⟩
      have q0 := c0.cell
      have q1 := c1.cell
      have q2 := c2.cell
      have q3 := c3.cell
      have f0 := c0.frozen
      have f1 := c1.frozen
      have f2 := c2.frozen
      clear hn0 hr
      go_wp2_with fail
      have cA0 := c0.set (.slice va vn vc)
      have cA1 := c1.other (g' := w.heap.size) (by omega) (.slice va vn vc)
      have cA2 := c2.other (g' := w.heap.size) (by omega) (.slice va vn vc)
      have cA3 := c3.other (g' := w.heap.size) (by omega) (.slice va vn vc)
      have cB0 := cA0.other (g' := w.heap.size + 1) (by omega) (.int .i64 (IntKind.i64.wrap ((s.size : Int) - (r.size : Int))))
      have cB1 := cA1.set (.int .i64 (IntKind.i64.wrap ((s.size : Int) - (r.size : Int))))
      have cB2 := cA2.other (g' := w.heap.size + 1) (by omega) (.int .i64 (IntKind.i64.wrap ((s.size : Int) - (r.size : Int))))
      have cB3 := cA3.other (g' := w.heap.size + 1) (by omega) (.int .i64 (IntKind.i64.wrap ((s.size : Int) - (r.size : Int))))
      have cC0 := cB0.other (g' := w.heap.size + 1 + 1) (by omega) (.int .i64 0)
      have cC1 := cB1.other (g' := w.heap.size + 1 + 1) (by omega) (.int .i64 0)
      have cC2 := cB2.set (.int .i64 0)
      have cC3 := cB3.other (g' := w.heap.size + 1 + 1) (by omega) (.int .i64 0)
      go_region_held3 (fun w' => w'.cell? ⟨w.heap.size, 0, none⟩ = some (.slice va vn vc) ∧ w'.cell? ⟨w.heap.size + 1 + 1 + 1, 0, none⟩ = some (.string r)) (first | (go_keep; done) | exact ⟨cA0.cell, cA3.cell⟩ | exact ⟨cB0.cell, cB3.cell⟩ | exact ⟨cC0.cell, cC3.cell⟩) (fail)
      go_wp2_with fail
      refine leaves_cons (f := 178) (args := #[.pointer (some ⟨w.heap.size, 0, none⟩), .pointer (some ⟨w.heap.size + 1, 0, none⟩), .pointer (some ⟨w.heap.size + 1 + 1, 0, none⟩)]) (by simp) (by simp [go_sem]) ?_
      refine (catch_idle _ _ _ _).mono ?_
      rintro e u' w'' ⟨rfl, rfl, rfl⟩
      refine leaves_ret (vget_results rfl rfl rfl cC0.cell cC1.cell cC2.cell) ?_
      rw [GetPost, if_pos hyes, HW6.out, ← HMD.out, ← HACC.out]
      exact ⟨_, rfl, (FI.mk ((ownsRow_setCell_below (ownsRow_setCell_below (ownsRow_setCell_below hown (by show w.heap.size < w.heap.size + 4; omega) _) (by show w.heap.size + 1 < w.heap.size + 4; omega) _) (by show w.heap.size + 1 + 1 < w.heap.size + 4; omega) _).mono (by omega)) (by omega) (fun x hx => by rw [HACC.out] at hx; have := valsL_bound _ _ x hx; omega)).keep (Bl.refl _).drew,
        Below.drew (((hb.setCell (p := ⟨w.heap.size, 0, none⟩) (Nat.le_refl _) _).setCell (p := ⟨w.heap.size + 1, 0, none⟩) (Nat.le_succ _) _).setCell (p := ⟨w.heap.size + 1 + 1, 0, none⟩) (by show w.heap.size ≤ w.heap.size + 1 + 1; omega) _)⟩
end Go.Proofs.YtaelghbjbopilaaGreat
end

/- float64 words, their order and their key. Plain facts over the model's Ieee. · real.Put, real.Compare, real.Max, real.Ratio. · real.Compare, real.Max. · real.Same, real.Min; what the order keys of numbers tell. By an AI agent. -/
section
namespace Go.Proofs.YtaelghbjbopilaaGreat
open Ieee

def two63 : Nat := 9223372036854775808
def two64 : Nat := 18446744073709551616
def two52 : Nat := 4503599627370496
def infR : Nat := 9218868437227405312
theorem d_binade : Ieee.double.binade = two52 := by decide +kernel
theorem d_infRung : Ieee.double.infRung = infR := by decide +kernel
theorem d_signWeight : Ieee.double.signWeight = two63 := by decide +kernel
theorem d_leastPlace : Ieee.double.leastPlace = -1074 := by decide +kernel

/-- is it no number? -/
def nanB (x : Nat) : Bool := decide (infR < x % two63)
/-- the word in the numbers' order -/
def fkey (x : Nat) : Nat := if nanB x then 0 else if two63 ≤ x then two64 - 1 - x else x + two63
/-- a rung's worth, in units of the least number -/
def uval (r : Nat) : Nat := if r < two52 then r else (two52 + r % two52) * 2 ^ (r / two52 - 1)
/-- a word's worth -/
def sval (x : Nat) : Int := if two63 ≤ x then -(uval (x % two63) : Int) else (uval (x % two63) : Int)

theorem uval_lt {r s : Nat} (h : r < s) : uval r < uval s := by
  unfold uval
  have hp : ∀ k : Nat, 1 ≤ 2 ^ k := fun k => Nat.one_le_two_pow
  by_cases h1 : s < two52
  · rw [if_pos (by omega), if_pos h1]; exact h
  · rw [if_neg h1]
    have hs : two52 ≤ (two52 + s % two52) * 2 ^ (s / two52 - 1) := by
      calc two52 ≤ two52 + s % two52 := by omega
        _ ≤ (two52 + s % two52) * 2 ^ (s / two52 - 1) := Nat.le_mul_of_pos_right _ (hp _)
    by_cases h2 : r < two52
    · rw [if_pos h2]; omega
    · rw [if_neg h2]
      have hr1 : 1 ≤ r / two52 := by unfold two52 at *; omega
      have hs1 : 1 ≤ s / two52 := by unfold two52 at *; omega
      have hle : r / two52 ≤ s / two52 := Nat.div_le_div_right (by omega)
      rcases Nat.lt_or_ge (r / two52) (s / two52) with hlt | hge
      · have e1 : (two52 + r % two52) * 2 ^ (r / two52 - 1) < two52 * 2 ^ (r / two52) := by
          have e : 2 ^ (r / two52) = 2 * 2 ^ (r / two52 - 1) := by
            rw [← Nat.pow_succ']; congr 1; omega
          rw [e, ← Nat.mul_assoc]
          exact Nat.mul_lt_mul_of_pos_right (by unfold two52 at *; omega) (hp _)
        have e2 : two52 * 2 ^ (r / two52) ≤ two52 * 2 ^ (s / two52 - 1) := Nat.mul_le_mul_left _ (Nat.pow_le_pow_right (by decide) (by omega))
        have e3 : two52 * 2 ^ (s / two52 - 1) ≤ (two52 + s % two52) * 2 ^ (s / two52 - 1) := Nat.mul_le_mul_right _ (by omega)
        omega
      · have e : r / two52 = s / two52 := by omega
        rw [e]
        refine Nat.mul_lt_mul_of_pos_right ?_ (hp _)
        have := Nat.div_add_mod r two52
        have := Nat.div_add_mod s two52
        rw [e] at *
        omega
theorem uval_lt_iff {r s : Nat} : uval r < uval s ↔ r < s := by
  refine ⟨fun h => ?_, uval_lt⟩
  rcases Nat.lt_trichotomy r s with h1 | h1 | h1
  · exact h1
  · subst h1; omega
  · have := uval_lt h1; omega

theorem neg_of {x : Nat} (hx : x < two64) : (x / two63 % 2 == 1) = decide (two63 ≤ x) := by
  unfold two63 two64 at *
  rw [Bool.eq_iff_iff, beq_iff_eq, decide_eq_true_eq]; omega

/-- what a word stands for -/
theorem read_fin {x : Nat} (hx : x < two64) (h : x % two63 < infR) : ∃ (m : Nat) (p : Int), Ieee.double.read x = .number (decide (two63 ≤ x)) m p ∧ -1074 ≤ p ∧ m * 2 ^ (p + 1074).toNat = uval (x % two63) := by
  unfold Format.read
  rw [d_signWeight, d_binade, d_infRung, d_leastPlace, neg_of hx]
  simp only
  by_cases h1 : x % two63 < two52
  · rw [if_pos h1]
    exact ⟨_, _, rfl, by omega, by simp [uval, h1]⟩
  · rw [if_neg h1, if_pos h]
    refine ⟨_, _, rfl, by omega, ?_⟩
    rw [uval, if_neg h1]
    congr 2
    omega
theorem read_inf {x : Nat} (hx : x < two64) (h : x % two63 = infR) : Ieee.double.read x = .infinity (decide (two63 ≤ x)) := by
  unfold Format.read
  rw [d_signWeight, d_binade, d_infRung, d_leastPlace, neg_of hx]
  simp only
  rw [if_neg (by rw [h]; decide), if_neg (by omega), if_pos h]
theorem read_nan' {x : Nat} (h : nanB x = true) : ∃ s f, Ieee.double.read x = .nan s f := by
  have h' : infR < x % two63 := by simpa [nanB] using h
  unfold Format.read
  rw [d_signWeight, d_binade, d_infRung, d_leastPlace]
  simp only
  have hlt : two52 ≤ infR := by decide
  rw [if_neg (by omega), if_neg (by omega), if_neg (by omega)]
  exact ⟨_, _, rfl⟩

theorem signed_eq (s : Bool) (m up : Nat) : signed s m up = (if s then -1 else 1) * ((m * 2 ^ up : Nat) : Int) := by
  unfold signed
  rw [Nat.shiftLeft_eq]
  cases s <;> simp
theorem compare_scale (a b : Int) (c : Nat) : compare (a * (2 ^ c : Nat)) (b * (2 ^ c : Nat)) = compare a b := by
  have hc : (0 : Int) < ((2 ^ c : Nat) : Int) := by exact_mod_cast Nat.two_pow_pos c
  rcases Int.lt_trichotomy a b with h | h | h
  · rw [Int.compare_eq_lt.2 h, Int.compare_eq_lt.2 (Int.mul_lt_mul_of_pos_right h hc)]
  · subst h; simp
  · rw [Int.compare_eq_gt.2 h, Int.compare_eq_gt.2 (Int.mul_lt_mul_of_pos_right h hc)]

theorem fin_or_inf {x : Nat} (h : nanB x = false) : x % two63 < infR ∨ x % two63 = infR := by
  simp [nanB] at h; omega

theorem order_fin {x y : Nat} (hx : x < two64) (hy : y < two64) (h1 : x % two63 < infR) (h2 : y % two63 < infR) : Ieee.double.order x y = some (compare (sval x) (sval y)) := by
  obtain ⟨m, i, e1, p1, u1⟩ := read_fin hx h1
  obtain ⟨n, j, e2, p2, u2⟩ := read_fin hy h2
  unfold Format.order
  rw [e1, e2]
  simp only [Datum.order]
  congr 1
  have hb : -1074 ≤ min i j := by omega
  have k1 : (i - min i j).toNat + (min i j + 1074).toNat = (i + 1074).toNat := by omega
  have k2 : (j - min i j).toNat + (min i j + 1074).toNat = (j + 1074).toNat := by omega
  rw [← compare_scale _ _ (min i j + 1074).toNat, signed_eq, signed_eq]
  have g1 : ((if decide (two63 ≤ x) = true then -1 else 1) * ((m * 2 ^ (i - min i j).toNat : Nat) : Int)) * ((2 ^ (min i j + 1074).toNat : Nat) : Int) = sval x := by
    rw [Int.mul_assoc, ← Int.natCast_mul, Nat.mul_assoc, ← Nat.pow_add, k1, u1]
    unfold sval
    by_cases h : two63 ≤ x <;> simp [h]
  have g2 : ((if decide (two63 ≤ y) = true then -1 else 1) * ((n * 2 ^ (j - min i j).toNat : Nat) : Int)) * ((2 ^ (min i j + 1074).toNat : Nat) : Int) = sval y := by
    rw [Int.mul_assoc, ← Int.natCast_mul, Nat.mul_assoc, ← Nat.pow_add, k2, u2]
    unfold sval
    by_cases h : two63 ≤ y <;> simp [h]
  rw [g1, g2]

theorem order_eq {x y : Nat} (hx : x < two64) (hy : y < two64) (nx : nanB x = false) (ny : nanB y = false) : Ieee.double.order x y = some (compare (sval x) (sval y)) := by
  rcases fin_or_inf nx with h1 | h1 <;> rcases fin_or_inf ny with h2 | h2
  · exact order_fin hx hy h1 h2
  · obtain ⟨m, i, e1, p1, u1⟩ := read_fin hx h1
    unfold Format.order
    rw [e1, read_inf hy h2]
    simp only [Datum.order]
    have hlt := uval_lt h1
    congr 1
    unfold sval
    rw [h2]
    by_cases hn : two63 ≤ y
    · simp only [hn, decide_true, if_true]
      symm; rw [Int.compare_eq_gt]; split <;> omega
    · simp only [hn, decide_false, if_false, Bool.false_eq_true]
      symm; rw [Int.compare_eq_lt]; split <;> omega
  · obtain ⟨m, i, e1, p1, u1⟩ := read_fin hy h2
    unfold Format.order
    rw [e1, read_inf hx h1]
    simp only [Datum.order]
    have hlt := uval_lt h2
    congr 1
    unfold sval
    rw [h1]
    by_cases hn : two63 ≤ x
    · simp only [hn, decide_true, if_true]
      symm; rw [Int.compare_eq_lt]; split <;> omega
    · simp only [hn, decide_false, if_false, Bool.false_eq_true]
      symm; rw [Int.compare_eq_gt]; split <;> omega
  · unfold Format.order
    rw [read_inf hx h1, read_inf hy h2]
    simp only [Datum.order]
    congr 1
    have hpos : 0 < uval infR := by decide +kernel
    unfold sval
    rw [h1, h2]
    by_cases hn : two63 ≤ x <;> by_cases hm : two63 ≤ y <;> simp [hn, hm]
    · rw [Int.compare_eq_lt.2 (by omega)]; rfl
    · rw [Int.compare_eq_gt.2 (by omega)]; rfl
theorem order_nan {x y : Nat} (h : nanB x = true ∨ nanB y = true) : Ieee.double.order x y = none := by
  unfold Format.order
  rcases h with h | h
  · obtain ⟨s, f, e⟩ := read_nan' h
    rw [e]; rfl
  · obtain ⟨s, f, e⟩ := read_nan' h
    rw [e]
    cases Ieee.double.read x <;> rfl

theorem fkey_num {x : Nat} (h : nanB x = false) : fkey x = if two63 ≤ x then two64 - 1 - x else x + two63 := by simp [fkey, h]
theorem key_lt_of_sval {x y : Nat} (hx : x < two64) (hy : y < two64) (nx : nanB x = false) (ny : nanB y = false) (h : sval x < sval y) : fkey x < fkey y := by
  unfold sval at h
  rw [fkey_num nx, fkey_num ny]
  by_cases h1 : two63 ≤ x <;> by_cases h2 : two63 ≤ y
  · rw [if_pos h1, if_pos h2] at h ⊢
    have : uval (y % two63) < uval (x % two63) := by omega
    rw [uval_lt_iff] at this
    unfold two63 two64 at *; omega
  · rw [if_pos h1, if_neg h2]; unfold two63 two64 at *; omega
  · rw [if_neg h1, if_pos h2] at h
    omega
  · rw [if_neg h1, if_neg h2] at h ⊢
    have : uval (x % two63) < uval (y % two63) := by omega
    rw [uval_lt_iff] at this
    unfold two63 two64 at *; omega
theorem key_lt {x y : Nat} (hx : x < two64) (hy : y < two64) (h : Ieee.double.order x y = some .lt) : fkey x < fkey y := by
  cases nx : nanB x
  · cases ny : nanB y
    · rw [order_eq hx hy nx ny] at h
      exact key_lt_of_sval hx hy nx ny (Int.compare_eq_lt.1 (Option.some.inj h))
    · rw [order_nan (.inr ny)] at h; cases h
  · rw [order_nan (.inl nx)] at h; cases h
theorem key_gt {x y : Nat} (hx : x < two64) (hy : y < two64) (h : Ieee.double.order x y = some .gt) : fkey y < fkey x := by
  cases nx : nanB x
  · cases ny : nanB y
    · rw [order_eq hx hy nx ny] at h
      exact key_lt_of_sval hy hx ny nx (Int.compare_eq_gt.1 (Option.some.inj h))
    · rw [order_nan (.inr ny)] at h; cases h
  · rw [order_nan (.inl nx)] at h; cases h
/-- 'x != x' -/
theorem self_nan {x : Nat} (hx : x < two64) : (Ieee.double.order x x != some .eq) = nanB x := by
  cases nx : nanB x
  · rw [order_eq hx hx nx nx]; simp
  · rw [order_nan (.inl nx)]; rfl
theorem fkey_lt {x : Nat} (hx : x < two64) : fkey x < two64 := by
  unfold fkey
  split
  · decide
  · split <;> (unfold two63 two64 at *; omega)
end Go.Proofs.YtaelghbjbopilaaGreat

namespace Go.Proofs.YtaelghbjbopilaaGreat
open Go.RowKit

theorem xor_max (x : Nat) (hx : x < two64) : bits .xor .u64 IntKind.u64.max (x : Int) = ((two64 - 1 - x : Nat) : Int) := by
  unfold two64 at *
  rw [show IntKind.u64.max = ((18446744073709551615 : Nat) : Int) from rfl, bits_xor_u64_nat _ _ (by decide) hx]
  have e1 : (BitVec.allOnes 64 ^^^ BitVec.ofNat 64 x).toNat = 18446744073709551615 ^^^ x := by
    rw [BitVec.toNat_xor, BitVec.toNat_allOnes, BitVec.toNat_ofNat, Nat.mod_eq_of_lt (by omega)]
  rw [← e1, BitVec.allOnes_xor, BitVec.toNat_not, BitVec.toNat_ofNat, Nat.mod_eq_of_lt (by omega)]
theorem or_top (x : Nat) (hx : x < two63) : bits .or .u64 (x : Int) 9223372036854775808 = ((x + two63 : Nat) : Int) := by
  unfold two63 at *
  rw [show (9223372036854775808 : Int) = ((9223372036854775808 : Nat) : Int) from rfl, u64_or_nat _ _ (by omega) (by decide), Nat.or_comm]
  have h : 9223372036854775808 + x = 9223372036854775808 ||| x := Nat.two_pow_add_eq_or_of_lt (i := 63) (b := x) (by omega) 1
  congr 1
  omega
theorem run_bits (x : Nat) (w : World) : (callFunc 175 #[.float .f64 x]).run Tryz.prog w = .ok (.value (.int .u64 x)) w := by
  rw [run_callFunc_extern Tryz.func175 (by kernel_rfl) (by kernel_rfl) (by kernel_rfl) (e := Extern.MathFloatBits.float64bits) (by kernel_rfl)]
  rfl
theorem signbit_any (x : Nat) (w : World) (hx : x < two64) : Calls Tryz.prog 174 #[.float .f64 x] w fun e w' => e = .returned (.bool (decide (two63 ≤ x))) ∧ w = w' := by
  have hrb := run_bits x
  by_cases h : two63 ≤ x
  · have HD := Lib.hid (decide_eq_true h)
    have hw : wrap64 (x : Int) < 0 := by unfold wrap64; unfold two63 two64 at *; omega
    clear h
    go_enter Tryz.func174, Tryz.ntmps174
    go_wp2_with fail
    go_ret
    exact ⟨ret_bool HD.out.symm, rfl⟩
  · have HD := Lib.hid (decide_eq_false h)
    have hw : ¬ wrap64 (x : Int) < 0 := by unfold wrap64; unfold two63 two64 at *; omega
    clear h
    go_enter Tryz.func174, Tryz.ntmps174
    go_wp2_with fail
    go_ret
    exact ⟨ret_bool HD.out.symm, rfl⟩

set_option maxHeartbeats 1600000 in
set_option maxRecDepth 100000 in
theorem rput_any (x : Nat) (w : World) (hx : x < two64) : Calls Tryz.prog 122 #[.float .f64 x] w fun e w' => e = .returned (.string (strOfNums (putN (fkey x) 8 8))) ∧ Bl w w' := by
  obtain ⟨i0, hi, hz0, hz1, hz2⟩ := info_parts info_byte
  have hrb := run_bits x
  have hn : (FloatKind.f64.format.order x x != some .eq) = nanB x := self_nan hx
  cases hx0 : nanB x
  · rw [hx0] at hn
    have HK := Lib.hid (fkey_num hx0)
    by_cases h : two63 ≤ x
    · have HK2 := Lib.hid (HK.out.trans (if_pos h))
      go_enter Tryz.func122, Tryz.ntmps122
      go_wp2_with fail
      refine (signbit_any x _ hx).mono ?_
      rintro e w1 ⟨rfl, rfl⟩
      rw [decide_eq_true h]
      go_wp2_with (at_make; refine wpList_make_full _ rfl _ _ 78 rfl w.heap.size 5 i0 (.int .u8 0) 1 Tryz.underlying78 hi hz0 hz1 .i64 .i64 _ _ 8 rfl rfl rfl rfl ?b1 ?b2 ?b3 ?_)
      case b1 => rw [hz2]; omega
      case b2 => unfold maxLen; omega
      case b3 => exact Nat.le_refl _
      intro w1 hown hgrow
      have hb : Bl w w1 := Below.grown (Bl.refl w) hgrow (Nat.le_refl _) (by simp)
      have hob : OB w.heap.size w1 (.slice (some ⟨w.heap.size, 0, none⟩) 8 8) (putN (fkey x) 8 0) := by
        rw [OB, putN_len, putN_zero]
        have e : (madeCells #[Value.int .u8 0] 8).toList = List.map (Value.int .u8) (List.replicate 8 0) := by
          rw [List.map_replicate]
          exact toList_madeCells_one _ _
        rw [← e]
        exact hown
      clear hown hgrow
      go_wp2_with fail
      go_loopw [22] (fun i wr => ∃ k : Nat, k ≤ 8 ∧ i = .int .i64 k ∧ Bl w wr ∧ OB w.heap.size wr (.slice (some ⟨w.heap.size, 0, none⟩) 8 8) (putN (fkey x) 8 k)) (fun i _ => 8 - (intOf i).toNat)
      case atStart => exact ⟨0, Nat.zero_le _, rfl, hb, hob⟩
      case round =>
        clear hb hob
        obtain ⟨k, hk, rfl, hb, hob⟩ := hrel
        by_cases hlt : k < 8
        · have hc := hob.cell (putN_len (fkey x) 8 k) (8 - 1 - k) (by omega)
          have hfz := hob.frozen (putN_len (fkey x) 8 k) (8 - 1 - k)
          generalize nth (putN (fkey x) 8 k) (8 - 1 - k) = old at hc
          have e8 : 8 - 1 - k = 7 - k := by omega
          rw [e8] at hc hfz
          have HOB := Lib.hid hob; clear hob
          clear e8
          go_wp2_with fail
          go_roundw
          case rel =>
            refine ⟨k + 1, by omega, by go_num, hb.setCell (Nat.le_refl _) _, ?_⟩
            have h1 := HOB.out.set (putN_len (fkey x) 8 k) (8 - 1 - k) (byteAt (fkey x) 8 (8 - 1 - k))
            rw [putN_set (fkey x) 8 k hlt] at h1
            have e : byteAt (fkey x) 8 (8 - 1 - k) = (fkey x : Int) / 2 ^ (8 * k) % 256 := by unfold byteAt; rw [show 8 - 1 - (8 - 1 - k) = k by omega]
            rw [e, show 8 - 1 - k = 7 - k by omega] at h1
            rw [xor_max x hx, ← HK2.out]
            exact h1
          case measure => simp [intOf]; omega
        · have hkn : k = 8 := by omega
          subst hkn
          have hs := hob.string (putN_len (fkey x) 8 8)
          clear hob
          go_wp2_with fail
          go_ret
          exact ⟨rfl, hb⟩
    · have HK2 := Lib.hid (HK.out.trans (if_neg h))
      go_enter Tryz.func122, Tryz.ntmps122
      go_wp2_with fail
      refine (signbit_any x _ hx).mono ?_
      rintro e w1 ⟨rfl, rfl⟩
      rw [decide_eq_false h]
      go_wp2_with (at_make; refine wpList_make_full _ rfl _ _ 78 rfl w.heap.size 5 i0 (.int .u8 0) 1 Tryz.underlying78 hi hz0 hz1 .i64 .i64 _ _ 8 rfl rfl rfl rfl ?b1 ?b2 ?b3 ?_)
      case b1 => rw [hz2]; omega
      case b2 => unfold maxLen; omega
      case b3 => exact Nat.le_refl _
      intro w1 hown hgrow
      have hb : Bl w w1 := Below.grown (Bl.refl w) hgrow (Nat.le_refl _) (by simp)
      have hob : OB w.heap.size w1 (.slice (some ⟨w.heap.size, 0, none⟩) 8 8) (putN (fkey x) 8 0) := by
        rw [OB, putN_len, putN_zero]
        have e : (madeCells #[Value.int .u8 0] 8).toList = List.map (Value.int .u8) (List.replicate 8 0) := by
          rw [List.map_replicate]
          exact toList_madeCells_one _ _
        rw [← e]
        exact hown
      clear hown hgrow
      go_wp2_with fail
      go_loopw [22] (fun i wr => ∃ k : Nat, k ≤ 8 ∧ i = .int .i64 k ∧ Bl w wr ∧ OB w.heap.size wr (.slice (some ⟨w.heap.size, 0, none⟩) 8 8) (putN (fkey x) 8 k)) (fun i _ => 8 - (intOf i).toNat)
      case atStart => exact ⟨0, Nat.zero_le _, rfl, hb, hob⟩
      case round =>
        clear hb hob
        obtain ⟨k, hk, rfl, hb, hob⟩ := hrel
        by_cases hlt : k < 8
        · have hc := hob.cell (putN_len (fkey x) 8 k) (8 - 1 - k) (by omega)
          have hfz := hob.frozen (putN_len (fkey x) 8 k) (8 - 1 - k)
          generalize nth (putN (fkey x) 8 k) (8 - 1 - k) = old at hc
          have e8 : 8 - 1 - k = 7 - k := by omega
          rw [e8] at hc hfz
          have HOB := Lib.hid hob; clear hob
          clear e8
          go_wp2_with fail
          go_roundw
          case rel =>
            refine ⟨k + 1, by omega, by go_num, hb.setCell (Nat.le_refl _) _, ?_⟩
            have h1 := HOB.out.set (putN_len (fkey x) 8 k) (8 - 1 - k) (byteAt (fkey x) 8 (8 - 1 - k))
            rw [putN_set (fkey x) 8 k hlt] at h1
            have e : byteAt (fkey x) 8 (8 - 1 - k) = (fkey x : Int) / 2 ^ (8 * k) % 256 := by unfold byteAt; rw [show 8 - 1 - (8 - 1 - k) = k by omega]
            rw [e, show 8 - 1 - k = 7 - k by omega] at h1
            rw [or_top x (by omega), ← HK2.out]
            exact h1
          case measure => simp [intOf]; omega
        · have hkn : k = 8 := by omega
          subst hkn
          have hs := hob.string (putN_len (fkey x) 8 8)
          clear hob
          go_wp2_with fail
          go_ret
          exact ⟨rfl, hb⟩
  · rw [hx0] at hn
    have HK2 := Lib.hid (show fkey x = 0 by simp [fkey, hx0])
    · go_enter Tryz.func122, Tryz.ntmps122
      go_wp2_with (at_make; refine wpList_make_full _ rfl _ _ 78 rfl w.heap.size 5 i0 (.int .u8 0) 1 Tryz.underlying78 hi hz0 hz1 .i64 .i64 _ _ 8 rfl rfl rfl rfl ?b1 ?b2 ?b3 ?_)
      case b1 => rw [hz2]; omega
      case b2 => unfold maxLen; omega
      case b3 => exact Nat.le_refl _
      intro w1 hown hgrow
      have hb : Bl w w1 := Below.grown (Bl.refl w) hgrow (Nat.le_refl _) (by simp)
      have hob : OB w.heap.size w1 (.slice (some ⟨w.heap.size, 0, none⟩) 8 8) (putN (fkey x) 8 0) := by
        rw [OB, putN_len, putN_zero]
        have e : (madeCells #[Value.int .u8 0] 8).toList = List.map (Value.int .u8) (List.replicate 8 0) := by
          rw [List.map_replicate]
          exact toList_madeCells_one _ _
        rw [← e]
        exact hown
      clear hown hgrow
      go_wp2_with fail
      go_loopw [22] (fun i wr => ∃ k : Nat, k ≤ 8 ∧ i = .int .i64 k ∧ Bl w wr ∧ OB w.heap.size wr (.slice (some ⟨w.heap.size, 0, none⟩) 8 8) (putN (fkey x) 8 k)) (fun i _ => 8 - (intOf i).toNat)
      case atStart => exact ⟨0, Nat.zero_le _, rfl, hb, hob⟩
      case round =>
        clear hb hob
        obtain ⟨k, hk, rfl, hb, hob⟩ := hrel
        by_cases hlt : k < 8
        · have hc := hob.cell (putN_len (fkey x) 8 k) (8 - 1 - k) (by omega)
          have hfz := hob.frozen (putN_len (fkey x) 8 k) (8 - 1 - k)
          generalize nth (putN (fkey x) 8 k) (8 - 1 - k) = old at hc
          have e8 : 8 - 1 - k = 7 - k := by omega
          rw [e8] at hc hfz
          have HOB := Lib.hid hob; clear hob
          clear e8
          go_wp2_with fail
          go_roundw
          case rel =>
            refine ⟨k + 1, by omega, by go_num, hb.setCell (Nat.le_refl _) _, ?_⟩
            have h1 := HOB.out.set (putN_len (fkey x) 8 k) (8 - 1 - k) (byteAt (fkey x) 8 (8 - 1 - k))
            rw [putN_set (fkey x) 8 k hlt] at h1
            have e : byteAt (fkey x) 8 (8 - 1 - k) = (fkey x : Int) / 2 ^ (8 * k) % 256 := by unfold byteAt; rw [show 8 - 1 - (8 - 1 - k) = k by omega]
            rw [e, show 8 - 1 - k = 7 - k by omega] at h1
            have e0 : ((fkey x : Nat) : Int) / 2 ^ (8 * k) % 256 = 0 := by rw [HK2.out]; simp
            rw [e0] at h1
            exact h1
          case measure => simp [intOf]; omega
        · have hkn : k = 8 := by omega
          subst hkn
          have hs := hob.string (putN_len (fkey x) 8 8)
          clear hob
          go_wp2_with fail
          go_ret
          exact ⟨rfl, hb⟩

/-- -1, 0, 1 -/
def cmpN (a b : Nat) : Int := if a < b then -1 else if b < a then 1 else 0

theorem cmp_bytes (n : Nat) : ∀ (l m : List UInt8) (a b : Nat), l.length = n → m.length = n → (∀ k, k < n → (l.drop k).head?.map (·.toNat) = some (a / 256 ^ (n - 1 - k) % 256)) → (∀ k, k < n → (m.drop k).head?.map (·.toNat) = some (b / 256 ^ (n - 1 - k) % 256)) →
    Lib.compareBytes l m = cmpN (a % 256 ^ n) (b % 256 ^ n) := by
  induction n with
  | zero =>
    intro l m a b hl hm _ _
    rw [List.eq_nil_of_length_eq_zero hl, List.eq_nil_of_length_eq_zero hm]
    simp [Lib.compareBytes, cmpN, Nat.mod_one]
  | succ n ih =>
    intro l m a b hl hm h1 h2
    cases l with
    | nil => simp at hl
    | cons x l =>
      cases m with
      | nil => simp at hm
      | cons y m =>
        have e1 := h1 0 (by omega)
        have e2 := h2 0 (by omega)
        simp at e1 e2
        have ih' := ih l m a b (by simpa using hl) (by simpa using hm) (fun k hk => by have := h1 (k + 1) (by omega); simpa [show n - (k + 1) = n - 1 - k by omega] using this) (fun k hk => by have := h2 (k + 1) (by omega); simpa [show n - (k + 1) = n - 1 - k by omega] using this)
        have m1 : a % 256 ^ (n + 1) = 256 ^ n * (a / 256 ^ n % 256) + a % 256 ^ n := by rw [Nat.pow_succ, Nat.mod_mul, Nat.add_comm]
        have m2 : b % 256 ^ (n + 1) = 256 ^ n * (b / 256 ^ n % 256) + b % 256 ^ n := by rw [Nat.pow_succ, Nat.mod_mul, Nat.add_comm]
        have l1 : a % 256 ^ n < 256 ^ n := Nat.mod_lt _ (Nat.pow_pos (by decide))
        have l2 : b % 256 ^ n < 256 ^ n := Nat.mod_lt _ (Nat.pow_pos (by decide))
        rw [← e1] at m1
        rw [← e2] at m2
        simp only [Lib.compareBytes, ih']
        rw [m1, m2]
        generalize 256 ^ n = q at *
        rcases Nat.lt_trichotomy x.toNat y.toNat with h | h | h
        · rw [if_pos (UInt8.lt_iff_toNat_lt.2 h)]
          have : q * x.toNat + q ≤ q * y.toNat := by rw [← Nat.mul_succ]; exact Nat.mul_le_mul_left _ h
          unfold cmpN
          rw [if_pos (by omega)]
        · rw [if_neg (by rw [UInt8.lt_iff_toNat_lt]; omega), if_neg (by rw [UInt8.lt_iff_toNat_lt]; omega), h]
          unfold cmpN
          split <;> split <;> first | rfl | (split <;> first | rfl | omega) | omega
        · rw [if_neg (by rw [UInt8.lt_iff_toNat_lt]; omega), if_pos (UInt8.lt_iff_toNat_lt.2 h)]
          have : q * y.toNat + q ≤ q * x.toNat := by rw [← Nat.mul_succ]; exact Nat.mul_le_mul_left _ h
          unfold cmpN
          rw [if_neg (by omega), if_pos (by omega)]
end Go.Proofs.YtaelghbjbopilaaGreat

namespace Go.Proofs.YtaelghbjbopilaaGreat
open Go.RowKit

/-- the eight bytes of a word -/
def bytesN8 (v : Nat) : List UInt8 := (strOfNums (putN v 8 8)).data.toList
theorem bytesN8_len (v : Nat) : (bytesN8 v).length = 8 := by
  unfold bytesN8
  rw [strOfNums_data, List.length_map, putN_len]
theorem byteAt_nat (v k : Nat) : byteAt (v : Int) 8 k = ((v / 256 ^ (8 - 1 - k) % 256 : Nat) : Int) := by
  unfold byteAt
  have e : (2 : Int) ^ (8 * (8 - 1 - k)) = ((256 ^ (8 - 1 - k) : Nat) : Int) := by
    rw [show (256 : Nat) = 2 ^ 8 from rfl, ← Nat.pow_mul]
    simp
  rw [e]
  rfl
theorem put8_at (v : Nat) (k : Nat) (hk : k < 8) : ((bytesN8 v).drop k).head?.map (·.toNat) = some (v / 256 ^ (8 - 1 - k) % 256) := by
  have hl : k < (bytesN8 v).length := by rw [bytesN8_len]; exact hk
  rw [List.drop_eq_getElem_cons hl]
  simp only [List.head?_cons, Option.map_some, Option.some.injEq]
  simp only [bytesN8, strOfNums, List.getElem_map, putN, List.getElem_range]
  rw [if_pos (by omega), byteAt_nat, Int.toNat_natCast, UInt8.toNat_ofNat']
  omega
theorem cmp_put8 (a b : Nat) (ha : a < two64) (hb : b < two64) : Lib.compareBytes (bytesN8 a) (bytesN8 b) = cmpN a b := by
  rw [cmp_bytes 8 (bytesN8 a) (bytesN8 b) a b (bytesN8_len a) (bytesN8_len b) (put8_at a) (put8_at b), Nat.mod_eq_of_lt (by unfold two64 at *; omega), Nat.mod_eq_of_lt (by unfold two64 at *; omega)]

theorem rawCompare_any (s t : ByteArray) (w : World) : Calls Tryz.prog 192 #[.string s, .string t] w fun e w' => e = .returned (.int .i64 (Lib.compareBytes s.data.toList t.data.toList)) ∧ w = w' := by
  go_enter Tryz.func192, Tryz.ntmps192
  go_wp2_with fail
  refine (Tryz.strings_Compare s t _).mono ?_
  rintro e w' ⟨rfl, rfl⟩
  go_wp2_with fail
  go_ret
  exact ⟨rfl, rfl⟩

set_option maxRecDepth 100000 in
theorem rcompare_any (x y : Nat) (w : World) (hx : x < two64) (hy : y < two64) : Calls Tryz.prog 176 #[.float .f64 x, .float .f64 y] w fun e w' => e = .returned (.int .i64 (cmpN (fkey x) (fkey y))) ∧ Bl w w' := by
  by_cases h1 : FloatKind.f64.format.order x y = some .lt
  · have HR := Lib.hid (show cmpN (fkey x) (fkey y) = -1 from if_pos (key_lt hx hy h1))
    have q1 : (FloatKind.f64.format.order x y == some .lt) = true := by rw [h1]; rfl
    clear h1
    go_enter Tryz.func176, Tryz.ntmps176
    go_wp2_with fail
    go_ret
    exact ⟨ret_int HR.out.symm, Bl.refl _⟩
  · by_cases h2 : FloatKind.f64.format.order x y = some .gt
    · have HR := Lib.hid (show cmpN (fkey x) (fkey y) = 1 from by have := key_gt hx hy h2; unfold cmpN; rw [if_neg (by omega), if_pos this])
      have q1 : (FloatKind.f64.format.order x y == some .lt) = false := by rw [h2]; rfl
      have q2 : (FloatKind.f64.format.order x y == some .gt) = true := by rw [h2]; rfl
      clear h1 h2
      go_enter Tryz.func176, Tryz.ntmps176
      go_wp2_with fail
      go_ret
      exact ⟨ret_int HR.out.symm, Bl.refl _⟩
    · have q1 : (FloatKind.f64.format.order x y == some .lt) = false := by
        rw [beq_eq_false_iff_ne]; exact h1
      have q2 : (FloatKind.f64.format.order x y == some .gt) = false := by
        rw [beq_eq_false_iff_ne]; exact h2
      clear h1 h2
      have HR := Lib.hid (cmp_put8 _ _ (fkey_lt hx) (fkey_lt hy))
      go_enter Tryz.func176, Tryz.ntmps176
      go_wp2_with fail
      refine (rput_any x _ hx).mono ?_
      rintro e w1 ⟨rfl, hb1⟩
      go_wp2_with fail
      refine (rput_any y _ hy).mono ?_
      rintro e w2 ⟨rfl, hb2⟩
      go_wp2_with fail
      refine (rawCompare_any _ _ _).mono ?_
      rintro e w3 ⟨rfl, rfl⟩
      go_wp2_with fail
      go_ret
      exact ⟨ret_int HR.out, hb1.trans hb2⟩

end Go.Proofs.YtaelghbjbopilaaGreat

namespace Go.Proofs.YtaelghbjbopilaaGreat
open Go.RowKit

theorem fkey_inj' {x y : Nat} (hx : x < two64) (hy : y < two64) (h : fkey x = fkey y) (h0 : fkey y ≠ 0) : x = y := by
  unfold fkey at h h0
  unfold two63 two64 at *
  split at h <;> split at h <;> (try split at h) <;> (try split at h) <;> simp_all <;> omega

theorem cmpN_zero (a b : Nat) : (cmpN a b == 0) = decide (a = b) := by
  unfold cmpN
  by_cases h : a < b
  · rw [if_pos h, decide_eq_false (by omega)]; rfl
  · rw [if_neg h]
    by_cases h2 : b < a
    · rw [if_pos h2, decide_eq_false (by omega)]; rfl
    · rw [if_neg h2, decide_eq_true (by omega)]; rfl
theorem rsameF_any (x y : Nat) (w : World) (hx : x < two64) (hy : y < two64) : Calls Tryz.prog 124 #[.float .f64 x, .float .f64 y] w fun e w' => e = .returned (.bool (decide (fkey x = fkey y))) ∧ Bl w w' := by
  have HZ := Lib.hid (cmpN_zero (fkey x) (fkey y))
  go_enter Tryz.func124, Tryz.ntmps124
  go_wp2_with fail
  refine (rcompare_any x y _ hx hy).mono ?_
  rintro e w1 ⟨rfl, hb1⟩
  go_wp2_with fail
  go_ret
  exact ⟨ret_bool HZ.out, hb1⟩
end Go.Proofs.YtaelghbjbopilaaGreat
end
