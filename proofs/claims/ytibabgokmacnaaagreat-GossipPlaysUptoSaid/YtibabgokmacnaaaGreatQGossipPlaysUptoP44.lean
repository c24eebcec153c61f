import Derived.Test.YtibabgokmacnaaaGreatQGossipPlaysUptoP40
import Derived.Test.YtibabgokmacnaaaGreatQGossipPlaysUptoP1
import Derived.Deep.Cut

/- gossip.Load. By an AI agent. -/
section
set_option linter.unusedVariables false
set_option linter.unusedSimpArgs false
namespace Go.Proofs.YtibabgokmacnaaaGreat
open Go.RowKit

theorem lcatch_idle (a0 a1 : Addr) (w : World) :
    CallsD Tryz.prog 137 #[.pointer (some a0), .pointer (some a1)] .returning w fun e u' w' => e = .returned (.tuple #[]) ∧ u' = .returning ∧ w' = w := by
  refine callsD_of_wpS Tryz.func137 rfl fun c₀ cs hu => ?_
  apply wpS_seq
  apply wpS_region
  simp [wpOpsS, go_sem, recoverD, hu, Tryz.ntmps137, Exit.thenS]
  apply wpS_seq
  apply wpS_region
  simp [wpOpsS, go_sem, Exit.thenS]
  refine wpS_cond (t := false) (by simp [Act.eval, Array.replicate]) ?_
  simp only [Bool.false_eq_true, if_false]
  refine wpS_of_wp (wp_skip ?_)
  cases c₀
  simp_all [bodyPostS, results, Tryz.results137]

set_option maxHeartbeats 1600000 in
set_option maxRecDepth 100000 in
theorem lcatch_code (g0 g1 : Nat) (c : Int) (v0 v1 : Value) (older : List PanicEntry) (w : World) (h0 : C1 w g0 v0) (h1 : C1 w g1 v1) (n01 : g0 ≠ g1) :
    CallsD Tryz.prog 137 #[.pointer (some ⟨g0, 0, none⟩), .pointer (some ⟨g1, 0, none⟩)] (.panicking ({ v := .iface 47 (.int .i64 c), recovered := false } :: older)) w fun e u' w' =>
      e = .returned (.tuple #[]) ∧ u' = .panicking ({ v := .iface 47 (.int .i64 c), recovered := true } :: older) ∧ w' = (w.setCell ⟨g0, 0, none⟩ (.pointer none)).setCell ⟨g1, 0, none⟩ (.int .i64 c) := by
  have k0 := h0.cell
  have f0 := h0.frozen
  have k1 := (h1.other (Ne.symm n01) (.pointer none)).cell
  have f1 := (h1.other (Ne.symm n01) (.pointer none)).frozen
  refine callsD_of_wpS Tryz.func137 rfl fun c₀ cs hu => ?_
  apply wpS_seq
  apply wpS_region
  simp [wpOpsS, go_sem, recoverD, hu, Tryz.ntmps137, Exit.thenS]
  apply wpS_seq
  apply wpS_region
  simp [wpOpsS, go_sem, Exit.thenS]
  refine wpS_cond (t := true) (by simp [Act.eval, Array.replicate]) ?_
  simp only [if_true]
  apply wpS_seq
  apply wpS_region
  simp [wpOpsS, go_sem, Exit.thenS, assert_code, recoverD]
  apply wpS_seq
  apply wpS_seq
  apply wpS_region
  simp [wpOpsS, go_sem, Exit.thenS, recoverD]
  refine wpS_cond (t := false) (by simp [Act.eval, Array.replicate]) ?_
  simp only [Bool.false_eq_true, if_false]
  refine wpS_of_wp (wp_skip ?_)
  simp only [Exit.thenS]
  apply wpS_region
  simp [wpOpsS, go_sem, k0, f0, k1, f1, recoverD, bodyPostS, results, Tryz.results137]

theorem RG.setBelow {B g q : Nat} {w : World} {rows : List (List Int)} (h : RG B w g rows) (hq : q < B) (u : Value) : RG B (w.setCell ⟨q, 0, none⟩ u) g rows := by
  obtain ⟨v, h1, h2, h3⟩ := h
  exact ⟨v, h1.other (by omega) u, h2, h3.below (p := ⟨q, 0, none⟩) (by show q < g + 1; omega) u⟩
theorem RG.mono {B B' g : Nat} {w : World} {rows : List (List Int)} (h : RG B w g rows) (hB : B' ≤ B) : RG B' w g rows := by
  obtain ⟨v, h1, h2, h3⟩ := h
  exact ⟨v, h1, by omega, h3⟩
/-- what Load comes to -/
def LoadPost (w : World) (l : List UInt8) (e : Ending) (w' : World) : Prop :=
  (∃ rows g, rdRows l = some rows ∧ e = .returned (.tuple #[.pointer (some ⟨g, 0, none⟩), .int .i64 0]) ∧ RG w.heap.size w' g rows ∧ Bl w w') ∨
  (rdRows l = none ∧ e = .returned (.tuple #[.pointer none, .int .i64 4]) ∧ Bl w w')
theorem load_results {tmps : Array Value} {W : World} {g0 g1 : Nat} {v0 : Option Addr} {e : Int} (h0 : tmps.getD 2 undef = .pointer (some ⟨g0, 0, none⟩)) (h1 : tmps.getD 3 undef = .pointer (some ⟨g1, 0, none⟩))
    (c0 : C1 W g0 (.pointer v0)) (c1 : C1 W g1 (.int .i64 e)) :
    (results Tryz.f35 tmps).run Tryz.prog W = .ok (.tuple #[.pointer v0, .int .i64 e]) W := by
  rw [Array.getD_eq_getD_getElem?] at h0 h1
  have k0 := c0.cell
  have k1 := c1.cell
  simp [results, Tryz.results35, go_sem, h0, h1, k0, k1]
set_option maxHeartbeats 1600000 in
set_option maxRecDepth 100000 in
theorem gload_any (l : List UInt8) (w : World) (hz : l.length ≤ 900000) :
    Calls Tryz.prog 35 #[.string (strL l)] w (LoadPost w l) := by
  have hmf := hmf
  have H := Lib.hid (fun w => gread_any l w hz)
  have c0 := (C1.new w w.heap.size rfl (.pointer none) 57).keep ((Bl.refl _).alloc (.cells #[.int .i64 0] 47))
  have c1 := C1.new (w.alloc (.cells #[.pointer none] 57)) (w.heap.size + 1) (by simp) (.int .i64 0) 47
  have hb := ((Bl.refl w).alloc (.cells #[.pointer none] 57)).alloc (.cells #[.int .i64 0] 47)
  have hsz : w.heap.size + 2 ≤ ((w.alloc (.cells #[.pointer none] 57)).alloc (.cells #[.int .i64 0] 47)).heap.size := by simp
  generalize strL l = s at *
  go_enter_defers Tryz.func35, Tryz.ntmps35
  go_wp2_with fail
  generalize (w.alloc (.cells #[.pointer none] 57)).alloc (.cells #[.int .i64 0] 47) = W at *
  refine (H.out _).mono ?_
  rintro e w1 (⟨rows, hr, rfl, hg, hb1⟩ | ⟨hr, rfl, hb1⟩)
  · have HR := Lib.hid hr
    have HG := Lib.hid hg
    have HB := Lib.hid (hb.trans hb1)
    have d0 := c0.keep hb1
    have d1 := c1.keep hb1
    have k0 := d0.cell
    have f0 := d0.frozen
    have k1 := (d1.other (by omega) (g' := w.heap.size) (.pointer (some ⟨W.heap.size, 0, none⟩))).cell
    have f1 := (d1.other (by omega) (g' := w.heap.size) (.pointer (some ⟨W.heap.size, 0, none⟩))).frozen
    have HD := Lib.hid (And.intro d0 d1)
    clear hr hg hb1 c0 c1 hb d0 d1
    go_wp2_with fail
    refine leaves_cons (f := 137) (args := #[.pointer (some ⟨w.heap.size, 0, none⟩), .pointer (some ⟨w.heap.size + 1, 0, none⟩)]) (by simp) (by simp [go_sem]) ?_
    refine (lcatch_idle _ _ _).mono ?_
    rintro e u' w'' ⟨rfl, rfl, rfl⟩
    obtain ⟨d0, d1⟩ := HD.out
    refine leaves_ret (load_results rfl rfl ((d0.set (.pointer (some ⟨W.heap.size, 0, none⟩))).other (by omega) (.int .i64 0)) ((d1.other (by omega) (.pointer (some ⟨W.heap.size, 0, none⟩))).set (.int .i64 0))) (.inl ⟨rows, W.heap.size, HR.out, rfl, ?_, ?_⟩)
    · exact ((HG.out.setBelow (q := w.heap.size) (by omega) _).setBelow (q := w.heap.size + 1) (by omega) _).mono (by omega)
    · exact (HB.out.setCell (p := ⟨w.heap.size, 0, none⟩) (Nat.le_refl _) _).setCell (p := ⟨w.heap.size + 1, 0, none⟩) (Nat.le_succ _) _
  · have HB := Lib.hid (hb.trans hb1)
    have d0 := c0.keep hb1
    have d1 := c1.keep hb1
    unfold panE
    clear hb1 c0 c1 hb
    refine leaves_cons (f := 137) (args := #[.pointer (some ⟨w.heap.size, 0, none⟩), .pointer (some ⟨w.heap.size + 1, 0, none⟩)]) (by simp) (by simp [go_sem]) ?_
    refine (lcatch_code w.heap.size (w.heap.size + 1) 4 _ _ [] _ d0 d1 (by omega)).mono ?_
    rintro e u' w'' ⟨rfl, rfl, rfl⟩
    refine leaves_back (load_results rfl rfl ((d0.set (.pointer none)).other (by omega) (.int .i64 4)) ((d1.other (by omega) (.pointer none)).set (.int .i64 4))) (.inr ⟨hr, rfl, ?_⟩)
    exact (HB.out.setCell (p := ⟨w.heap.size, 0, none⟩) (Nat.le_refl _) _).setCell (p := ⟨w.heap.size + 1, 0, none⟩) (Nat.le_succ _) _
end Go.Proofs.YtibabgokmacnaaaGreat
end

/- bedrockref1.Get, bedrockref1.Put. By an AI agent. -/
section
namespace Go.Proofs.YtibabgokmacnaaaGreat
open Go.RowKit

theorem ret_pair {a b c d : Int} (h : a = b) (k : c = d) : Ending.returned (.tuple #[.int .i64 a, .int .i64 c]) = Ending.returned (.tuple #[.int .i64 b, .int .i64 d]) := by rw [h, k]
end Go.Proofs.YtibabgokmacnaaaGreat

namespace Go.Proofs.YtibabgokmacnaaaGreat
open Go.RowKit

set_option maxHeartbeats 1600000 in
set_option maxRecDepth 100000 in
theorem refPut_any (v : Nat) (n : Nat) (w : World) (hn : 1 ≤ n) (hn1 : n ≤ 7) (hv63 : v < 9223372036854775808) (hvn : v / 2 ^ (8 * n) = 0) :
    Calls Tryz.prog 68 #[.int .i64 v, .int .i64 n] w fun e w' => e = .returned (.tuple #[.string (strOfNums (putN v n n)), .int .i64 0]) ∧ Bl w w' := by
  obtain ⟨i0, hi, hz0, hz1, hz2⟩ := info_parts info_byte
  have HV := Lib.hid hvn; clear hvn
  go_enter Tryz.func68, Tryz.ntmps68
  go_wp2_with (at_make; refine wpList_make_full _ rfl _ _ 92 rfl w.heap.size 5 i0 (.int .u8 0) 1 Tryz.underlying92 hi hz0 hz1 .i64 .i64 _ _ n rfl rfl rfl rfl ?b1 ?b2 ?b3 ?_)
  case b1 => rw [hz2]; omega
  case b2 => unfold maxLen; omega
  case b3 => exact Nat.le_refl _
  intro w1 hown hgrow
  have hb : Bl w w1 := Below.grown (Bl.refl w) hgrow (Nat.le_refl _) (by simp)
  have hob : OB w.heap.size w1 (.slice (some ⟨w.heap.size, 0, none⟩) n n) (putN v n 0) := by
    rw [OB, putN_len, putN_zero]
    have e : (madeCells #[Value.int .u8 0] n).toList = List.map (Value.int .u8) (List.replicate n 0) := by
      rw [List.map_replicate]
      exact toList_madeCells_one _ _
    rw [e] at hown
    exact hown
  clear hown hgrow
  go_wp2_with fail
  go_loopw [0, 7] (fun v' i wr => ∃ (k : Nat) (u : Nat), k ≤ n ∧ i = .int .i64 ((n : Int) - 1 - k) ∧ v' = .int .i64 u ∧ u = v / 2 ^ (8 * k) ∧ Bl w wr ∧ OB w.heap.size wr (.slice (some ⟨w.heap.size, 0, none⟩) n n) (putN v n k)) (fun _ i _ => (intOf i + 1).toNat)
  case atStart => exact ⟨0, v, Nat.zero_le _, by go_num, rfl, by simp, hb, hob⟩
  case round =>
    clear hb hob
    obtain ⟨k, u, hk, rfl, rfl, hu, hb, hob⟩ := hrel
    have hu63 : u < 9223372036854775808 := by
      rw [hu]; exact Nat.lt_of_le_of_lt (Nat.div_le_self _ _) hv63
    by_cases hlt : k < n
    · have hc := hob.cell (putN_len v n k) (n - 1 - k) (by omega)
      have hfz := hob.frozen (putN_len v n k) (n - 1 - k)
      generalize nth (putN v n k) (n - 1 - k) = old at hc
      have HOB := Lib.hid hob; clear hob
      have HU := Lib.hid hu; clear hu
      have ei : (n : Int) - 1 - (k : Int) = ((n - 1 - k : Nat) : Int) := by omega
      rw [ei]
      have et : ((u : Int)).tmod 256 = ((u % 256 : Nat) : Int) := by
        rw [Int.tmod_eq_emod_of_nonneg (by omega)]; omega
      have ed : wrap64 ((u : Int).tdiv 256) = ((u / 256 : Nat) : Int) := by
        rw [Int.tdiv_eq_ediv_of_nonneg (by omega)]; unfold wrap64; omega
      go_wp2_with fail
      go_roundw
      case rel =>
        refine ⟨k + 1, u / 256, by omega, by go_num, rfl, ?_, hb.setCell (Nat.le_refl _) _, ?_⟩
        · rw [HU.out, Nat.div_div_eq_div_mul, show 8 * (k + 1) = 8 * k + 8 by omega, Nat.pow_add]
        · have h1 := HOB.out.set (putN_len v n k) (n - 1 - k) ((u : Int) % 256)
          have e : (u : Int) % 256 = byteAt v n (n - 1 - k) := by
            unfold byteAt
            rw [show n - 1 - (n - 1 - k) = k by omega, HU.out]
            rfl
          have h2 := putN_set v n k hlt
          rw [← e] at h2
          rw [h2] at h1
          exact h1
      case measure => simp [intOf] <;> omega
    · have hkn : k = n := by omega
      subst hkn
      have hs := hob.string (putN_len v k k)
      clear hob
      obtain rfl : u = 0 := by rw [hu]; exact HV.out
      clear hu
      rw [show (k : Int) - 1 - (k : Int) = -1 by omega]
      go_wp2_with fail
      go_ret2
      exact ⟨rfl, hb⟩

end Go.Proofs.YtibabgokmacnaaaGreat
end
