import Derived.Test.YtkgpkkdcadkpmaaGreatDoorQIkeyTellsUptoP8
import Derived.Test.YtkgpkkdcadkpmaaGreatDoorQIkeyTellsUptoP1
import Derived.Deep.Cut
import Derived.Test.YtkgpkkdcadkpmaaGreatDoorQIkeyTellsUptoP9
import Derived.Test.YtkgpkkdcadkpmaaGreatDoorQIkeyTellsUptoP14
import Derived.StillTailTactics
import Derived.Deep.DeepCutAuto
import Derived.Outline

/- ikey.Get, ikey.Key. By an AI agent. -/
section
namespace Go.Proofs.YtkgpkkdcadkpmaaGreatDoor
open Go.RowKit

theorem kcatch_idle (a0 a1 : Addr) (w : World) :
    CallsD Tryz.prog 27 #[.pointer (some a0), .pointer (some a1)] .returning w fun e u' w' => e = .returned (.tuple #[]) ∧ u' = .returning ∧ w' = w := by
  refine callsD_of_wpS Tryz.func27 rfl fun c₀ cs hu => ?_
  apply wpS_seq
  apply wpS_region
  simp [wpOpsS, go_sem, recoverD, hu, Tryz.ntmps27, Exit.thenS]
  apply wpS_seq
  apply wpS_region
  simp [wpOpsS, go_sem, Exit.thenS]
  refine wpS_cond (t := false) (by simp [Act.eval, Array.replicate]) ?_
  simp only [Bool.false_eq_true, if_false]
  refine wpS_of_wp (wp_skip ?_)
  cases c₀
  simp_all [bodyPostS, results, Tryz.results27]

theorem AC.other8 {w : World} {g g' : Nat} {cs : List Value} (h : AC w g cs) (hn : g ≠ g') (c0 c1 c2 c3 c4 c5 c6 c7 : Value) : AC ((((((((w.setCell ⟨g', 0, none⟩ c0).setCell ⟨g', 1, none⟩ c1).setCell ⟨g', 2, none⟩ c2).setCell ⟨g', 3, none⟩ c3).setCell ⟨g', 4, none⟩ c4).setCell ⟨g', 5, none⟩ c5).setCell ⟨g', 6, none⟩ c6).setCell ⟨g', 7, none⟩ c7) g cs :=
  (((((((h.other hn).other hn).other hn).other hn).other hn).other hn).other hn).other hn
theorem AC.set8 {w : World} {g : Nat} {d0 d1 d2 d3 d4 d5 d6 d7 : Value} (h : AC w g [d0, d1, d2, d3, d4, d5, d6, d7]) (c0 c1 c2 c3 c4 c5 c6 c7 : Value) : AC ((((((((w.setCell ⟨g, 0, none⟩ c0).setCell ⟨g, 1, none⟩ c1).setCell ⟨g, 2, none⟩ c2).setCell ⟨g, 3, none⟩ c3).setCell ⟨g, 4, none⟩ c4).setCell ⟨g, 5, none⟩ c5).setCell ⟨g, 6, none⟩ c6).setCell ⟨g, 7, none⟩ c7) g [c0, c1, c2, c3, c4, c5, c6, c7] :=
  (((((((h.setj 0 c0).setj 1 c1).setj 2 c2).setj 3 c3).setj 4 c4).setj 5 c5).setj 6 c6).setj 7 c7
theorem Bl.store8 {w W : World} {g : Nat} (h : Bl w W) (hg : w.heap.size ≤ g) (c0 c1 c2 c3 c4 c5 c6 c7 : Value) : Bl w ((((((((W.setCell ⟨g, 0, none⟩ c0).setCell ⟨g, 1, none⟩ c1).setCell ⟨g, 2, none⟩ c2).setCell ⟨g, 3, none⟩ c3).setCell ⟨g, 4, none⟩ c4).setCell ⟨g, 5, none⟩ c5).setCell ⟨g, 6, none⟩ c6).setCell ⟨g, 7, none⟩ c7) :=
  (((((((h.setCell (p := ⟨g, 0, none⟩) hg c0).setCell (p := ⟨g, 1, none⟩) hg c1).setCell (p := ⟨g, 2, none⟩) hg c2).setCell (p := ⟨g, 3, none⟩) hg c3).setCell (p := ⟨g, 4, none⟩) hg c4).setCell (p := ⟨g, 5, none⟩) hg c5).setCell (p := ⟨g, 6, none⟩) hg c6).setCell (p := ⟨g, 7, none⟩) hg c7
theorem FarO.set8 {B : Nat} {W : World} {g : Nat} {a : Option Addr} {n ca : Nat} {xs : List Int} (h : FarO B W a n ca xs) (hg : g < B) (c0 c1 c2 c3 c4 c5 c6 c7 : Value) : FarO B ((((((((W.setCell ⟨g, 0, none⟩ c0).setCell ⟨g, 1, none⟩ c1).setCell ⟨g, 2, none⟩ c2).setCell ⟨g, 3, none⟩ c3).setCell ⟨g, 4, none⟩ c4).setCell ⟨g, 5, none⟩ c5).setCell ⟨g, 6, none⟩ c6).setCell ⟨g, 7, none⟩ c7) a n ca xs :=
  (((((((h.set hg 0 c0).set hg 1 c1).set hg 2 c2).set hg 3 c3).set hg 4 c4).set hg 5 c5).set hg 6 c6).set hg 7 c7

set_option maxHeartbeats 800000 in
set_option maxRecDepth 100000 in
theorem kcatch_code (g0 g1 : Nat) (c : Int) (v1 : Value) (older : List PanicEntry) (w : World) (d0 d1 d2 d3 d4 d5 d6 d7 : Value) (h0 : AC w g0 [d0, d1, d2, d3, d4, d5, d6, d7]) (h1 : AC w g1 [v1]) (n01 : g0 ≠ g1) :
    CallsD Tryz.prog 27 #[.pointer (some ⟨g0, 0, none⟩), .pointer (some ⟨g1, 0, none⟩)] (.panicking ({ v := .iface 48 (.int .i64 c), recovered := false } :: older)) w fun e u' w' =>
      e = .returned (.tuple #[]) ∧ u' = .panicking ({ v := .iface 48 (.int .i64 c), recovered := true } :: older) ∧ w' = (((((((((w.setCell ⟨g0, 0, none⟩ (.string ⟨#[]⟩)).setCell ⟨g0, 1, none⟩ (.slice none 0 0)).setCell ⟨g0, 2, none⟩ (.int .i64 0)).setCell ⟨g0, 3, none⟩ (.int .i64 0)).setCell ⟨g0, 4, none⟩ (.int .i64 0)).setCell ⟨g0, 5, none⟩ (.float .f64 0)).setCell ⟨g0, 6, none⟩ (.int .i64 0)).setCell ⟨g0, 7, none⟩ (.string ⟨#[]⟩)).setCell ⟨g1, 0, none⟩ (.int .i64 c)) := by
  have hsf := store_float
  have f0 := h0.frozen
  have k0 := h0.cell 0 _ rfl
  have k1 := h0.cell 1 _ rfl
  have k2 := h0.cell 2 _ rfl
  have k3 := h0.cell 3 _ rfl
  have k4 := h0.cell 4 _ rfl
  have k5 := h0.cell 5 _ rfl
  have k6 := h0.cell 6 _ rfl
  have k7 := h0.cell 7 _ rfl
  have H4 := h1.other8 (g' := g0) (Ne.symm n01) (.string ⟨#[]⟩) (.slice none 0 0) (.int .i64 0) (.int .i64 0) (.int .i64 0) (.float .f64 0) (.int .i64 0) (.string ⟨#[]⟩)
  have e0 := H4.cell 0 _ rfl
  have ef := H4.frozen 0
  refine callsD_of_wpS Tryz.func27 rfl fun c₀ cs hu => ?_
  apply wpS_seq
  apply wpS_region
  simp [wpOpsS, go_sem, recoverD, hu, Tryz.ntmps27, Exit.thenS]
  apply wpS_seq
  apply wpS_region
  simp [wpOpsS, go_sem, Exit.thenS]
  refine wpS_cond (t := true) (by simp [Act.eval, Array.replicate]) ?_
  simp only [if_true]
  apply wpS_seq
  apply wpS_region
  simp [wpOpsS, go_sem, Exit.thenS, assert_code, recoverD]
  apply wpS_seq
  apply wpS_seq
  apply wpS_region
  simp [wpOpsS, go_sem, Exit.thenS, recoverD]
  refine wpS_cond (t := false) (by simp [Act.eval, Array.replicate]) ?_
  simp only [Bool.false_eq_true, if_false]
  refine wpS_of_wp (wp_skip ?_)
  simp only [Exit.thenS]
  apply wpS_region
  simp [wpOpsS, go_sem, hsf, f0, k0, k1, k2, k3, k4, k5, k6, k7, e0, ef, recoverD, bodyPostS, results, Tryz.results27]

/-- the two boxes of ikey.Get -/
structure KB (w W : World) (cs : List Value) (e : Int) : Prop where
  bl : Bl w W
  r : AC W w.heap.size cs
  t : AC W (w.heap.size + 1) [.int .i64 e]
theorem KB.keep {w W W' : World} {cs : List Value} {e : Int} (h : KB w W cs e) (k : Bl W W') : KB w W' cs e := ⟨h.bl.trans k, h.r.keep k, h.t.keep k⟩
theorem KB.new (w : World) (T U : TypeId) (cs : List Value) (e : Int) : KB w ((w.alloc (.cells cs.toArray T)).alloc (.cells #[.int .i64 e] U)) cs e :=
  ⟨((Bl.refl w).alloc _).alloc _, (AC.new w _ rfl cs T).keep ((Bl.refl _).alloc _), AC.new _ (w.heap.size + 1) (by simp) [.int .i64 e] U⟩
theorem KB.set {w W : World} {d0 d1 d2 d3 d4 d5 d6 d7 : Value} {e0 : Int} (h : KB w W [d0, d1, d2, d3, d4, d5, d6, d7] e0) (c0 c1 c2 c3 c4 c5 c6 c7 : Value) (e : Int) :
    KB w (((((((((W.setCell ⟨w.heap.size, 0, none⟩ c0).setCell ⟨w.heap.size, 1, none⟩ c1).setCell ⟨w.heap.size, 2, none⟩ c2).setCell ⟨w.heap.size, 3, none⟩ c3).setCell ⟨w.heap.size, 4, none⟩ c4).setCell ⟨w.heap.size, 5, none⟩ c5).setCell ⟨w.heap.size, 6, none⟩ c6).setCell ⟨w.heap.size, 7, none⟩ c7).setCell ⟨w.heap.size + 1, 0, none⟩ (.int .i64 e)) [c0, c1, c2, c3, c4, c5, c6, c7] e :=
  ⟨(h.bl.store8 (Nat.le_refl _) c0 c1 c2 c3 c4 c5 c6 c7).setCell (p := ⟨w.heap.size + 1, 0, none⟩) (Nat.le_succ _) _, (h.r.set8 c0 c1 c2 c3 c4 c5 c6 c7).other (by omega), (h.t.other8 (by omega) c0 c1 c2 c3 c4 c5 c6 c7).setj 0 _⟩
theorem kget_results {tmps : Array Value} {W : World} {g0 g1 : Nat} {c0 c1 c2 c3 c4 c5 c6 c7 : Value} {v1 : Int} (h0 : tmps.getD 2 undef = .pointer (some ⟨g0, 0, none⟩)) (h1 : tmps.getD 3 undef = .pointer (some ⟨g1, 0, none⟩))
    (hc : AC W g0 [c0, c1, c2, c3, c4, c5, c6, c7]) (d1 : AC W g1 [.int .i64 v1]) :
    (results Tryz.f8 tmps).run Tryz.prog W = .ok (.tuple #[.agg #[c0, c1, c2, c3, c4, c5, c6, c7], .int .i64 v1]) W := by
  rw [Array.getD_eq_getD_getElem?] at h0 h1
  have k0 := hc.cell 0 _ rfl
  have k1 := hc.cell 1 _ rfl
  have k2 := hc.cell 2 _ rfl
  have k3 := hc.cell 3 _ rfl
  have k4 := hc.cell 4 _ rfl
  have k5 := hc.cell 5 _ rfl
  have k6 := hc.cell 6 _ rfl
  have k7 := hc.cell 7 _ rfl
  have k8 := d1.cell 0 _ rfl
  simp [results, Tryz.results8, go_sem, h0, h1, k0, k1, k2, k3, k4, k5, k6, k7, k8]

def KGPost (w : World) (l : List UInt8) (e : Ending) (w' : World) : Prop :=
  (∃ (key : ByteArray) (a : Option Addr) (n ca : Nat) (xs : List Int) (o t : Int), e = .returned (.tuple #[.agg #[.string key, .slice a n ca, .int .i64 o, .int .i64 t, .int .i64 0, .float .f64 0, .int .i64 0, .string ⟨#[]⟩], .int .i64 0]) ∧ FarO w.heap.size w' a n ca xs ∧ Bl w w' ∧
    ValidK ⟨key, xs, o, t, ⟨0, 0, 0, ⟨#[]⟩⟩⟩ ∧ putK ⟨key, xs, o, t, ⟨0, 0, 0, ⟨#[]⟩⟩⟩ = l) ∨
  (e = .returned (.tuple #[.agg #[.string ⟨#[]⟩, .slice none 0 0, .int .i64 0, .int .i64 0, .int .i64 0, .float .f64 0, .int .i64 0, .string ⟨#[]⟩], .int .i64 4]) ∧ Bl w w' ∧ ∀ V, ValidK V → putK V ≠ l)
set_option maxHeartbeats 1600000 in
set_option maxRecDepth 100000 in
theorem kget_any (s : ByteArray) (l : List UInt8) (w : World) (hs : SB s l) (hz : l.length ≤ 1000000) :
    Calls Tryz.prog 8 #[.string s] w (KGPost w l) := by
  have hmf := hmf
  have hsf := store_float
  have H := Lib.hid (fun w => kread_any s l w hs hz)
  clear hs
  go_enter_defers Tryz.func8, Tryz.ntmps8
  go_wp2_with fail
  have G := KB.new w 28 48 [.string ⟨#[]⟩, .slice none 0 0, .int .i64 0, .int .i64 0, .int .i64 0, .float .f64 0, .int .i64 0, .string ⟨#[]⟩] 0
  have hsz : w.heap.size + 2 ≤ ((w.alloc (.cells #[.string ⟨#[]⟩, .slice none 0 0, .int .i64 0, .int .i64 0, .int .i64 0, .float .f64 0, .int .i64 0, .string ⟨#[]⟩] 28)).alloc (.cells #[.int .i64 0] 48)).heap.size := by simp
  generalize (w.alloc (.cells #[.string ⟨#[]⟩, .slice none 0 0, .int .i64 0, .int .i64 0, .int .i64 0, .float .f64 0, .int .i64 0, .string ⟨#[]⟩] 28)).alloc (.cells #[.int .i64 0] 48) = W at *
  refine (H.out _).mono ?_
  rintro e w1 (⟨key, a, n, ca, xs, o, t, rfl, hF, hb1, hv, hp⟩ | ⟨rfl, hb1, hno⟩)
  · have G := G.keep hb1
    clear hb1
    have fr := G.r.frozen
    have k0 := G.r.cell 0 _ rfl
    have k1 := G.r.cell 1 _ rfl
    have k2 := G.r.cell 2 _ rfl
    have k3 := G.r.cell 3 _ rfl
    have k4 := G.r.cell 4 _ rfl
    have k5 := G.r.cell 5 _ rfl
    have k6 := G.r.cell 6 _ rfl
    have k7 := G.r.cell 7 _ rfl
    have H4 := G.t.other8 (g' := w.heap.size) (by omega) (.string key) (.slice a n ca) (.int .i64 o) (.int .i64 t) (.int .i64 0) (.float .f64 0) (.int .i64 0) (.string ⟨#[]⟩)
    have e0 := H4.cell 0 _ rfl
    have ef := H4.frozen 0
    go_wp2_with fail
    refine leaves_cons (f := 27) (args := #[.pointer (some ⟨w.heap.size, 0, none⟩), .pointer (some ⟨w.heap.size + 1, 0, none⟩)]) (by simp) (by simp [go_sem]) ?_
    refine (kcatch_idle _ _ _).mono ?_
    rintro e u' w'' ⟨rfl, rfl, rfl⟩
    have G2 := G.set (.string key) (.slice a n ca) (.int .i64 o) (.int .i64 t) (.int .i64 0) (.float .f64 0) (.int .i64 0) (.string ⟨#[]⟩) 0
    exact leaves_ret (kget_results rfl rfl G2.r G2.t) (.inl ⟨key, a, n, ca, xs, o, t, rfl, ((hF.set8 (by omega) (.string key) (.slice a n ca) (.int .i64 o) (.int .i64 t) (.int .i64 0) (.float .f64 0) (.int .i64 0) (.string ⟨#[]⟩)).set (by omega) 0 _).mono (by omega), G2.bl, hv, hp⟩)
  · unfold kpanE
    have G := G.keep hb1
    clear hb1
    refine leaves_cons (f := 27) (args := #[.pointer (some ⟨w.heap.size, 0, none⟩), .pointer (some ⟨w.heap.size + 1, 0, none⟩)]) (by simp) (by simp [go_sem]) ?_
    refine (kcatch_code w.heap.size (w.heap.size + 1) 4 _ [] _ _ _ _ _ _ _ _ _ G.r G.t (by omega)).mono ?_
    rintro e u' w'' ⟨rfl, rfl, rfl⟩
    have G := G.set (.string ⟨#[]⟩) (.slice none 0 0) (.int .i64 0) (.int .i64 0) (.int .i64 0) (.float .f64 0) (.int .i64 0) (.string ⟨#[]⟩) 4
    exact leaves_back (kget_results rfl rfl G.r G.t) (.inr ⟨rfl, G.bl, hno⟩)
end Go.Proofs.YtkgpkkdcadkpmaaGreatDoor
end

/- bedrockref1.Get. By an AI agent. -/
section
set_option linter.unusedVariables false
set_option linter.unusedSimpArgs false
namespace Go.Proofs.YtkgpkkdcadkpmaaGreatDoor
open Go.RowKit

set_option maxHeartbeats 800000 in
set_option maxRecDepth 100000 in
theorem refGet_any (s : ByteArray) (w : World) (h1 : 1 ≤ s.size) (h7 : s.size ≤ 7) :
    Calls Tryz.prog 29 #[.string s] w fun e w' => e = .returned (.tuple #[.int .i64 (getN s.data.toList), .int .i64 0]) ∧ w = w' := by
  go_enter Tryz.func29, Tryz.ntmps29
  go_wp2_with fail
  go_loop [4, 5] (fun v i => ∃ (k : Nat) (a : Int), k ≤ s.size ∧ i = .int .i64 k ∧ v = .int .i64 a ∧ a = getN (s.data.toList.take k)) (fun _ i => s.size - (intOf i).toNat)
  case atStart => exact ⟨0, 0, Nat.zero_le _, rfl, rfl, rfl⟩
  case round =>
    obtain ⟨k, a, hk, rfl, rfl, ha⟩ := hrel
    have hbd := getN_bound (s.data.toList.take k)
    rw [← ha] at hbd
    have HA := Lib.hid ha; clear ha
    by_cases hlt : k < s.size
    · have h6 : a < 281474976710656 := by
        have h2 := hbd.2
        have : (s.data.toList.take k).length ≤ 6 := Nat.le_trans (List.length_take_le _ _) (by omega)
        have h3 : (256 : Int) ^ (s.data.toList.take k).length ≤ 256 ^ 6 := by
          have := Nat.pow_le_pow_right (show 0 < 256 by decide) this
          exact_mod_cast this
        omega
      have h0 := hbd.1
      clear hbd
      have HT := Lib.hid (getN_take hlt)
      have hb := Lib.hid (UInt8.toNat_lt s[k])
      go_wp2_with fail
      go_round
      case rel => exact ⟨k + 1, _, by omega, by go_num, rfl, by rw [HT.out, HA.out.symm]; have := hb.out; unfold wrap64; omega⟩
      case measure => simp [intOf]; omega
    · have HE := Lib.hid (show s.data.toList.take k = s.data.toList from List.take_of_length_le (by simp; omega))
      go_wp2_with fail
      go_ret2
      exact ⟨ret_int_ok (HA.out.trans (congrArg getN HE.out)), rfl⟩
end Go.Proofs.YtkgpkkdcadkpmaaGreatDoor
end

/- bedrockref3.Get. By an AI agent. -/
section
set_option linter.unusedVariables false
set_option linter.unusedSimpArgs false
namespace Go.Proofs.YtkgpkkdcadkpmaaGreatDoor
open Go.RowKit

theorem el_int : EL 23 3 1 8 := el_of Tryz.underlying23 (by kernel_rfl) (by decide)
theorem rget3_nil (w : World) : Calls Tryz.prog 30 #[.string ⟨#[]⟩] w (RdPostC w []) := by
  go_enter Tryz.func30, Tryz.ntmps30
  go_wp2_with fail
  go_ret3
  exact .inr ⟨rfl, rfl, Bl.refl _⟩
set_option maxHeartbeats 3200000 in
set_option maxRecDepth 100000 in
theorem rget3_bad (s : ByteArray) (d : UInt8) (m : List UInt8) (w : World) (hs : s = strL (d :: m)) (n : Nat) (hdn : d.toNat = n) (hm : m.length ≤ 1900000) (hd : (n < 1 ∨ 8 < n) ∨ m.length < 6 * n) : Calls Tryz.prog 30 #[.string s] w (RdPostC w (d :: m)) := by
  have hsz : s.size = m.length + 1 := by rw [hs, strL_size]; simp
  have hz : 0 < s.size := by omega
  have h0 : (s[0]'hz).toNat = n := by subst hs; exact hdn
  have HR : Hid (rdV (d :: m) = none) := Lib.hid (by rw [rdV_cons, if_neg (by omega)])
  have hnb : n ≤ 255 := by have := UInt8.toNat_lt d; omega
  have HC0 : Hid (codeV (d :: m) = if n < 1 ∨ 8 < n then 4 else 3) := Lib.hid (by rw [codeV_cons, hdn])
  clear hs hdn
  by_cases hn : n < 1 ∨ 8 < n
  · clear hd
    have HCD : Hid (codeV (d :: m) = 4) := Lib.hid (by rw [HC0.out, if_pos hn])
    rcases hn with h | h
    · go_enter Tryz.func30, Tryz.ntmps30
      go_wp2_with fail
      go_ret3
      exact .inr ⟨HR.out, by rw [HCD.out]; rfl, Bl.refl _⟩
    · go_enter Tryz.func30, Tryz.ntmps30
      go_wp2_with fail
      go_ret3
      exact .inr ⟨HR.out, by rw [HCD.out]; rfl, Bl.refl _⟩
  · have h1 : 1 ≤ n := by omega
    have h8 : n ≤ 8 := by omega
    have hlt : m.length < 6 * n := by omega
    have HCD : Hid (codeV (d :: m) = 3) := Lib.hid (by rw [HC0.out, if_neg hn])
    clear hd hn
    go_enter Tryz.func30, Tryz.ntmps30
    go_wp2_with fail
    go_ret3
    exact .inr ⟨HR.out, by rw [HCD.out]; rfl, Bl.refl _⟩
set_option maxHeartbeats 3200000 in
set_option maxRecDepth 100000 in
theorem rget3_loop (s : ByteArray) (d : UInt8) (m : List UInt8) (w : World) (hs : s = strL (d :: m)) (n : Nat) (hdn : d.toNat = n) (h1 : 1 ≤ n) (h8 : n ≤ 8) (hm : m.length ≤ 1900000) (hlt : 6 * n ≤ m.length) : Calls Tryz.prog 30 #[.string s] w (RdPostC w (d :: m)) := by
  have hsz : s.size = m.length + 1 := by rw [hs, strL_size]; simp
  have hz : 0 < s.size := by omega
  have h0 : (s[0]'hz).toNat = n := by subst hs; exact hdn
  have HX : Hid (∀ k, s.extract (1 + 6 * k) (7 + 6 * k) = strL ((m.drop (6 * k)).take 6)) := Lib.hid (fun k => by
    subst hs
    rw [strL_ext, show 1 + 6 * k = 6 * k + 1 by omega, List.drop_succ_cons]
    congr 2
    omega)
  have HR : Hid (rdV (d :: m) = some (valsL n m, m.drop (6 * n))) := Lib.hid (by rw [rdV_cons, hdn, if_pos (by omega)])
  clear hs hdn
  go_enter Tryz.func30, Tryz.ntmps30
  go_wp2_with fail
  clear h0 hz
  go_loopw [6, 7] (fun sv i wr => ∃ (k : Nat) (acc : List Int), k ≤ n ∧ i = .int .i64 k ∧ OI w.heap.size wr sv acc ∧ Bl w wr ∧ acc = valsL k m) (fun _ i _ => n - (intOf i).toNat)
  case atStart => exact ⟨0, [], Nat.zero_le _, rfl, OI.nil _ _, Bl.refl _, rfl⟩
  case round =>
    obtain ⟨k, acc, hk, rfl, hoi, hb, hacc⟩ := hrel
    have HA := Lib.hid hacc
    have hal : acc.length = k := by rw [hacc, valsL_len]
    have HO := Lib.hid hoi
    have HB := Lib.hid hb
    clear hacc hoi hb
    by_cases hk2 : k < n
    · have hl6 : ((m.drop (6 * k)).take 6).length = 6 := by rw [List.length_take, List.length_drop]; omega
      have HXk := Lib.hid (HX.out k)
      have HG := Lib.hid (fun w => refGet_any (strL ((m.drop (6 * k)).take 6)) w (by rw [strL_size, hl6]; omega) (by rw [strL_size, hl6]; omega))
      rw [show (strL ((m.drop (6 * k)).take 6)).data.toList = (m.drop (6 * k)).take 6 from rfl] at HG
      have HGB := Lib.hid (get6_bound (m.drop (6 * k)))
      have HS := Lib.hid (valsL_succ k m)
      generalize getN ((m.drop (6 * k)).take 6) = x at *
      generalize strL ((m.drop (6 * k)).take 6) = sx at *
      clear hl6
      have hxk := HXk.out
      go_wp2_with fail
      refine (HG.out _).mono ?_
      rintro e w1 ⟨rfl, rfl⟩
      have hsz2 := HB.out.size
      go_wp2_with (at_builtin; refine wpList_appG rfl _ _ _ rfl el_int w.heap.size _ acc.length _ rfl (ownsRow_bl HO.out ((Bl.refl wr).alloc _)) ?c1 _ 1 1 [.int .i64 x] rfl (SG.lit (heap_alloc_new _ _) rfl (by simp [Value.oneCell'])) ?c2 ?c3 ?_)
      case c1 => simp; omega
      case c2 => unfold maxLen; omega
      case c3 => omega
      intro v' w2 ho2 hg2
      have hb2 := Lib.hid (Bl.ownRow (HB.out.alloc (.cells #[.int .i64 x] 3)) (ownsRow_bl HO.out ((Bl.refl wr).alloc _)) (Nat.le_refl _) hg2)
      have HO2 : Hid (OI w.heap.size w2 v' (acc ++ [x])) := Lib.hid (by
        unfold OI
        rw [List.length_append, List.map_append, hal]
        exact ho2)
      clear ho2 hg2
      go_wp2_with fail
      go_roundw
      case rel => exact ⟨k + 1, acc ++ [x], by omega, by go_num, HO2.out, hb2.out, by rw [HS.out, HA.out]⟩
      case measure => simp [intOf]; omega
    · obtain rfl : k = n := by omega
      go_wp2_with fail
      go_ret3
      refine .inl ⟨acc, m.drop (6 * k), _, by rw [HA.out]; exact HR.out, ?_, ⟨HO.out, by omega, fun y hy => ?_⟩, HB.out⟩
      · rw [hal]; simp
      · rw [HA.out] at hy
        have := valsL_bound _ _ y hy
        omega
theorem rget3_c (l : List UInt8) (w : World) (hz : l.length ≤ 1900000) : Calls Tryz.prog 30 #[.string (strL l)] w (RdPostC w l) := by
  cases l with
  | nil => exact rget3_nil w
  | cons d m =>
    rw [List.length_cons] at hz
    by_cases hd : (d.toNat < 1 ∨ 8 < d.toNat) ∨ m.length < 6 * d.toNat
    · exact rget3_bad _ d m w rfl _ rfl (by omega) hd
    · exact rget3_loop _ d m w rfl d.toNat rfl (by omega) (by omega) (by omega) (by omega)
end Go.Proofs.YtkgpkkdcadkpmaaGreatDoor
end
