import Derived.Test.YtibabgokmacnaaaGreatQProtoAsksUptoP19
import Derived.Test.YtibabgokmacnaaaGreatQProtoAsksUptoP1
import Derived.Deep.QuietTactic
import Derived.BigQuiet

/- proto.safely of a request, proto.GetAsk. By an AI agent. -/
section
set_option linter.unusedVariables false
set_option linter.unusedSimpArgs false
namespace Go.Proofs.YtibabgokmacnaaaGreat
open Go.RowKit

theorem scatch_idle (a0 a1 : Addr) (w : World) :
    CallsD Tryz.prog 212 #[.pointer (some a0), .pointer (some a1)] .returning w fun e u' w' => e = .returned (.tuple #[]) ∧ u' = .returning ∧ w' = w := by
  refine callsD_of_wpS Tryz.func212 rfl fun c₀ cs hu => ?_
  apply wpS_seq
  apply wpS_region
  simp [wpOpsS, go_sem, recoverD, hu, Tryz.ntmps212, Exit.thenS]
  apply wpS_seq
  apply wpS_region
  simp [wpOpsS, go_sem, Exit.thenS]
  refine wpS_cond (t := false) (by simp [Act.eval, Array.replicate]) ?_
  simp only [Bool.false_eq_true, if_false]
  refine wpS_of_wp (wp_skip ?_)
  cases c₀
  simp_all [bodyPostS, results, Tryz.results212]

set_option maxHeartbeats 1600000 in
set_option maxRecDepth 100000 in
theorem scatch_code (g0 g1 : Nat) (c : Int) (v1 : Value) (older : List PanicEntry) (w : World) (h0 : AC w g0 zeroAskCs) (h1 : AC w g1 [v1]) (n01 : g0 ≠ g1) :
    CallsD Tryz.prog 212 #[.pointer (some ⟨g0, 0, none⟩), .pointer (some ⟨g1, 0, none⟩)] (.panicking ({ v := .iface 47 (.int .i64 c), recovered := false } :: older)) w fun e u' w' =>
      e = .returned (.tuple #[]) ∧ u' = .panicking ({ v := .iface 47 (.int .i64 c), recovered := true } :: older) ∧ w' = (fill (w.alloc (.cells zeroAskCs.toArray 78)) g0 0 zeroAskCs).setCell ⟨g1, 0, none⟩ (.int .i64 c) := by
  have hsf := store_float
  have h2 := AC.new w w.heap.size rfl zeroAskCs 78
  have hk := h0.keep ((Bl.refl w).alloc (.cells zeroAskCs.toArray 78))
  have hk1 := h1.keep ((Bl.refl w).alloc (.cells zeroAskCs.toArray 78))
  have H4 := AC.fillOther (Ne.symm n01) zeroAskCs _ 0 hk1
  have f0 := hk.frozen
  obtain ⟨k0, k1, k2, k3, k4, k5, k6, k7, k8, k9, k10, k11⟩ := AC.ask hk
  obtain ⟨d0, d1, d2, d3, d4, d5, d6, d7, d8, d9, d10, d11⟩ := AC.ask h2
  have e0 := H4.cell 0 _ rfl
  have ef := H4.frozen 0
  simp only [zeroAskCs, askCs, fill] at *
  refine callsD_of_wpS Tryz.func212 rfl fun c₀ cs hu => ?_
  apply wpS_seq
  apply wpS_region
  simp [wpOpsS, go_sem, recoverD, hu, Tryz.ntmps212, Exit.thenS]
  apply wpS_seq
  apply wpS_region
  simp [wpOpsS, go_sem, Exit.thenS]
  refine wpS_cond (t := true) (by simp [Act.eval, Array.replicate]) ?_
  simp only [if_true]
  apply wpS_seq
  apply wpS_region
  simp [wpOpsS, go_sem, Exit.thenS, assert_code, recoverD]
  apply wpS_seq
  apply wpS_seq
  apply wpS_region
  simp [wpOpsS, go_sem, Exit.thenS, recoverD]
  refine wpS_cond (t := false) (by simp [Act.eval, Array.replicate]) ?_
  simp only [Bool.false_eq_true, if_false]
  refine wpS_of_wp (wp_skip ?_)
  simp only [Exit.thenS]
  apply wpS_seq
  apply wpS_region
  simp [wpOpsS, go_sem, Exit.thenS, recoverD]
  clear h0 h1 h2 hk hk1 H4
  generalize w.alloc (.cells #[.int .i64 0, .int .i64 0, .int .i64 0, .int .i64 0, .int .i64 0, .slice none 0 0, .string ⟨#[]⟩, .string ⟨#[]⟩, .int .i64 0, .float .f64 0, .int .i64 0, .string ⟨#[]⟩] 78) = W at *
  apply wpS_region
  simp [wpOpsS, go_sem, hsf, f0, k0, k1, k2, k3, k4, k5, k6, k7, k8, k9, k10, k11, d0, d1, d2, d3, d4, d5, d6, d7, d8, d9, d10, d11, e0, ef, recoverD, bodyPostS, results, Tryz.results212]

/-- the two boxes of safely -/
structure SF (w W : World) (cs : List Value) (e : Int) : Prop where
  bl : Bl w W
  r : AC W w.heap.size cs
  t : AC W (w.heap.size + 1) [.int .i64 e]
theorem SF.keep {w W W' : World} {cs : List Value} {e : Int} (h : SF w W cs e) (k : Bl W W') : SF w W' cs e := ⟨h.bl.trans k, h.r.keep k, h.t.keep k⟩
theorem SF.new (w : World) (T U : TypeId) (cs : List Value) (e : Int) : SF w ((w.alloc (.cells cs.toArray T)).alloc (.cells #[.int .i64 e] U)) cs e :=
  ⟨((Bl.refl w).alloc _).alloc _, (AC.new w _ rfl cs T).keep ((Bl.refl _).alloc _), AC.new _ (w.heap.size + 1) (by simp) [.int .i64 e] U⟩
theorem SF.set {w W : World} {cs : List Value} {e0 : Int} (h : SF w W cs e0) (vs : List Value) (hl : cs.length = vs.length) (e : Int) : SF w ((fill W w.heap.size 0 vs).setCell ⟨w.heap.size + 1, 0, none⟩ (.int .i64 e)) vs e :=
  ⟨(show Bl w _ from Bl.fill (Nat.le_refl _) vs _ 0 h.bl).setCell (p := ⟨w.heap.size + 1, 0, none⟩) (Nat.le_succ _) _, (h.r.fill vs hl).other (by omega), (AC.fillOther (by omega) vs _ 0 h.t).setj 0 _⟩
theorem safely_results {tmps : Array Value} {W : World} {g0 g1 : Nat} {k s t i m : Int} {ad : Option Addr} {n ca : Nat} {key text : ByteArray} {ak : Int} {ax : Nat} {an : Int} {az : ByteArray} {e : Int} (h0 : tmps.getD 2 undef = .pointer (some ⟨g0, 0, none⟩)) (h1 : tmps.getD 3 undef = .pointer (some ⟨g1, 0, none⟩))
    (hc : AC W g0 (askCs k s t i m ad n ca key text ak ax an az)) (d1 : AC W g1 [.int .i64 e]) :
    (results Tryz.f162 tmps).run Tryz.prog W = .ok (.tuple #[askV k s t i m ad n ca key text ak ax an az, .int .i64 e]) W := by
  rw [Array.getD_eq_getD_getElem?] at h0 h1
  obtain ⟨c0, c1, c2, c3, c4, c5, c6, c7, c8, c9, c10, c11⟩ := hc.ask
  have k8 := d1.cell 0 _ rfl
  simp [results, Tryz.results162, go_sem, h0, h1, c0, c1, c2, c3, c4, c5, c6, c7, c8, c9, c10, c11, k8, askV]
/-- what GetAsk comes to -/
def GetPostO (w : World) (l : List UInt8) (e : Ending) (w' : World) : Prop :=
  (∃ (a : AskL) (ad : Option Addr) (n ca : Nat), rdAsk l = some a ∧ e = .returned (.tuple #[askV a.kind a.ses a.tx a.id a.num ad n ca a.key a.text a.act.k a.act.x a.act.n a.act.s, .int .i64 0]) ∧ FarO w.heap.size w' ad n ca a.at_ ∧ Bl w w') ∨
  (rdAsk l = none ∧ e = .returned (.tuple #[askV 0 0 0 0 0 none 0 0 ⟨#[]⟩ ⟨#[]⟩ 0 0 0 ⟨#[]⟩, .int .i64 4]) ∧ Bl w w')
set_option maxHeartbeats 1600000 in
set_option maxRecDepth 100000 in
theorem safelyA_any (gb : Nat) (l : List UInt8) (w : World) (hg : C1 w gb (.string (strL l))) (hz : l.length ≤ 1000000) :
    Calls Tryz.prog 162 #[.func (.func 163) #[] #[.pointer (some ⟨gb, 0, none⟩)]] w (GetPostO w l) := by
  have hmf := hmf
  have hsf := store_float
  have H := Lib.hid (fun w hg => getAsk1_any gb l w hg hz)
  have G := SF.new w 78 47 zeroAskCs 0
  have hsz : w.heap.size + 2 ≤ ((w.alloc (.cells zeroAskCs.toArray 78)).alloc (.cells #[.int .i64 0] 47)).heap.size := by simp
  have hg2 := hg.keep G.bl
  clear hg
  unfold zeroAskCs askCs at G hsz hg2
  go_enter_defers Tryz.func162, Tryz.ntmps162
  go_wp2_with fail
  generalize (w.alloc (.cells #[.int .i64 0, .int .i64 0, .int .i64 0, .int .i64 0, .int .i64 0, .slice none 0 0, .string ⟨#[]⟩, .string ⟨#[]⟩, .int .i64 0, .float .f64 0, .int .i64 0, .string ⟨#[]⟩] 78)).alloc (.cells #[.int .i64 0] 47) = W at *
  have GH := Lib.hid G
  clear G
  refine (H.out _ hg2).mono ?_
  rintro e w1 (⟨⟨k, s, t, i, m, xs, key, text, ⟨ak, ax, an, az⟩⟩, ad, n, ca, hr, rfl, hF, hb1⟩ | ⟨hr, rfl, hb1⟩)
  · have HR := Lib.hid hr
    have G := GH.out.keep hb1
    have HF := Lib.hid (hF.mono hsz)
    clear hb1 hr hF hsz hg2 GH
    dsimp only at *
    unfold askV
    have fr := G.r.frozen
    have k0 := G.r.cell 0 _ rfl
    have k1 := G.r.cell 1 _ rfl
    have k2 := G.r.cell 2 _ rfl
    have k3 := G.r.cell 3 _ rfl
    have k4 := G.r.cell 4 _ rfl
    have k5 := G.r.cell 5 _ rfl
    have k6 := G.r.cell 6 _ rfl
    have k7 := G.r.cell 7 _ rfl
    have k8 := G.r.cell 8 _ rfl
    have k9 := G.r.cell 9 _ rfl
    have k10 := G.r.cell 10 _ rfl
    have k11 := G.r.cell 11 _ rfl
    have H4 := AC.fillOther (g := w.heap.size + 1) (g' := w.heap.size) (by omega) [.int .i64 k, .int .i64 s, .int .i64 t, .int .i64 i, .int .i64 m, .slice ad n ca, .string key, .string text, .int .i64 ak, .float .f64 ax, .int .i64 an, .string az] w1 0 G.t
    have e0 := H4.cell 0 _ rfl
    have ef := H4.frozen 0
    simp only [fill] at e0 ef
    have GH := Lib.hid G
    clear H4 G
    go_wp2_with fail
    refine leaves_cons (f := 212) (args := #[.pointer (some ⟨w.heap.size, 0, none⟩), .pointer (some ⟨w.heap.size + 1, 0, none⟩)]) (by simp) (by simp [go_sem]) ?_
    refine (scatch_idle _ _ _).mono ?_
    rintro e u' w'' ⟨rfl, rfl, rfl⟩
    have G2 := GH.out.set [.int .i64 k, .int .i64 s, .int .i64 t, .int .i64 i, .int .i64 m, .slice ad n ca, .string key, .string text, .int .i64 ak, .float .f64 ax, .int .i64 an, .string az] rfl 0
    have hF2 : FarO w.heap.size _ ad n ca xs := ((HF.out.fill (q := w.heap.size) (by omega) [.int .i64 k, .int .i64 s, .int .i64 t, .int .i64 i, .int .i64 m, .slice ad n ca, .string key, .string text, .int .i64 ak, .float .f64 ax, .int .i64 an, .string az] w1 0).set (q := w.heap.size + 1) (by omega) 0 (.int .i64 0)).mono (by omega)
    exact leaves_ret (safely_results rfl rfl G2.r G2.t) (.inl ⟨⟨k, s, t, i, m, xs, key, text, ⟨ak, ax, an, az⟩⟩, ad, n, ca, HR.out, rfl, hF2, G2.bl⟩)
  · have G := GH.out.keep hb1
    unfold panE
    clear hb1 hg2
    refine leaves_cons (f := 212) (args := #[.pointer (some ⟨w.heap.size, 0, none⟩), .pointer (some ⟨w.heap.size + 1, 0, none⟩)]) (by simp) (by simp [go_sem]) ?_
    refine (scatch_code w.heap.size (w.heap.size + 1) 4 _ [] _ G.r G.t (by omega)).mono ?_
    rintro e u' w'' ⟨rfl, rfl, rfl⟩
    have G := (G.keep ((Bl.refl _).alloc (.cells zeroAskCs.toArray 78))).set zeroAskCs rfl 4
    exact leaves_back (safely_results rfl rfl G.r G.t) (.inr ⟨hr, rfl, G.bl⟩)
theorem getAsk_results {tmps : Array Value} {W : World} {g0 : Nat} {k s t i m : Int} {ad : Option Addr} {n ca : Nat} {key text : ByteArray} {ak : Int} {ax : Nat} {an : Int} {az : ByteArray} {e : Int} (h0 : tmps.getD 2 undef = .pointer (some ⟨g0, 0, none⟩)) (h1 : tmps.getD 3 undef = .int .i64 e)
    (hc : AC W g0 (askCs k s t i m ad n ca key text ak ax an az)) :
    (results Tryz.f55 tmps).run Tryz.prog W = .ok (.tuple #[askV k s t i m ad n ca key text ak ax an az, .int .i64 e]) W := by
  rw [Array.getD_eq_getD_getElem?] at h0 h1
  obtain ⟨c0, c1, c2, c3, c4, c5, c6, c7, c8, c9, c10, c11⟩ := hc.ask
  simp [results, Tryz.results55, go_sem, h0, h1, c0, c1, c2, c3, c4, c5, c6, c7, c8, c9, c10, c11, askV]
set_option maxHeartbeats 1600000 in
set_option maxRecDepth 100000 in
theorem getAskO_any (l : List UInt8) (w : World) (hz : l.length ≤ 1000000) :
    Calls Tryz.prog 55 #[.string (strL l)] w (GetPostO w l) := by
  have hmf := hmf
  have hsf := store_float
  have hg := (C1.new w w.heap.size rfl (.string (strL l)) 9).keep ((Bl.refl _).alloc (.cells zeroAskCs.toArray 78))
  have hr := AC.new (w.alloc (.cells #[.string (strL l)] 9)) (w.heap.size + 1) (by simp) zeroAskCs 78
  have hb0 : Bl w ((w.alloc (.cells #[.string (strL l)] 9)).alloc (.cells zeroAskCs.toArray 78)) := ((Bl.refl w).alloc _).alloc _
  have hsz : w.heap.size + 2 ≤ ((w.alloc (.cells #[.string (strL l)] 9)).alloc (.cells zeroAskCs.toArray 78)).heap.size := by simp
  unfold zeroAskCs askCs at hg hr hb0 hsz
  have H := Lib.hid (fun w hg => safelyA_any w.heap.size l w hg hz)
  go_enter Tryz.func55, Tryz.ntmps55
  go_wp2_with fail
  generalize (w.alloc (.cells #[.string (strL l)] 9)).alloc (.cells #[.int .i64 0, .int .i64 0, .int .i64 0, .int .i64 0, .int .i64 0, .slice none 0 0, .string ⟨#[]⟩, .string ⟨#[]⟩, .int .i64 0, .float .f64 0, .int .i64 0, .string ⟨#[]⟩] 78) = W at *
  refine (safelyA_any w.heap.size l _ hg hz).mono ?_
  rintro e w1 (⟨⟨k, s, t, i, m, xs, key, text, ⟨ak, ax, an, az⟩⟩, ad, n, ca, hrd, rfl, hF, hb1⟩ | ⟨hrd, rfl, hb1⟩)
  · have HR := Lib.hid hrd
    have G := hr.keep hb1
    have HB := Lib.hid (hb0.trans hb1)
    have HF := Lib.hid (hF.mono hsz)
    clear hb1 hrd hF hsz hg hr hb0
    dsimp only at *
    unfold askV
    have fr := G.frozen
    obtain ⟨k0, k1, k2, k3, k4, k5, k6, k7, k8, k9, k10, k11⟩ := AC.ask G
    have GH := Lib.hid G
    clear G
    go_wp2_with fail
    refine bodyPost_ret (getAsk_results rfl rfl (GH.out.fill [.int .i64 k, .int .i64 s, .int .i64 t, .int .i64 i, .int .i64 m, .slice ad n ca, .string key, .string text, .int .i64 ak, .float .f64 ax, .int .i64 an, .string az] rfl)) rfl (.inl ⟨⟨k, s, t, i, m, xs, key, text, ⟨ak, ax, an, az⟩⟩, ad, n, ca, HR.out, rfl, ?_, ?_⟩)
    · exact (HF.out.fill (q := w.heap.size + 1) (by omega) [.int .i64 k, .int .i64 s, .int .i64 t, .int .i64 i, .int .i64 m, .slice ad n ca, .string key, .string text, .int .i64 ak, .float .f64 ax, .int .i64 an, .string az] w1 0).mono (by omega)
    · exact Bl.fill (Nat.le_succ _) [.int .i64 k, .int .i64 s, .int .i64 t, .int .i64 i, .int .i64 m, .slice ad n ca, .string key, .string text, .int .i64 ak, .float .f64 ax, .int .i64 an, .string az] _ 0 HB.out
  · have HR := Lib.hid hrd
    have G := hr.keep hb1
    have HB := Lib.hid (hb0.trans hb1)
    clear hb1 hrd hsz hg hr hb0
    unfold askV
    have fr := G.frozen
    obtain ⟨k0, k1, k2, k3, k4, k5, k6, k7, k8, k9, k10, k11⟩ := AC.ask G
    have GH := Lib.hid G
    clear G
    go_wp2_with fail
    refine bodyPost_ret (getAsk_results rfl rfl (GH.out.fill zeroAskCs rfl)) rfl (.inr ⟨HR.out, rfl, ?_⟩)
    exact Bl.fill (Nat.le_succ _) zeroAskCs _ 0 HB.out
/-- what GetAsk comes to -/
def GetPostA (w : World) (l : List UInt8) (e : Ending) (w' : World) : Prop :=
  (∃ (a : AskL) (ad : Option Addr) (n ca : Nat), rdAsk l = some a ∧ e = .returned (.tuple #[askV a.kind a.ses a.tx a.id a.num ad n ca a.key a.text a.act.k a.act.x a.act.n a.act.s, .int .i64 0]) ∧ FarIA w.heap.size w' ad n a.at_ ∧ Bl w w') ∨
  (rdAsk l = none ∧ e = .returned (.tuple #[askV 0 0 0 0 0 none 0 0 ⟨#[]⟩ ⟨#[]⟩ 0 0 0 ⟨#[]⟩, .int .i64 4]) ∧ Bl w w')
theorem getAsk_any (l : List UInt8) (w : World) (hz : l.length ≤ 1000000) :
    Calls Tryz.prog 55 #[.string (strL l)] w (GetPostA w l) := by
  refine (getAskO_any l w hz).mono ?_
  rintro e w' (⟨a, ad, n, ca, h1, h2, h3, h4⟩ | h)
  · exact .inl ⟨a, ad, n, ca, h1, h2, h3.far, h4⟩
  · exact .inr h
end Go.Proofs.YtibabgokmacnaaaGreat
end

/- vec.Leq, vec.Same. By an AI agent. -/
section
namespace Go.Proofs.YtibabgokmacnaaaGreat
open Go.RowKit

set_option maxHeartbeats 400000 in
theorem leq_any (a b : Option Addr) (n m ca cb : Nat) (xs ys : List Int) (w : World) (hx : IA w a n xs) (hy : IA w b m ys) :
    Calls Tryz.prog 24 #[.slice a n ca, .slice b m cb] w fun e w' => e = .returned (.bool (leqL xs ys)) ∧ w = w' := by
  have hx1 := hx.cap
  have hy1 := hy.cap
  by_cases hl : n = m
  · subst hl
    have HLL := Lib.hid (hx.len.trans hy.len.symm)
    have HX := Lib.hid hx.len
    have h2 : ((n : Int) != (n : Int)) = false := by simp
    go_enter Tryz.func24, Tryz.ntmps24
    go_wp2
    go_loop [14] (fun i => ∃ k : Nat, k ≤ n ∧ i = .int .i64 k ∧ ∀ j, j < k → nth xs j ≤ nth ys j) (fun i => n - (intOf i).toNat)
    case atStart => exact ⟨0, Nat.zero_le _, rfl, fun j h => by omega⟩
    case round =>
      obtain ⟨k, hk, rfl, hle⟩ := hrel
      have HLE := Lib.hid hle; clear hle
      by_cases hlt : k < n
      · obtain ⟨ba, oa, rfl, hca⟩ := hx.cells k hlt
        obtain ⟨bb, ob, rfl, hcb⟩ := hy.cells k hlt
        have ha := hca k hlt
        have hb := hcb k hlt
        clear hca hcb
        by_cases hgt : nth ys k < nth xs k
        · have HR := Lib.hid (leqL_false HLL.out (by rw [HX.out]; exact hlt) hgt)
          go_wp2
          go_ret
          exact ⟨ret_bool HR.out.symm, rfl⟩
        · go_wp2
          go_round
          case rel => exact ⟨k + 1, by omega, by go_num, fun j hj => by
            by_cases e : j = k
            · subst e; omega
            · exact HLE.out j (by omega)⟩
          case measure => simp [intOf]; omega
      · have HR := Lib.hid ((leqL_iff HLL.out).2 (fun j hj => HLE.out j (by rw [HX.out] at hj; omega)))
        go_wp2
        go_ret
        exact ⟨ret_bool HR.out.symm, rfl⟩
  · have h2 : ((n : Int) != (m : Int)) = true := by simp; omega
    have HR := Lib.hid (leqL_len (xs := xs) (ys := ys) (by rw [hx.len, hy.len]; exact hl))
    go_enter Tryz.func24, Tryz.ntmps24
    go_wp2
    go_ret
    exact ⟨ret_bool HR.out.symm, rfl⟩

set_option maxHeartbeats 400000 in
theorem equal_any (a b : Option Addr) (n m ca cb : Nat) (xs ys : List Int) (w : World) (hx : IA w a n xs) (hy : IA w b m ys) :
    Calls Tryz.prog 72 #[.slice a n ca, .slice b m cb] w fun e w' => e = .returned (.bool (decide (xs = ys))) ∧ Bl w w' := by
  have hx1 := hx.cap
  have hy1 := hy.cap
  by_cases hl : n = m
  · subst hl
    have HLL := Lib.hid (hx.len.trans hy.len.symm)
    have HX := Lib.hid hx.len
    have h2 : ((n : Int) != (n : Int)) = false := by simp
    go_enter Tryz.func72, Tryz.ntmps72
    go_wp2
    go_loopw [13] (fun i w' => ∃ k : Nat, k ≤ n ∧ i = .int .i64 k ∧ Bl w w' ∧ ∀ j, j < k → nth xs j = nth ys j) (fun i _ => n - (intOf i).toNat)
    case atStart => exact ⟨0, Nat.zero_le _, rfl, Bl.refl _, fun j h => by omega⟩
    case round =>
      obtain ⟨k, hk, rfl, hbl, hle⟩ := hrel
      have HLE := Lib.hid hle; clear hle
      by_cases hlt : k < n
      · obtain ⟨ba, oa, rfl, hca⟩ := hx.cells k hlt
        obtain ⟨bb, ob, rfl, hcb⟩ := hy.cells k hlt
        have ha := hbl.cell (hca k hlt)
        have hb := hbl.cell (hcb k hlt)
        clear hca hcb
        by_cases hgt : nth xs k = nth ys k
        · have hbo : (nth xs k != nth ys k) = false := by simp [hgt]
          have HE := Lib.hid hgt; clear hgt
          go_wp2
          go_quiet (fail)
          go_wp2
          go_roundw
          case rel => exact ⟨k + 1, by omega, by go_num, hbl.drewN _, fun j hj => by
            by_cases e : j = k
            · subst e; exact HE.out
            · exact HLE.out j (by omega)⟩
          case measure => simp [intOf]; omega
        · have hbo : (nth xs k != nth ys k) = true := by simp [hgt]
          have HR := Lib.hid (show decide (xs = ys) = false from decide_eq_false (fun e => hgt (by rw [e])))
          clear hgt
          go_wp2
          go_quiet (fail)
          go_wp2
          go_ret
          exact ⟨ret_bool HR.out.symm, hbl.drewN _⟩
      · have HR := Lib.hid (show decide (xs = ys) = true from decide_eq_true (getD_ext HLL.out (fun j hj => HLE.out j (by rw [HX.out] at hj; omega))))
        go_wp2
        go_ret
        exact ⟨ret_bool HR.out.symm, hbl⟩
  · have h2 : ((n : Int) != (m : Int)) = true := by simp; omega
    have HR := Lib.hid (show decide (xs = ys) = false from decide_eq_false (fun e => hl (by rw [← hx.len, ← hy.len, e])))
    go_enter Tryz.func72, Tryz.ntmps72
    go_wp2
    go_ret
    exact ⟨ret_bool HR.out.symm, Bl.refl _⟩

theorem same_any (a b : Option Addr) (n m ca cb : Nat) (xs ys : List Int) (w : World) (hx : IA w a n xs) (hy : IA w b m ys) :
    Calls Tryz.prog 26 #[.slice a n ca, .slice b m cb] w fun e w' => e = .returned (.bool (decide (xs = ys))) ∧ Bl w w' := by
  go_enter Tryz.func26, Tryz.ntmps26
  go_wp2_with fail
  refine (equal_any a b n m ca cb xs ys _ hx hy).mono ?_
  rintro e w' ⟨rfl, hb⟩
  go_wp2
  go_ret
  exact ⟨rfl, hb⟩

end Go.Proofs.YtibabgokmacnaaaGreat
end
