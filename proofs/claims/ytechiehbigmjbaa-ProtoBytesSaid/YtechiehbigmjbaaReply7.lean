/- proto.safely of an answer, proto.GetReply. By an AI agent. -/
import Derived.Test.YtechiehbigmjbaaProt8
import Derived.Test.YtechiehbigmjbaaReply6
set_option linter.unusedVariables false
set_option linter.unusedSimpArgs false
namespace Go.Proofs.Ytechiehbigmjbaa
open Go.RowKit

theorem rcatch_idle (a0 a1 : Addr) (w : World) :
    CallsD Try.prog 166 #[.pointer (some a0), .pointer (some a1)] .returning w fun e u' w' => e = .returned (.tuple #[]) ∧ u' = .returning ∧ w' = w := by
  refine callsD_of_wpS Try.func166 rfl fun c₀ cs hu => ?_
  apply wpS_seq
  apply wpS_region
  simp [wpOpsS, go_sem, recoverD, hu, Try.ntmps166, Exit.thenS]
  apply wpS_seq
  apply wpS_region
  simp [wpOpsS, go_sem, Exit.thenS]
  refine wpS_cond (t := false) (by simp [Act.eval, Array.replicate]) ?_
  simp only [Bool.false_eq_true, if_false]
  refine wpS_of_wp (wp_skip ?_)
  cases c₀
  simp_all [bodyPostS, results, Try.results166]

set_option maxHeartbeats 1600000 in
set_option maxRecDepth 100000 in
theorem rcatch_code (g0 g1 : Nat) (c : Int) (v1 : Value) (older : List PanicEntry) (w : World) (h0 : AC w g0 zeroRepCs) (h1 : AC w g1 [v1]) (n01 : g0 ≠ g1) :
    CallsD Try.prog 166 #[.pointer (some ⟨g0, 0, none⟩), .pointer (some ⟨g1, 0, none⟩)] (.panicking ({ v := .iface 26 (.int .i64 c), recovered := false } :: older)) w fun e u' w' =>
      e = .returned (.tuple #[]) ∧ u' = .panicking ({ v := .iface 26 (.int .i64 c), recovered := true } :: older) ∧ w' = (fill (w.alloc (.cells zeroRepCs.toArray 94)) g0 0 zeroRepCs).setCell ⟨g1, 0, none⟩ (.int .i64 c) := by
  have hsf := store_float
  have h2 := AC.new w w.heap.size rfl zeroRepCs 94
  have hk := h0.keep ((Bl.refl w).alloc (.cells zeroRepCs.toArray 94))
  have hk1 := h1.keep ((Bl.refl w).alloc (.cells zeroRepCs.toArray 94))
  have H4 := AC.fillOther (Ne.symm n01) zeroRepCs _ 0 hk1
  have f0 := hk.frozen
  obtain ⟨k0, k1, k2, k3, k4, k5, k6, k7, k8⟩ := AC.rep hk
  obtain ⟨d0, d1, d2, d3, d4, d5, d6, d7, d8⟩ := AC.rep h2
  have e0 := H4.cell 0 _ rfl
  have ef := H4.frozen 0
  simp only [zeroRepCs, repCs, fill] at *
  refine callsD_of_wpS Try.func166 rfl fun c₀ cs hu => ?_
  apply wpS_seq
  apply wpS_region
  simp [wpOpsS, go_sem, recoverD, hu, Try.ntmps166, Exit.thenS]
  apply wpS_seq
  apply wpS_region
  simp [wpOpsS, go_sem, Exit.thenS]
  refine wpS_cond (t := true) (by simp [Act.eval, Array.replicate]) ?_
  simp only [if_true]
  apply wpS_seq
  apply wpS_region
  simp [wpOpsS, go_sem, Exit.thenS, assert_code, recoverD]
  apply wpS_seq
  apply wpS_seq
  apply wpS_region
  simp [wpOpsS, go_sem, Exit.thenS, recoverD]
  refine wpS_cond (t := false) (by simp [Act.eval, Array.replicate]) ?_
  simp only [Bool.false_eq_true, if_false]
  refine wpS_of_wp (wp_skip ?_)
  simp only [Exit.thenS]
  apply wpS_seq
  apply wpS_region
  simp [wpOpsS, go_sem, Exit.thenS, recoverD]
  clear h0 h1 h2 hk hk1 H4
  generalize w.alloc (.cells #[.int .i64 0, .int .i64 0, .slice none 0 0, .bool false, .float .f64 0, .int .i64 0, .string ⟨#[]⟩, .slice none 0 0, .string ⟨#[]⟩] 94) = W at *
  apply wpS_region
  simp [wpOpsS, go_sem, hsf, f0, k0, k1, k2, k3, k4, k5, k6, k7, k8, d0, d1, d2, d3, d4, d5, d6, d7, d8, e0, ef, recoverD, bodyPostS, results, Try.results166]

theorem rsafely_results {tmps : Array Value} {W : World} {g0 g1 : Nat} {code num : Int} {ad : Option Addr} {n ca : Nat} {t : Bool} {x : Nat} {m : Int} {s : ByteArray} {pd : Option Addr} {pn pc : Nat} {text : ByteArray} {e : Int} (h0 : tmps.getD 2 undef = .pointer (some ⟨g0, 0, none⟩)) (h1 : tmps.getD 3 undef = .pointer (some ⟨g1, 0, none⟩))
    (hc : AC W g0 (repCs code num ad n ca t x m s pd pn pc text)) (d1 : AC W g1 [.int .i64 e]) :
    (results Try.f119 tmps).run Try.prog W = .ok (.tuple #[repV code num ad n ca t x m s pd pn pc text, .int .i64 e]) W := by
  rw [Array.getD_eq_getD_getElem?] at h0 h1
  obtain ⟨c0, c1, c2, c3, c4, c5, c6, c7, c8⟩ := hc.rep
  have k8 := d1.cell 0 _ rfl
  simp [results, Try.results119, go_sem, h0, h1, c0, c1, c2, c3, c4, c5, c6, c7, c8, k8, repV]
/-- what GetReply comes to -/
def GetPostR (w : World) (l : List UInt8) (e : Ending) (w' : World) : Prop :=
  (∃ (r : ReplyL) (ad : Option Addr) (n ca : Nat) (pd : Option Addr) (pn pc : Nat), rdReply l = some r ∧ e = .returned (.tuple #[repV r.code r.num ad n ca r.val.there r.val.x r.val.n r.val.s pd pn pc r.text, .int .i64 0]) ∧ FarIA w.heap.size w' ad n r.at_ ∧ FarPA w.heap.size w' pd pn r.pairs ∧ Bl w w') ∨
  (rdReply l = none ∧ e = .returned (.tuple #[repV 0 0 none 0 0 false 0 0 ⟨#[]⟩ none 0 0 ⟨#[]⟩, .int .i64 4]) ∧ Bl w w')
set_option maxHeartbeats 1600000 in
set_option maxRecDepth 100000 in
theorem safelyR_any (gb : Nat) (l : List UInt8) (w : World) (hg : C1 w gb (.string (strL l))) (hz : l.length ≤ 65536) :
    Calls Try.prog 119 #[.func (.func 120) #[] #[.pointer (some ⟨gb, 0, none⟩)]] w (GetPostR w l) := by
  have hmf := hmf
  have hsf := store_float
  have H := Lib.hid (fun w hg => getReply1_any gb l w hg hz)
  have G := SF.new w 94 26 zeroRepCs 0
  have hsz : w.heap.size + 2 ≤ ((w.alloc (.cells zeroRepCs.toArray 94)).alloc (.cells #[.int .i64 0] 26)).heap.size := by simp
  have hg2 := hg.keep G.bl
  clear hg
  unfold zeroRepCs repCs at G hsz hg2
  go_enter_defers Try.func119, Try.ntmps119
  go_wp2_with fail
  generalize (w.alloc (.cells #[.int .i64 0, .int .i64 0, .slice none 0 0, .bool false, .float .f64 0, .int .i64 0, .string ⟨#[]⟩, .slice none 0 0, .string ⟨#[]⟩] 94)).alloc (.cells #[.int .i64 0] 26) = W at *
  have GH := Lib.hid G
  clear G
  refine (H.out _ hg2).mono ?_
  rintro e w1 (⟨⟨code, num, xs, ⟨t, x, m, s⟩, ps, text⟩, ad, n, ca, pd, pn, pc, hr, rfl, hF, hP, hb1⟩ | ⟨hr, rfl, hb1⟩)
  · have HR := Lib.hid hr
    have G := GH.out.keep hb1
    have HF := Lib.hid (hF.mono hsz)
    have HP := Lib.hid (hP.mono hsz)
    clear hb1 hr hF hP hsz hg2 GH
    dsimp only at *
    unfold repV
    have fr := G.r.frozen
    have k0 := G.r.cell 0 _ rfl
    have k1 := G.r.cell 1 _ rfl
    have k2 := G.r.cell 2 _ rfl
    have k3 := G.r.cell 3 _ rfl
    have k4 := G.r.cell 4 _ rfl
    have k5 := G.r.cell 5 _ rfl
    have k6 := G.r.cell 6 _ rfl
    have k7 := G.r.cell 7 _ rfl
    have k8 := G.r.cell 8 _ rfl
    have H4 := AC.fillOther (g := w.heap.size + 1) (g' := w.heap.size) (by omega) (repCs code num ad n ca t x m s pd pn pc text) w1 0 G.t
    have e0 := H4.cell 0 _ rfl
    have ef := H4.frozen 0
    simp only [repCs, fill] at e0 ef
    have GH := Lib.hid G
    clear H4 G
    go_wp2_with fail
    refine leaves_cons (f := 166) (args := #[.pointer (some ⟨w.heap.size, 0, none⟩), .pointer (some ⟨w.heap.size + 1, 0, none⟩)]) (by simp) (by simp [go_sem]) ?_
    refine (rcatch_idle _ _ _).mono ?_
    rintro e u' w'' ⟨rfl, rfl, rfl⟩
    have G2 := GH.out.set (repCs code num ad n ca t x m s pd pn pc text) rfl 0
    have hF2 : FarIA w.heap.size _ ad n xs := ((HF.out.fill (q := w.heap.size) (by omega) (repCs code num ad n ca t x m s pd pn pc text) w1 0).set (q := w.heap.size + 1) (by omega) 0 (.int .i64 0)).mono (by omega)
    have hP2 : FarPA w.heap.size _ pd pn ps := ((HP.out.fill (q := w.heap.size) (by omega) (repCs code num ad n ca t x m s pd pn pc text) w1 0).set (q := w.heap.size + 1) (by omega) 0 (.int .i64 0)).mono (by omega)
    exact leaves_ret (rsafely_results rfl rfl G2.r G2.t) (.inl ⟨⟨code, num, xs, ⟨t, x, m, s⟩, ps, text⟩, ad, n, ca, pd, pn, pc, HR.out, rfl, hF2, hP2, G2.bl⟩)
  · have G := GH.out.keep hb1
    unfold panE
    clear hb1 hg2
    refine leaves_cons (f := 166) (args := #[.pointer (some ⟨w.heap.size, 0, none⟩), .pointer (some ⟨w.heap.size + 1, 0, none⟩)]) (by simp) (by simp [go_sem]) ?_
    refine (rcatch_code w.heap.size (w.heap.size + 1) 4 _ [] _ G.r G.t (by omega)).mono ?_
    rintro e u' w'' ⟨rfl, rfl, rfl⟩
    have G := (G.keep ((Bl.refl _).alloc (.cells zeroRepCs.toArray 94))).set zeroRepCs rfl 4
    exact leaves_back (rsafely_results rfl rfl G.r G.t) (.inr ⟨hr, rfl, G.bl⟩)
theorem getReply_results {tmps : Array Value} {W : World} {g0 : Nat} {code num : Int} {ad : Option Addr} {n ca : Nat} {t : Bool} {x : Nat} {m : Int} {s : ByteArray} {pd : Option Addr} {pn pc : Nat} {text : ByteArray} {e : Int} (h0 : tmps.getD 2 undef = .pointer (some ⟨g0, 0, none⟩)) (h1 : tmps.getD 3 undef = .int .i64 e)
    (hc : AC W g0 (repCs code num ad n ca t x m s pd pn pc text)) :
    (results Try.f50 tmps).run Try.prog W = .ok (.tuple #[repV code num ad n ca t x m s pd pn pc text, .int .i64 e]) W := by
  rw [Array.getD_eq_getD_getElem?] at h0 h1
  obtain ⟨c0, c1, c2, c3, c4, c5, c6, c7, c8⟩ := hc.rep
  simp [results, Try.results50, go_sem, h0, h1, c0, c1, c2, c3, c4, c5, c6, c7, c8, repV]
set_option maxHeartbeats 1600000 in
set_option maxRecDepth 100000 in
theorem getReply_any (l : List UInt8) (w : World) (hz : l.length ≤ 65536) :
    Calls Try.prog 50 #[.string (strL l)] w (GetPostR w l) := by
  have hmf := hmf
  have hsf := store_float
  have hg := (C1.new w w.heap.size rfl (.string (strL l)) 9).keep ((Bl.refl _).alloc (.cells zeroRepCs.toArray 94))
  have hr := AC.new (w.alloc (.cells #[.string (strL l)] 9)) (w.heap.size + 1) (by simp) zeroRepCs 94
  have hb0 : Bl w ((w.alloc (.cells #[.string (strL l)] 9)).alloc (.cells zeroRepCs.toArray 94)) := ((Bl.refl w).alloc _).alloc _
  have hsz : w.heap.size + 2 ≤ ((w.alloc (.cells #[.string (strL l)] 9)).alloc (.cells zeroRepCs.toArray 94)).heap.size := by simp
  unfold zeroRepCs repCs at hg hr hb0 hsz
  have H := Lib.hid (fun w hg => safelyR_any w.heap.size l w hg hz)
  go_enter Try.func50, Try.ntmps50
  go_wp2_with fail
  generalize (w.alloc (.cells #[.string (strL l)] 9)).alloc (.cells #[.int .i64 0, .int .i64 0, .slice none 0 0, .bool false, .float .f64 0, .int .i64 0, .string ⟨#[]⟩, .slice none 0 0, .string ⟨#[]⟩] 94) = W at *
  refine (safelyR_any w.heap.size l _ hg hz).mono ?_
  rintro e w1 (⟨⟨code, num, xs, ⟨t, x, m, s⟩, ps, text⟩, ad, n, ca, pd, pn, pc, hrd, rfl, hF, hP, hb1⟩ | ⟨hrd, rfl, hb1⟩)
  · have HR := Lib.hid hrd
    have G := hr.keep hb1
    have HB := Lib.hid (hb0.trans hb1)
    have HF := Lib.hid (hF.mono hsz)
    have HP := Lib.hid (hP.mono hsz)
    clear hb1 hrd hF hP hsz hg hr hb0
    dsimp only at *
    unfold repV
    have fr := G.frozen
    obtain ⟨k0, k1, k2, k3, k4, k5, k6, k7, k8⟩ := AC.rep G
    have GH := Lib.hid G
    clear G
    go_wp2_with fail
    refine bodyPost_ret (getReply_results rfl rfl (GH.out.fill (repCs code num ad n ca t x m s pd pn pc text) rfl)) rfl (.inl ⟨⟨code, num, xs, ⟨t, x, m, s⟩, ps, text⟩, ad, n, ca, pd, pn, pc, HR.out, rfl, ?_, ?_, ?_⟩)
    · exact (HF.out.fill (q := w.heap.size + 1) (by omega) (repCs code num ad n ca t x m s pd pn pc text) w1 0).mono (by omega)
    · exact (HP.out.fill (q := w.heap.size + 1) (by omega) (repCs code num ad n ca t x m s pd pn pc text) w1 0).mono (by omega)
    · exact Bl.fill (Nat.le_succ _) (repCs code num ad n ca t x m s pd pn pc text) _ 0 HB.out
  · have HR := Lib.hid hrd
    have G := hr.keep hb1
    have HB := Lib.hid (hb0.trans hb1)
    clear hb1 hrd hsz hg hr hb0
    unfold repV
    have fr := G.frozen
    obtain ⟨k0, k1, k2, k3, k4, k5, k6, k7, k8⟩ := AC.rep G
    have GH := Lib.hid G
    clear G
    go_wp2_with fail
    refine bodyPost_ret (getReply_results rfl rfl (GH.out.fill zeroRepCs rfl)) rfl (.inr ⟨HR.out, rfl, ?_⟩)
    exact Bl.fill (Nat.le_succ _) zeroRepCs _ 0 HB.out
end Go.Proofs.Ytechiehbigmjbaa
