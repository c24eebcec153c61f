import Derived.Test.YtaplefelfiefaaaGreatQArchiveTellsUptoP18
import Derived.Test.YtaplefelfiefaaaGreatQArchiveTellsUptoP4
import Derived.Test.YtaplefelfiefaaaGreatQArchiveTellsUptoP10
import Derived.Test.YtaplefelfiefaaaGreatQArchiveTellsUptoP1
import Derived.Shelf.Spec.TrailingZeros
import Derived.Shelf.Strconv.Itoa0
import Derived.Laws.BitsAllLaws
import Derived.Laws.FloatArith
import Derived.IntWalk
import Derived.Outline
import Derived.Lib.CutLaws
import Derived.Lib.IndexBytes
import Derived.Test.YtaplefelfiefaaaGreatShelf
import Derived.Test.YtaplefelfiefaaaGreatQArchiveTellsUptoP6
import Derived.Deep.RegionHeld3
import Derived.Recover
import Derived.Laws.Pointers
import Derived.WalkLawsBesides
import Derived.Test.YtaplefelfiefaaaGreatQArchiveTellsUptoP25
import Derived.BigQuiet
import Derived.Test.YtaplefelfiefaaaGreatQArchiveTellsUptoP15
import Derived.Test.YtaplefelfiefaaaGreatQArchiveTellsUptoP12
import Derived.Test.YtaplefelfiefaaaGreatQArchiveTellsUptoP2
import Derived.StillTailTactics

/- archive.Read. By an AI agent. -/
section
set_option linter.unusedVariables false
set_option linter.unusedSimpArgs false
namespace Go.Proofs.YtaplefelfiefaaaGreat
open Go.RowKit

theorem arread_any (l : List UInt8) (w : World) : Calls Tryz.prog 40 #[.string (strL l)] w (ArcPost w l) := by
  by_cases h : 12 ≤ l.length ∧ l.length ≤ 524288
  · exact arread_long l (l.take (l.length - 4)) (l.drop (l.length - 4)) (l.length - 4) w (by omega) (by omega) (by omega) rfl rfl
  · exact arread_short l w h
theorem arcatch_idle (a0 a1 : Addr) (w : World) :
    CallsD Tryz.prog 39 #[.pointer (some a0), .pointer (some a1)] .returning w fun e u' w' => e = .returned (.tuple #[]) ∧ u' = .returning ∧ w' = w := by
  refine callsD_of_wpS Tryz.func39 rfl fun c₀ cs hu => ?_
  apply wpS_seq
  apply wpS_region
  simp [wpOpsS, go_sem, recoverD, hu, Tryz.ntmps39, Exit.thenS]
  apply wpS_seq
  apply wpS_region
  simp [wpOpsS, go_sem, Exit.thenS]
  refine wpS_cond (t := false) (by simp [Act.eval, Array.replicate]) ?_
  simp only [Bool.false_eq_true, if_false]
  refine wpS_of_wp (wp_skip ?_)
  cases c₀
  simp_all [bodyPostS, results, Tryz.results39]

set_option maxHeartbeats 800000 in
set_option maxRecDepth 100000 in
theorem arcatch_code (g0 g1 : Nat) (c : Int) (v1 : Value) (older : List PanicEntry) (w : World) (k x n s : Value) (h0 : AC w g0 [k, x, n, s]) (h1 : AC w g1 [v1]) (n01 : g0 ≠ g1) :
    CallsD Tryz.prog 39 #[.pointer (some ⟨g0, 0, none⟩), .pointer (some ⟨g1, 0, none⟩)] (.panicking ({ v := .iface 49 (.int .i64 c), recovered := false } :: older)) w fun e u' w' =>
      e = .returned (.tuple #[]) ∧ u' = .panicking ({ v := .iface 49 (.int .i64 c), recovered := true } :: older) ∧ w' = (((((w.setCell ⟨g0, 0, none⟩ (.int .i64 0)).setCell ⟨g0, 1, none⟩ (.int .i64 0)).setCell ⟨g0, 2, none⟩ (.slice none 0 0)).setCell ⟨g0, 3, none⟩ (.slice none 0 0)).setCell ⟨g1, 0, none⟩ (.int .i64 c)) := by
  have hsf := store_float
  have f0 := h0.frozen
  have k0 := h0.cell 0 _ rfl
  have k1 := h0.cell 1 _ rfl
  have k2 := h0.cell 2 _ rfl
  have k3 := h0.cell 3 _ rfl
  have H4 := h1.other4 (g' := g0) (Ne.symm n01) (.int .i64 0) (.int .i64 0) (.slice none 0 0) (.slice none 0 0)
  have e0 := H4.cell 0 _ rfl
  have ef := H4.frozen 0
  refine callsD_of_wpS Tryz.func39 rfl fun c₀ cs hu => ?_
  apply wpS_seq
  apply wpS_region
  simp [wpOpsS, go_sem, recoverD, hu, Tryz.ntmps39, Exit.thenS]
  apply wpS_seq
  apply wpS_region
  simp [wpOpsS, go_sem, Exit.thenS]
  refine wpS_cond (t := true) (by simp [Act.eval, Array.replicate]) ?_
  simp only [if_true]
  apply wpS_seq
  apply wpS_region
  simp [wpOpsS, go_sem, Exit.thenS, assert_code, recoverD]
  apply wpS_seq
  apply wpS_seq
  apply wpS_region
  simp [wpOpsS, go_sem, Exit.thenS, recoverD]
  refine wpS_cond (t := false) (by simp [Act.eval, Array.replicate]) ?_
  simp only [Bool.false_eq_true, if_false]
  refine wpS_of_wp (wp_skip ?_)
  simp only [Exit.thenS]
  apply wpS_region
  simp [wpOpsS, go_sem, hsf, f0, k0, k1, k2, k3, e0, ef, recoverD, bodyPostS, results, Tryz.results39]


/-- the two boxes of Read -/
structure RdG (w W : World) (cs : List Value) (e : Int) : Prop where
  bl : Bl w W
  r : AC W w.heap.size cs
  t : AC W (w.heap.size + 1) [.int .i64 e]
theorem RdG.keep {w W W' : World} {cs : List Value} {e : Int} (h : RdG w W cs e) (k : Bl W W') : RdG w W' cs e := ⟨h.bl.trans k, h.r.keep k, h.t.keep k⟩
theorem RdG.new (w : World) (T U : TypeId) (cs : List Value) (e : Int) : RdG w ((w.alloc (.cells cs.toArray T)).alloc (.cells #[.int .i64 e] U)) cs e :=
  ⟨((Bl.refl w).alloc _).alloc _, (AC.new w _ rfl cs T).keep ((Bl.refl _).alloc _), AC.new _ (w.heap.size + 1) (by simp) [.int .i64 e] U⟩
theorem RdG.set {w W : World} {a0 b0 c0 d0 : Value} {e0 : Int} (h : RdG w W [a0, b0, c0, d0] e0) (a b c d : Value) (e : Int) :
    RdG w (((((W.setCell ⟨w.heap.size, 0, none⟩ a).setCell ⟨w.heap.size, 1, none⟩ b).setCell ⟨w.heap.size, 2, none⟩ c).setCell ⟨w.heap.size, 3, none⟩ d).setCell ⟨w.heap.size + 1, 0, none⟩ (.int .i64 e)) [a, b, c, d] e :=
  ⟨(h.bl.store4 (Nat.le_refl _) a b c d).setCell (p := ⟨w.heap.size + 1, 0, none⟩) (Nat.le_succ _) _, (h.r.set4 a b c d).other (by omega), (h.t.other4 (by omega) a b c d).put _⟩
theorem arRead_results {tmps : Array Value} {w : World} {g0 g1 : Nat} {n parts : Int} {ad : Option Addr} {an ac : Nat} {pd : Option Addr} {pn pc : Nat} {v1 : Int} (h0 : tmps.getD 2 undef = .pointer (some ⟨g0, 0, none⟩)) (h1 : tmps.getD 3 undef = .pointer (some ⟨g1, 0, none⟩))
    (d0 : AC w g0 (arcCs n parts ad an ac pd pn pc)) (d1 : AC w g1 [.int .i64 v1]) :
    (results Tryz.f11 tmps).run Tryz.prog w = .ok (.tuple #[arcV n parts ad an ac pd pn pc, .int .i64 v1]) w := by
  rw [Array.getD_eq_getD_getElem?] at h0 h1
  obtain ⟨c0, c1, c2, c3⟩ := d0.arc
  have c4 := d1.cell 0 _ rfl
  simp [results, Tryz.results11, go_sem, h0, h1, c0, c1, c2, c3, c4, arcV]
/-- what Read comes to -/
def RdPostArc (w : World) (l : List UInt8) (e : Ending) (w' : World) : Prop :=
  (∃ (a : ArcL) (ad : Option Addr) (n ca : Nat) (pd : Option Addr) (pn pc : Nat), rdArc l = some a ∧ e = .returned (.tuple #[arcV a.n a.parts ad n ca pd pn pc, .int .i64 0]) ∧ FarO w.heap.size w' ad n ca a.at_ ∧ FarPO w.heap.size w' pd pn pc a.pairs ∧ Bl w w') ∨
  (rdArc l = none ∧ e = .returned (.tuple #[arcV 0 0 none 0 0 none 0 0, .int .i64 70]) ∧ Bl w w')
set_option maxHeartbeats 1600000 in
set_option maxRecDepth 100000 in
theorem arRead_any (l : List UInt8) (w : World) : Calls Tryz.prog 11 #[.string (strL l)] w (RdPostArc w l) := by
  have hmf := hmf
  have H := Lib.hid (fun w => arread_any l w)
  have G := RdG.new w 26 49 zeroArcCs 0
  unfold zeroArcCs arcCs at G
  have hsz : ((w.alloc (.cells #[.int .i64 0, .int .i64 0, .slice none 0 0, .slice none 0 0] 26)).alloc (.cells #[.int .i64 0] 49)).heap.size = w.heap.size + 1 + 1 := by simp
  generalize strL l = sl at *
  go_enter_defers Tryz.func11, Tryz.ntmps11
  go_wp2_with fail
  generalize (w.alloc (.cells #[.int .i64 0, .int .i64 0, .slice none 0 0, .slice none 0 0] 26)).alloc (.cells #[.int .i64 0] 49) = W at *
  refine (H.out _).mono ?_
  rintro e w1 (⟨⟨n, parts, xs, ps⟩, ad, an, ac, pd, pn, pc, hr, rfl, hF, hP, hb1⟩ | ⟨hr, rfl, hb1⟩)
  · have HR := Lib.hid hr
    have HF := Lib.hid hF
    have HP := Lib.hid hP
    have G := G.keep hb1
    clear hb1 hr hF hP
    dsimp only at *
    unfold arcV
    obtain ⟨c0, c1, c2, c3⟩ := AC.arc G.r
    have fr := G.r.frozen
    have H4 := G.t.other4 (g' := w.heap.size) (by omega) (.int .i64 n) (.int .i64 parts) (.slice ad an ac) (.slice pd pn pc)
    have e0 := H4.cell 0 _ rfl
    have ef := H4.frozen 0
    go_wp2_with fail
    refine leaves_cons (f := 39) (args := #[.pointer (some ⟨w.heap.size, 0, none⟩), .pointer (some ⟨w.heap.size + 1, 0, none⟩)]) (by simp) (by simp [go_sem]) ?_
    refine (arcatch_idle _ _ _).mono ?_
    rintro e u' w'' ⟨rfl, rfl, rfl⟩
    have G2 := G.set (.int .i64 n) (.int .i64 parts) (.slice ad an ac) (.slice pd pn pc) 0
    refine leaves_ret (arRead_results rfl rfl G2.r G2.t) (.inl ⟨⟨n, parts, xs, ps⟩, ad, an, ac, pd, pn, pc, HR.out, rfl, ?_, ?_, G2.bl⟩)
    · exact (((HF.out.fill (q := w.heap.size) (by omega) [.int .i64 n, .int .i64 parts, .slice ad an ac, .slice pd pn pc] w1 0).set (q := w.heap.size + 1) (by omega) 0 (.int .i64 0)).mono (by omega))
    · exact (((FarPO.fill (q := w.heap.size) (by omega) [.int .i64 n, .int .i64 parts, .slice ad an ac, .slice pd pn pc] w1 0 HP.out).set (q := w.heap.size + 1) (by omega) 0 (.int .i64 0)).mono (by omega))
  · have HR := Lib.hid hr
    have G := G.keep hb1
    clear hb1 hr
    unfold panR
    refine leaves_cons (f := 39) (args := #[.pointer (some ⟨w.heap.size, 0, none⟩), .pointer (some ⟨w.heap.size + 1, 0, none⟩)]) (by simp) (by simp [go_sem]) ?_
    refine (arcatch_code w.heap.size (w.heap.size + 1) 70 _ [] _ _ _ _ _ G.r G.t (by omega)).mono ?_
    rintro e u' w'' ⟨rfl, rfl, rfl⟩
    have G2 := G.set (.int .i64 0) (.int .i64 0) (.slice none 0 0) (.slice none 0 0) 70
    exact leaves_back (arRead_results rfl rfl G2.r G2.t) (.inr ⟨HR.out, rfl, G2.bl⟩)
end Go.Proofs.YtaplefelfiefaaaGreat
end

/- the walk of RealTexts. By an AI agent. -/
section
namespace Go.Proofs.YtaplefelfiefaaaGreat
open Go.RowKit

def getP (b : ByteArray) : Nat × Int := if b.size = 8 then getR (getN b.data.toList).toNat else (0, 4)
theorem refGetP_any (b : ByteArray) (w : World) : Calls Tryz.prog 123 #[.string b] w fun e w' => e = .returned (.tuple #[.float .f64 (getP b).1, .int .i64 (getP b).2]) ∧ w = w' := by
  unfold getP
  by_cases h : b.size = 8
  · rw [if_pos h]; exact refGetF_any b w h
  · rw [if_neg h]; exact refGetF_no b w h
theorem getR_lt (u : Nat) (h : u < two64) : (getR u).1 < two64 := by
  unfold getR
  split
  · decide
  · split
    · decide
    · exact backW_lt h
theorem getP_lt (b : ByteArray) : (getP b).1 < two64 := by
  unfold getP
  split
  · rename_i h
    apply getR_lt
    have hb := getN_bound b.data.toList
    rw [show b.data.toList.length = 8 by simpa using h] at hb
    unfold two64
    omega
  · decide

end Go.Proofs.YtaplefelfiefaaaGreat
end

/- bedrockref5.GetAct: its ways (printed by a program). · bedrockref5.GetAct is op.Get: all bytes. By an AI agent. -/
section
set_option linter.unusedVariables false
namespace Go.Proofs.YtaplefelfiefaaaGreat
open Go.RowKit

theorem AC.putj {w : World} {g : Nat} {cs : List Value} (h : AC w g cs) (j : Nat) (v : Value) : AC (w.setCell ⟨g, j, none⟩ v) g (cs.set j v) := by
  obtain ⟨t, h⟩ := h
  refine ⟨t, ?_⟩
  rw [heap_setCell_same w g j _ t _ h]
  simp
/-- the two boxes: the answer's, the act's -/
structure GA (w W : World) (rc ac : List Value) : Prop where
  bl : Bl w W
  r : AC W w.heap.size rc
  a : AC W (w.heap.size + 1) ac
theorem GA.keep {w W W' : World} {rc ac : List Value} (h : GA w W rc ac) (b : Bl W W') : GA w W' rc ac := ⟨h.bl.trans b, h.r.keep b, h.a.keep b⟩
theorem GA.new (w : World) (rc ac : List Value) (T U : TypeId) : GA w ((w.alloc (.cells rc.toArray T)).alloc (.cells ac.toArray U)) rc ac :=
  ⟨((Bl.refl w).alloc _).alloc _, (AC.new w _ rfl rc T).keep ((Bl.refl _).alloc _), AC.new _ (w.heap.size + 1) (by simp) ac U⟩
theorem GA.put {w W : World} {rc ac : List Value} (h : GA w W rc ac) (j : Nat) (v : Value) : GA w (W.setCell ⟨w.heap.size + 1, j, none⟩ v) rc (ac.set j v) :=
  ⟨h.bl.setCell (p := ⟨w.heap.size + 1, j, none⟩) (Nat.le_succ _) v, h.r.other (by omega), h.a.putj j v⟩
theorem getN_drop_take {s : ByteArray} {k : Nat} (h1 : 1 ≤ k) (h : k < s.size) : getN ((s.data.toList.take (k + 1)).drop 1) = getN ((s.data.toList.take k).drop 1) * 256 + s[k].toNat := by
  have h' : k < s.data.toList.length := by simpa using h
  rw [List.take_succ_eq_append_getElem h', List.drop_append_of_le_length (by rw [List.length_take]; omega), getN_snoc]
  rfl
theorem or_i64 (n b : Nat) (hn : n < 72057594037927936) (hb : b < 256) : bits .or .i64 (wrap64 ((n : Int) * 256)) (b : Int) = wrap64 ((n : Int) * 256 + (b : Int)) := by
  have h1 : (BitVec.ofInt 64 (wrap64 ((n : Int) * 256))).toNat = n * 256 := by
    rw [BitVec.toNat_ofInt]; unfold wrap64; omega
  have h2 : (BitVec.ofInt 64 (b : Int)).toNat = b := by
    rw [BitVec.toNat_ofInt]; omega
  show IntKind.i64.wrap ((BitVec.ofInt 64 (wrap64 ((n : Int) * 256)) ||| BitVec.ofInt 64 (b : Int)).toNat : Int) = _
  rw [BitVec.toNat_or, h1, h2, nat_join 8 (n * 256) b (by omega) hb, IntKind.wrap_i64]
  unfold wrap64; omega

set_option maxRecDepth 100000 in
theorem refget_early (s : ByteArray) (w : World) (h : s.size = 0 ∨ ∃ hp : 0 < s.size, decide ((4 : Int) < (s[0].toNat : Int)) = true) :
    Calls Tryz.prog 30 #[.string s] w fun e w' => e = .returned (.tuple #[.agg #[.int .i64 0, .float .f64 0, .int .i64 0, .string ⟨#[]⟩], .int .i64 4]) ∧ Bl w w' := by
  have hsf := store_float
  rcases h with h | ⟨hp, h⟩
  · go_enter Tryz.func30, Tryz.ntmps30
    go_wp2_with fail
    obtain ⟨r0, r1, r2, r3⟩ := (AC.new w _ rfl [.int .i64 0, .float .f64 0, .int .i64 0, .string ⟨#[]⟩] 66).act
    refine bodyPost_ret (v := .tuple #[.agg #[.int .i64 0, .float .f64 0, .int .i64 0, .string ⟨#[]⟩], .int .i64 4]) (by simp [results, Tryz.results30, go_sem, r0, r1, r2, r3]) rfl ⟨rfl, ?_⟩
    exact (Bl.refl w).alloc _
  · have q0 : ((s.size : Int) == 0) = false := by rw [beq_eq_false_iff_ne]; omega
    go_enter Tryz.func30, Tryz.ntmps30
    go_wp2_with fail
    obtain ⟨r0, r1, r2, r3⟩ := (AC.new w _ rfl [.int .i64 0, .float .f64 0, .int .i64 0, .string ⟨#[]⟩] 66).act
    refine bodyPost_ret (v := .tuple #[.agg #[.int .i64 0, .float .f64 0, .int .i64 0, .string ⟨#[]⟩], .int .i64 4]) (by simp [results, Tryz.results30, go_sem, r0, r1, r2, r3]) rfl ⟨rfl, ?_⟩
    exact (Bl.refl w).alloc _

set_option maxHeartbeats 1600000 in
set_option maxRecDepth 100000 in
theorem refget_0short (s : ByteArray) (w : World) (hp : 0 < s.size) (hc : (s[0].toNat : Int) = 0) (hsz : s.size ≤ 100000) (h1 : s.size = 1) (pb : ByteArray) (pc : Int) (P : Hid (∀ w, Calls Tryz.prog 25 #[.agg #[.int .i64 0, .float .f64 0, .int .i64 0, .string ⟨#[]⟩]] w fun e w' => e = .returned (.tuple #[.string pb, .int .i64 pc]) ∧ Bl w w')) :
    Calls Tryz.prog 30 #[.string s] w fun e w' => e = .returned (.tuple #[.agg #[.int .i64 0, .float .f64 0, .int .i64 0, .string ⟨#[]⟩], .int .i64 4]) ∧ Bl w w' := by
  have hsf := store_float
  have q0 : ((s.size : Int) == 0) = false := by rw [beq_eq_false_iff_ne]; omega
  go_enter Tryz.func30, Tryz.ntmps30
  go_upto_region 4 with fail
  have G := GA.new w [.int .i64 0, .float .f64 0, .int .i64 0, .string ⟨#[]⟩] [.int .i64 0, .float .f64 0, .int .i64 0, .string ⟨#[]⟩] 66 66
  generalize (w.alloc (.cells #[.int .i64 0, .float .f64 0, .int .i64 0, .string ⟨#[]⟩] 66)).alloc (.cells #[.int .i64 0, .float .f64 0, .int .i64 0, .string ⟨#[]⟩] 66) = W at *
  obtain ⟨a0, a1, a2, a3⟩ := G.a.act
  have f0 := G.a.frozen
  go_upto_region 20 with fail
  clear a0 a1 a2 a3 f0
  obtain ⟨a0, a1, a2, a3⟩ := G.a.act
  go_wp2_with fail
  refine (P.out _).mono ?_
  rintro e w2 ⟨rfl, hb2⟩
  replace G := G.keep hb2
  clear hb2 a0 a1 a2 a3
  obtain ⟨a0, a1, a2, a3⟩ := G.a.act
  obtain ⟨r0, r1, r2, r3⟩ := G.r.act
  have fr := G.r.frozen
  go_wp2_with fail
  refine bodyPost_ret (v := .tuple #[.agg #[.int .i64 0, .float .f64 0, .int .i64 0, .string ⟨#[]⟩], .int .i64 4]) (by simp [results, Tryz.results30, go_sem, r0, r1, r2, r3]) rfl ⟨rfl, ?_⟩
  exact G.bl.store4 (Nat.le_refl _) _ _ _ _

set_option maxHeartbeats 1600000 in
set_option maxRecDepth 100000 in
theorem refget_0other (s : ByteArray) (w : World) (hp : 0 < s.size) (hc : (s[0].toNat : Int) = 0) (hsz : s.size ≤ 100000) (h1 : 1 < s.size) (q1 : ((s[1].toNat : Int) == 116) = false) (q2 : ((s[1].toNat : Int) == 110) = false) (pb : ByteArray) (pc : Int) (P : Hid (∀ w, Calls Tryz.prog 25 #[.agg #[.int .i64 0, .float .f64 0, .int .i64 0, .string ⟨#[]⟩]] w fun e w' => e = .returned (.tuple #[.string pb, .int .i64 pc]) ∧ Bl w w')) :
    Calls Tryz.prog 30 #[.string s] w fun e w' => e = .returned (.tuple #[.agg #[.int .i64 0, .float .f64 0, .int .i64 0, .string ⟨#[]⟩], .int .i64 4]) ∧ Bl w w' := by
  by_cases h2 : 2 < s.size
  · have hsf := store_float
    have q0 : ((s.size : Int) == 0) = false := by rw [beq_eq_false_iff_ne]; omega
    go_enter Tryz.func30, Tryz.ntmps30
    go_upto_region 4 with fail
    have G := GA.new w [.int .i64 0, .float .f64 0, .int .i64 0, .string ⟨#[]⟩] [.int .i64 0, .float .f64 0, .int .i64 0, .string ⟨#[]⟩] 66 66
    generalize (w.alloc (.cells #[.int .i64 0, .float .f64 0, .int .i64 0, .string ⟨#[]⟩] 66)).alloc (.cells #[.int .i64 0, .float .f64 0, .int .i64 0, .string ⟨#[]⟩] 66) = W at *
    obtain ⟨a0, a1, a2, a3⟩ := G.a.act
    have f0 := G.a.frozen
    go_upto_region 20 with fail
    clear a0 a1 a2 a3 f0
    obtain ⟨a0, a1, a2, a3⟩ := G.a.act
    go_wp2_with fail
    refine (P.out _).mono ?_
    rintro e w2 ⟨rfl, hb2⟩
    replace G := G.keep hb2
    clear hb2 a0 a1 a2 a3
    obtain ⟨a0, a1, a2, a3⟩ := G.a.act
    obtain ⟨r0, r1, r2, r3⟩ := G.r.act
    have fr := G.r.frozen
    go_wp2_with fail
    refine bodyPost_ret (v := .tuple #[.agg #[.int .i64 0, .float .f64 0, .int .i64 0, .string ⟨#[]⟩], .int .i64 4]) (by simp [results, Tryz.results30, go_sem, r0, r1, r2, r3]) rfl ⟨rfl, ?_⟩
    exact G.bl.store4 (Nat.le_refl _) _ _ _ _
  · have hsf := store_float
    have q0 : ((s.size : Int) == 0) = false := by rw [beq_eq_false_iff_ne]; omega
    go_enter Tryz.func30, Tryz.ntmps30
    go_upto_region 4 with fail
    have G := GA.new w [.int .i64 0, .float .f64 0, .int .i64 0, .string ⟨#[]⟩] [.int .i64 0, .float .f64 0, .int .i64 0, .string ⟨#[]⟩] 66 66
    generalize (w.alloc (.cells #[.int .i64 0, .float .f64 0, .int .i64 0, .string ⟨#[]⟩] 66)).alloc (.cells #[.int .i64 0, .float .f64 0, .int .i64 0, .string ⟨#[]⟩] 66) = W at *
    obtain ⟨a0, a1, a2, a3⟩ := G.a.act
    have f0 := G.a.frozen
    go_upto_region 20 with fail
    clear a0 a1 a2 a3 f0
    obtain ⟨a0, a1, a2, a3⟩ := G.a.act
    go_wp2_with fail
    refine (P.out _).mono ?_
    rintro e w2 ⟨rfl, hb2⟩
    replace G := G.keep hb2
    clear hb2 a0 a1 a2 a3
    obtain ⟨a0, a1, a2, a3⟩ := G.a.act
    obtain ⟨r0, r1, r2, r3⟩ := G.r.act
    have fr := G.r.frozen
    go_wp2_with fail
    refine bodyPost_ret (v := .tuple #[.agg #[.int .i64 0, .float .f64 0, .int .i64 0, .string ⟨#[]⟩], .int .i64 4]) (by simp [results, Tryz.results30, go_sem, r0, r1, r2, r3]) rfl ⟨rfl, ?_⟩
    exact G.bl.store4 (Nat.le_refl _) _ _ _ _

set_option maxHeartbeats 1600000 in
set_option maxRecDepth 100000 in
theorem refget_0two (s : ByteArray) (w : World) (hp : 0 < s.size) (hc : (s[0].toNat : Int) = 0) (hsz : s.size ≤ 100000) (h1 : s.size = 2) (q1 : ((s[1].toNat : Int) == 110) = false) (pb : ByteArray) (pc : Int) (P : Hid (∀ w, Calls Tryz.prog 25 #[.agg #[.int .i64 0, .float .f64 0, .int .i64 0, .string ⟨#[]⟩]] w fun e w' => e = .returned (.tuple #[.string pb, .int .i64 pc]) ∧ Bl w w')) :
    Calls Tryz.prog 30 #[.string s] w fun e w' => e = .returned (.tuple #[.agg #[.int .i64 0, .float .f64 0, .int .i64 0, .string ⟨#[]⟩], .int .i64 4]) ∧ Bl w w' := by
  have hsf := store_float
  have q0 : ((s.size : Int) == 0) = false := by rw [beq_eq_false_iff_ne]; omega
  go_enter Tryz.func30, Tryz.ntmps30
  go_upto_region 4 with fail
  have G := GA.new w [.int .i64 0, .float .f64 0, .int .i64 0, .string ⟨#[]⟩] [.int .i64 0, .float .f64 0, .int .i64 0, .string ⟨#[]⟩] 66 66
  generalize (w.alloc (.cells #[.int .i64 0, .float .f64 0, .int .i64 0, .string ⟨#[]⟩] 66)).alloc (.cells #[.int .i64 0, .float .f64 0, .int .i64 0, .string ⟨#[]⟩] 66) = W at *
  obtain ⟨a0, a1, a2, a3⟩ := G.a.act
  have f0 := G.a.frozen
  go_upto_region 20 with fail
  clear a0 a1 a2 a3 f0
  obtain ⟨a0, a1, a2, a3⟩ := G.a.act
  go_wp2_with fail
  refine (P.out _).mono ?_
  rintro e w2 ⟨rfl, hb2⟩
  replace G := G.keep hb2
  clear hb2 a0 a1 a2 a3
  obtain ⟨a0, a1, a2, a3⟩ := G.a.act
  obtain ⟨r0, r1, r2, r3⟩ := G.r.act
  have fr := G.r.frozen
  go_wp2_with fail
  refine bodyPost_ret (v := .tuple #[.agg #[.int .i64 0, .float .f64 0, .int .i64 0, .string ⟨#[]⟩], .int .i64 4]) (by simp [results, Tryz.results30, go_sem, r0, r1, r2, r3]) rfl ⟨rfl, ?_⟩
  exact G.bl.store4 (Nat.le_refl _) _ _ _ _

set_option maxHeartbeats 1600000 in
set_option maxRecDepth 100000 in
theorem refget_0t_bad (s : ByteArray) (w : World) (hp : 0 < s.size) (hc : (s[0].toNat : Int) = 0) (hsz : s.size ≤ 100000) (h1 : 2 < s.size) (q1 : ((s[1].toNat : Int) == 116) = true) (u : ByteArray) (hu : s.extract 2 s.size = u) (pb : ByteArray) (P : Hid (∀ w, Calls Tryz.prog 25 #[.agg #[.int .i64 0, .float .f64 0, .int .i64 0, .string u]] w fun e w' => e = .returned (.tuple #[.string pb, .int .i64 40]) ∧ Bl w w')) :
    Calls Tryz.prog 30 #[.string s] w fun e w' => e = .returned (.tuple #[.agg #[.int .i64 0, .float .f64 0, .int .i64 0, .string ⟨#[]⟩], .int .i64 4]) ∧ Bl w w' := by
  have hsf := store_float
  have q0 : ((s.size : Int) == 0) = false := by rw [beq_eq_false_iff_ne]; omega
  go_enter Tryz.func30, Tryz.ntmps30
  go_upto_region 4 with fail
  have G := GA.new w [.int .i64 0, .float .f64 0, .int .i64 0, .string ⟨#[]⟩] [.int .i64 0, .float .f64 0, .int .i64 0, .string ⟨#[]⟩] 66 66
  generalize (w.alloc (.cells #[.int .i64 0, .float .f64 0, .int .i64 0, .string ⟨#[]⟩] 66)).alloc (.cells #[.int .i64 0, .float .f64 0, .int .i64 0, .string ⟨#[]⟩] 66) = W at *
  obtain ⟨a0, a1, a2, a3⟩ := G.a.act
  have f0 := G.a.frozen
  go_upto_region 20 with fail
  clear a0 a1 a2 a3 f0
  replace G := G.put 3 (.string u)
  generalize W.setCell ⟨w.heap.size + 1, 3, none⟩ (.string u) = W2 at *
  simp only [List.set_cons_succ, List.set_cons_zero] at G
  obtain ⟨a0, a1, a2, a3⟩ := G.a.act
  go_wp2_with fail
  refine (P.out _).mono ?_
  rintro e w2 ⟨rfl, hb2⟩
  replace G := G.keep hb2
  clear hb2 a0 a1 a2 a3
  obtain ⟨a0, a1, a2, a3⟩ := G.a.act
  obtain ⟨r0, r1, r2, r3⟩ := G.r.act
  have fr := G.r.frozen
  go_wp2_with fail
  refine bodyPost_ret (v := .tuple #[.agg #[.int .i64 0, .float .f64 0, .int .i64 0, .string ⟨#[]⟩], .int .i64 4]) (by simp [results, Tryz.results30, go_sem, r0, r1, r2, r3]) rfl ⟨rfl, ?_⟩
  exact G.bl.store4 (Nat.le_refl _) _ _ _ _

set_option maxHeartbeats 1600000 in
set_option maxRecDepth 100000 in
theorem refget_0t_ok (s : ByteArray) (w : World) (hp : 0 < s.size) (hc : (s[0].toNat : Int) = 0) (hsz : s.size ≤ 100000) (h1 : 2 < s.size) (q1 : ((s[1].toNat : Int) == 116) = true) (u : ByteArray) (hu : s.extract 2 s.size = u) (P : Hid (∀ w, Calls Tryz.prog 25 #[.agg #[.int .i64 0, .float .f64 0, .int .i64 0, .string u]] w fun e w' => e = .returned (.tuple #[.string s, .int .i64 0]) ∧ Bl w w')) :
    Calls Tryz.prog 30 #[.string s] w fun e w' => e = .returned (.tuple #[.agg #[.int .i64 0, .float .f64 0, .int .i64 0, .string u], .int .i64 0]) ∧ Bl w w' := by
  have hsf := store_float
  have q0 : ((s.size : Int) == 0) = false := by rw [beq_eq_false_iff_ne]; omega
  go_enter Tryz.func30, Tryz.ntmps30
  go_upto_region 4 with fail
  have G := GA.new w [.int .i64 0, .float .f64 0, .int .i64 0, .string ⟨#[]⟩] [.int .i64 0, .float .f64 0, .int .i64 0, .string ⟨#[]⟩] 66 66
  generalize (w.alloc (.cells #[.int .i64 0, .float .f64 0, .int .i64 0, .string ⟨#[]⟩] 66)).alloc (.cells #[.int .i64 0, .float .f64 0, .int .i64 0, .string ⟨#[]⟩] 66) = W at *
  obtain ⟨a0, a1, a2, a3⟩ := G.a.act
  have f0 := G.a.frozen
  go_upto_region 20 with fail
  clear a0 a1 a2 a3 f0
  replace G := G.put 3 (.string u)
  generalize W.setCell ⟨w.heap.size + 1, 3, none⟩ (.string u) = W2 at *
  simp only [List.set_cons_succ, List.set_cons_zero] at G
  obtain ⟨a0, a1, a2, a3⟩ := G.a.act
  go_wp2_with fail
  refine (P.out _).mono ?_
  rintro e w2 ⟨rfl, hb2⟩
  replace G := G.keep hb2
  clear hb2 a0 a1 a2 a3
  obtain ⟨a0, a1, a2, a3⟩ := G.a.act
  obtain ⟨r0, r1, r2, r3⟩ := G.r.act
  have fr := G.r.frozen
  go_wp2_with fail
  refine bodyPost_ret (v := .tuple #[.agg #[.int .i64 0, .float .f64 0, .int .i64 0, .string u], .int .i64 0]) (by simp [results, Tryz.results30, go_sem, r0, r1, r2, r3]) rfl ⟨rfl, ?_⟩
  exact G.bl.store4 (Nat.le_refl _) _ _ _ _

set_option maxHeartbeats 1600000 in
set_option maxRecDepth 100000 in
theorem refget_0n_bad (s : ByteArray) (w : World) (hp : 0 < s.size) (hc : (s[0].toNat : Int) = 0) (hsz : s.size ≤ 100000) (h1 : 1 < s.size) (q1 : ((s[1].toNat : Int) == 110) = true) (q2 : ((s[1].toNat : Int) == 116) = false) (r : ByteArray) (hr : s.extract 2 s.size = r) (x : Nat) (GF : Hid (∀ w, Calls Tryz.prog 123 #[.string r] w fun e w' => e = .returned (.tuple #[.float .f64 x, .int .i64 4]) ∧ w = w')) (pb : ByteArray) (pc : Int) (P : Hid (∀ w, Calls Tryz.prog 25 #[.agg #[.int .i64 0, .float .f64 x, .int .i64 0, .string ⟨#[]⟩]] w fun e w' => e = .returned (.tuple #[.string pb, .int .i64 pc]) ∧ Bl w w')) :
    Calls Tryz.prog 30 #[.string s] w fun e w' => e = .returned (.tuple #[.agg #[.int .i64 0, .float .f64 0, .int .i64 0, .string ⟨#[]⟩], .int .i64 4]) ∧ Bl w w' := by
  by_cases h2 : 2 < s.size
  · have hsf := store_float
    have q0 : ((s.size : Int) == 0) = false := by rw [beq_eq_false_iff_ne]; omega
    go_enter Tryz.func30, Tryz.ntmps30
    go_upto_region 4 with fail
    have G := GA.new w [.int .i64 0, .float .f64 0, .int .i64 0, .string ⟨#[]⟩] [.int .i64 0, .float .f64 0, .int .i64 0, .string ⟨#[]⟩] 66 66
    generalize (w.alloc (.cells #[.int .i64 0, .float .f64 0, .int .i64 0, .string ⟨#[]⟩] 66)).alloc (.cells #[.int .i64 0, .float .f64 0, .int .i64 0, .string ⟨#[]⟩] 66) = W at *
    obtain ⟨a0, a1, a2, a3⟩ := G.a.act
    have f0 := G.a.frozen
    go_wp2_with fail
    refine (GF.out _).mono ?_
    rintro e w1 ⟨rfl, rfl⟩
    go_upto_region 20 with fail
    clear a0 a1 a2 a3 f0
    replace G := G.put 1 (.float .f64 x)
    generalize W.setCell ⟨w.heap.size + 1, 1, none⟩ (.float .f64 x) = W2 at *
    simp only [List.set_cons_succ, List.set_cons_zero] at G
    obtain ⟨a0, a1, a2, a3⟩ := G.a.act
    go_wp2_with fail
    refine (P.out _).mono ?_
    rintro e w2 ⟨rfl, hb2⟩
    replace G := G.keep hb2
    clear hb2 a0 a1 a2 a3
    obtain ⟨a0, a1, a2, a3⟩ := G.a.act
    obtain ⟨r0, r1, r2, r3⟩ := G.r.act
    have fr := G.r.frozen
    go_wp2_with fail
    refine bodyPost_ret (v := .tuple #[.agg #[.int .i64 0, .float .f64 0, .int .i64 0, .string ⟨#[]⟩], .int .i64 4]) (by simp [results, Tryz.results30, go_sem, r0, r1, r2, r3]) rfl ⟨rfl, ?_⟩
    exact G.bl.store4 (Nat.le_refl _) _ _ _ _
  · have hsf := store_float
    have q0 : ((s.size : Int) == 0) = false := by rw [beq_eq_false_iff_ne]; omega
    go_enter Tryz.func30, Tryz.ntmps30
    go_upto_region 4 with fail
    have G := GA.new w [.int .i64 0, .float .f64 0, .int .i64 0, .string ⟨#[]⟩] [.int .i64 0, .float .f64 0, .int .i64 0, .string ⟨#[]⟩] 66 66
    generalize (w.alloc (.cells #[.int .i64 0, .float .f64 0, .int .i64 0, .string ⟨#[]⟩] 66)).alloc (.cells #[.int .i64 0, .float .f64 0, .int .i64 0, .string ⟨#[]⟩] 66) = W at *
    obtain ⟨a0, a1, a2, a3⟩ := G.a.act
    have f0 := G.a.frozen
    go_wp2_with fail
    refine (GF.out _).mono ?_
    rintro e w1 ⟨rfl, rfl⟩
    go_upto_region 20 with fail
    clear a0 a1 a2 a3 f0
    replace G := G.put 1 (.float .f64 x)
    generalize W.setCell ⟨w.heap.size + 1, 1, none⟩ (.float .f64 x) = W2 at *
    simp only [List.set_cons_succ, List.set_cons_zero] at G
    obtain ⟨a0, a1, a2, a3⟩ := G.a.act
    go_wp2_with fail
    refine (P.out _).mono ?_
    rintro e w2 ⟨rfl, hb2⟩
    replace G := G.keep hb2
    clear hb2 a0 a1 a2 a3
    obtain ⟨a0, a1, a2, a3⟩ := G.a.act
    obtain ⟨r0, r1, r2, r3⟩ := G.r.act
    have fr := G.r.frozen
    go_wp2_with fail
    refine bodyPost_ret (v := .tuple #[.agg #[.int .i64 0, .float .f64 0, .int .i64 0, .string ⟨#[]⟩], .int .i64 4]) (by simp [results, Tryz.results30, go_sem, r0, r1, r2, r3]) rfl ⟨rfl, ?_⟩
    exact G.bl.store4 (Nat.le_refl _) _ _ _ _

set_option maxHeartbeats 1600000 in
set_option maxRecDepth 100000 in
theorem refget_0n_ok (s : ByteArray) (w : World) (hp : 0 < s.size) (hc : (s[0].toNat : Int) = 0) (hsz : s.size ≤ 100000) (h1 : 1 < s.size) (q1 : ((s[1].toNat : Int) == 110) = true) (q2 : ((s[1].toNat : Int) == 116) = false) (r : ByteArray) (hr : s.extract 2 s.size = r) (x : Nat) (GF : Hid (∀ w, Calls Tryz.prog 123 #[.string r] w fun e w' => e = .returned (.tuple #[.float .f64 x, .int .i64 0]) ∧ w = w')) (P : Hid (∀ w, Calls Tryz.prog 25 #[.agg #[.int .i64 0, .float .f64 x, .int .i64 0, .string ⟨#[]⟩]] w fun e w' => e = .returned (.tuple #[.string s, .int .i64 0]) ∧ Bl w w')) :
    Calls Tryz.prog 30 #[.string s] w fun e w' => e = .returned (.tuple #[.agg #[.int .i64 0, .float .f64 x, .int .i64 0, .string ⟨#[]⟩], .int .i64 0]) ∧ Bl w w' := by
  by_cases h2 : 2 < s.size
  · have hsf := store_float
    have q0 : ((s.size : Int) == 0) = false := by rw [beq_eq_false_iff_ne]; omega
    go_enter Tryz.func30, Tryz.ntmps30
    go_upto_region 4 with fail
    have G := GA.new w [.int .i64 0, .float .f64 0, .int .i64 0, .string ⟨#[]⟩] [.int .i64 0, .float .f64 0, .int .i64 0, .string ⟨#[]⟩] 66 66
    generalize (w.alloc (.cells #[.int .i64 0, .float .f64 0, .int .i64 0, .string ⟨#[]⟩] 66)).alloc (.cells #[.int .i64 0, .float .f64 0, .int .i64 0, .string ⟨#[]⟩] 66) = W at *
    obtain ⟨a0, a1, a2, a3⟩ := G.a.act
    have f0 := G.a.frozen
    go_wp2_with fail
    refine (GF.out _).mono ?_
    rintro e w1 ⟨rfl, rfl⟩
    go_upto_region 20 with fail
    clear a0 a1 a2 a3 f0
    replace G := G.put 1 (.float .f64 x)
    generalize W.setCell ⟨w.heap.size + 1, 1, none⟩ (.float .f64 x) = W2 at *
    simp only [List.set_cons_succ, List.set_cons_zero] at G
    obtain ⟨a0, a1, a2, a3⟩ := G.a.act
    go_wp2_with fail
    refine (P.out _).mono ?_
    rintro e w2 ⟨rfl, hb2⟩
    replace G := G.keep hb2
    clear hb2 a0 a1 a2 a3
    obtain ⟨a0, a1, a2, a3⟩ := G.a.act
    obtain ⟨r0, r1, r2, r3⟩ := G.r.act
    have fr := G.r.frozen
    go_wp2_with fail
    refine bodyPost_ret (v := .tuple #[.agg #[.int .i64 0, .float .f64 x, .int .i64 0, .string ⟨#[]⟩], .int .i64 0]) (by simp [results, Tryz.results30, go_sem, r0, r1, r2, r3]) rfl ⟨rfl, ?_⟩
    exact G.bl.store4 (Nat.le_refl _) _ _ _ _
  · have hsf := store_float
    have q0 : ((s.size : Int) == 0) = false := by rw [beq_eq_false_iff_ne]; omega
    go_enter Tryz.func30, Tryz.ntmps30
    go_upto_region 4 with fail
    have G := GA.new w [.int .i64 0, .float .f64 0, .int .i64 0, .string ⟨#[]⟩] [.int .i64 0, .float .f64 0, .int .i64 0, .string ⟨#[]⟩] 66 66
    generalize (w.alloc (.cells #[.int .i64 0, .float .f64 0, .int .i64 0, .string ⟨#[]⟩] 66)).alloc (.cells #[.int .i64 0, .float .f64 0, .int .i64 0, .string ⟨#[]⟩] 66) = W at *
    obtain ⟨a0, a1, a2, a3⟩ := G.a.act
    have f0 := G.a.frozen
    go_wp2_with fail
    refine (GF.out _).mono ?_
    rintro e w1 ⟨rfl, rfl⟩
    go_upto_region 20 with fail
    clear a0 a1 a2 a3 f0
    replace G := G.put 1 (.float .f64 x)
    generalize W.setCell ⟨w.heap.size + 1, 1, none⟩ (.float .f64 x) = W2 at *
    simp only [List.set_cons_succ, List.set_cons_zero] at G
    obtain ⟨a0, a1, a2, a3⟩ := G.a.act
    go_wp2_with fail
    refine (P.out _).mono ?_
    rintro e w2 ⟨rfl, hb2⟩
    replace G := G.keep hb2
    clear hb2 a0 a1 a2 a3
    obtain ⟨a0, a1, a2, a3⟩ := G.a.act
    obtain ⟨r0, r1, r2, r3⟩ := G.r.act
    have fr := G.r.frozen
    go_wp2_with fail
    refine bodyPost_ret (v := .tuple #[.agg #[.int .i64 0, .float .f64 x, .int .i64 0, .string ⟨#[]⟩], .int .i64 0]) (by simp [results, Tryz.results30, go_sem, r0, r1, r2, r3]) rfl ⟨rfl, ?_⟩
    exact G.bl.store4 (Nat.le_refl _) _ _ _ _

set_option maxHeartbeats 1600000 in
set_option maxRecDepth 100000 in
theorem refget_2_bad (s : ByteArray) (w : World) (hp : 0 < s.size) (hc : (s[0].toNat : Int) = 2) (hsz : s.size ≤ 100000) (r : ByteArray) (hr : s.extract 1 s.size = r) (x : Nat) (GF : Hid (∀ w, Calls Tryz.prog 123 #[.string r] w fun e w' => e = .returned (.tuple #[.float .f64 x, .int .i64 4]) ∧ w = w')) (pb : ByteArray) (pc : Int) (P : Hid (∀ w, Calls Tryz.prog 25 #[.agg #[.int .i64 2, .float .f64 x, .int .i64 0, .string ⟨#[]⟩]] w fun e w' => e = .returned (.tuple #[.string pb, .int .i64 pc]) ∧ Bl w w')) :
    Calls Tryz.prog 30 #[.string s] w fun e w' => e = .returned (.tuple #[.agg #[.int .i64 0, .float .f64 0, .int .i64 0, .string ⟨#[]⟩], .int .i64 4]) ∧ Bl w w' := by
  have hsf := store_float
  have q0 : ((s.size : Int) == 0) = false := by rw [beq_eq_false_iff_ne]; omega
  go_enter Tryz.func30, Tryz.ntmps30
  go_upto_region 4 with fail
  have G := GA.new w [.int .i64 0, .float .f64 0, .int .i64 0, .string ⟨#[]⟩] [.int .i64 2, .float .f64 0, .int .i64 0, .string ⟨#[]⟩] 66 66
  generalize (w.alloc (.cells #[.int .i64 0, .float .f64 0, .int .i64 0, .string ⟨#[]⟩] 66)).alloc (.cells #[.int .i64 2, .float .f64 0, .int .i64 0, .string ⟨#[]⟩] 66) = W at *
  obtain ⟨a0, a1, a2, a3⟩ := G.a.act
  have f0 := G.a.frozen
  go_wp2_with fail
  refine (GF.out _).mono ?_
  rintro e w1 ⟨rfl, rfl⟩
  go_upto_region 20 with fail
  clear a0 a1 a2 a3 f0
  replace G := G.put 1 (.float .f64 x)
  generalize W.setCell ⟨w.heap.size + 1, 1, none⟩ (.float .f64 x) = W2 at *
  simp only [List.set_cons_succ, List.set_cons_zero] at G
  obtain ⟨a0, a1, a2, a3⟩ := G.a.act
  go_wp2_with fail
  refine (P.out _).mono ?_
  rintro e w2 ⟨rfl, hb2⟩
  replace G := G.keep hb2
  clear hb2 a0 a1 a2 a3
  obtain ⟨a0, a1, a2, a3⟩ := G.a.act
  obtain ⟨r0, r1, r2, r3⟩ := G.r.act
  have fr := G.r.frozen
  go_wp2_with fail
  refine bodyPost_ret (v := .tuple #[.agg #[.int .i64 0, .float .f64 0, .int .i64 0, .string ⟨#[]⟩], .int .i64 4]) (by simp [results, Tryz.results30, go_sem, r0, r1, r2, r3]) rfl ⟨rfl, ?_⟩
  exact G.bl.store4 (Nat.le_refl _) _ _ _ _

set_option maxHeartbeats 1600000 in
set_option maxRecDepth 100000 in
theorem refget_2_ok (s : ByteArray) (w : World) (hp : 0 < s.size) (hc : (s[0].toNat : Int) = 2) (hsz : s.size ≤ 100000) (r : ByteArray) (hr : s.extract 1 s.size = r) (x : Nat) (GF : Hid (∀ w, Calls Tryz.prog 123 #[.string r] w fun e w' => e = .returned (.tuple #[.float .f64 x, .int .i64 0]) ∧ w = w')) (P : Hid (∀ w, Calls Tryz.prog 25 #[.agg #[.int .i64 2, .float .f64 x, .int .i64 0, .string ⟨#[]⟩]] w fun e w' => e = .returned (.tuple #[.string s, .int .i64 0]) ∧ Bl w w')) :
    Calls Tryz.prog 30 #[.string s] w fun e w' => e = .returned (.tuple #[.agg #[.int .i64 2, .float .f64 x, .int .i64 0, .string ⟨#[]⟩], .int .i64 0]) ∧ Bl w w' := by
  have hsf := store_float
  have q0 : ((s.size : Int) == 0) = false := by rw [beq_eq_false_iff_ne]; omega
  go_enter Tryz.func30, Tryz.ntmps30
  go_upto_region 4 with fail
  have G := GA.new w [.int .i64 0, .float .f64 0, .int .i64 0, .string ⟨#[]⟩] [.int .i64 2, .float .f64 0, .int .i64 0, .string ⟨#[]⟩] 66 66
  generalize (w.alloc (.cells #[.int .i64 0, .float .f64 0, .int .i64 0, .string ⟨#[]⟩] 66)).alloc (.cells #[.int .i64 2, .float .f64 0, .int .i64 0, .string ⟨#[]⟩] 66) = W at *
  obtain ⟨a0, a1, a2, a3⟩ := G.a.act
  have f0 := G.a.frozen
  go_wp2_with fail
  refine (GF.out _).mono ?_
  rintro e w1 ⟨rfl, rfl⟩
  go_upto_region 20 with fail
  clear a0 a1 a2 a3 f0
  replace G := G.put 1 (.float .f64 x)
  generalize W.setCell ⟨w.heap.size + 1, 1, none⟩ (.float .f64 x) = W2 at *
  simp only [List.set_cons_succ, List.set_cons_zero] at G
  obtain ⟨a0, a1, a2, a3⟩ := G.a.act
  go_wp2_with fail
  refine (P.out _).mono ?_
  rintro e w2 ⟨rfl, hb2⟩
  replace G := G.keep hb2
  clear hb2 a0 a1 a2 a3
  obtain ⟨a0, a1, a2, a3⟩ := G.a.act
  obtain ⟨r0, r1, r2, r3⟩ := G.r.act
  have fr := G.r.frozen
  go_wp2_with fail
  refine bodyPost_ret (v := .tuple #[.agg #[.int .i64 2, .float .f64 x, .int .i64 0, .string ⟨#[]⟩], .int .i64 0]) (by simp [results, Tryz.results30, go_sem, r0, r1, r2, r3]) rfl ⟨rfl, ?_⟩
  exact G.bl.store4 (Nat.le_refl _) _ _ _ _

set_option maxHeartbeats 1600000 in
set_option maxRecDepth 100000 in
theorem refget_3_bad (s : ByteArray) (w : World) (hp : 0 < s.size) (hc : (s[0].toNat : Int) = 3) (hsz : s.size ≤ 100000) (r : ByteArray) (hr : s.extract 1 s.size = r) (x : Nat) (GF : Hid (∀ w, Calls Tryz.prog 123 #[.string r] w fun e w' => e = .returned (.tuple #[.float .f64 x, .int .i64 4]) ∧ w = w')) (pb : ByteArray) (pc : Int) (P : Hid (∀ w, Calls Tryz.prog 25 #[.agg #[.int .i64 3, .float .f64 x, .int .i64 0, .string ⟨#[]⟩]] w fun e w' => e = .returned (.tuple #[.string pb, .int .i64 pc]) ∧ Bl w w')) :
    Calls Tryz.prog 30 #[.string s] w fun e w' => e = .returned (.tuple #[.agg #[.int .i64 0, .float .f64 0, .int .i64 0, .string ⟨#[]⟩], .int .i64 4]) ∧ Bl w w' := by
  have hsf := store_float
  have q0 : ((s.size : Int) == 0) = false := by rw [beq_eq_false_iff_ne]; omega
  go_enter Tryz.func30, Tryz.ntmps30
  go_upto_region 4 with fail
  have G := GA.new w [.int .i64 0, .float .f64 0, .int .i64 0, .string ⟨#[]⟩] [.int .i64 3, .float .f64 0, .int .i64 0, .string ⟨#[]⟩] 66 66
  generalize (w.alloc (.cells #[.int .i64 0, .float .f64 0, .int .i64 0, .string ⟨#[]⟩] 66)).alloc (.cells #[.int .i64 3, .float .f64 0, .int .i64 0, .string ⟨#[]⟩] 66) = W at *
  obtain ⟨a0, a1, a2, a3⟩ := G.a.act
  have f0 := G.a.frozen
  go_wp2_with fail
  refine (GF.out _).mono ?_
  rintro e w1 ⟨rfl, rfl⟩
  go_upto_region 20 with fail
  clear a0 a1 a2 a3 f0
  replace G := G.put 1 (.float .f64 x)
  generalize W.setCell ⟨w.heap.size + 1, 1, none⟩ (.float .f64 x) = W2 at *
  simp only [List.set_cons_succ, List.set_cons_zero] at G
  obtain ⟨a0, a1, a2, a3⟩ := G.a.act
  go_wp2_with fail
  refine (P.out _).mono ?_
  rintro e w2 ⟨rfl, hb2⟩
  replace G := G.keep hb2
  clear hb2 a0 a1 a2 a3
  obtain ⟨a0, a1, a2, a3⟩ := G.a.act
  obtain ⟨r0, r1, r2, r3⟩ := G.r.act
  have fr := G.r.frozen
  go_wp2_with fail
  refine bodyPost_ret (v := .tuple #[.agg #[.int .i64 0, .float .f64 0, .int .i64 0, .string ⟨#[]⟩], .int .i64 4]) (by simp [results, Tryz.results30, go_sem, r0, r1, r2, r3]) rfl ⟨rfl, ?_⟩
  exact G.bl.store4 (Nat.le_refl _) _ _ _ _

set_option maxHeartbeats 1600000 in
set_option maxRecDepth 100000 in
theorem refget_3_ok (s : ByteArray) (w : World) (hp : 0 < s.size) (hc : (s[0].toNat : Int) = 3) (hsz : s.size ≤ 100000) (r : ByteArray) (hr : s.extract 1 s.size = r) (x : Nat) (GF : Hid (∀ w, Calls Tryz.prog 123 #[.string r] w fun e w' => e = .returned (.tuple #[.float .f64 x, .int .i64 0]) ∧ w = w')) (P : Hid (∀ w, Calls Tryz.prog 25 #[.agg #[.int .i64 3, .float .f64 x, .int .i64 0, .string ⟨#[]⟩]] w fun e w' => e = .returned (.tuple #[.string s, .int .i64 0]) ∧ Bl w w')) :
    Calls Tryz.prog 30 #[.string s] w fun e w' => e = .returned (.tuple #[.agg #[.int .i64 3, .float .f64 x, .int .i64 0, .string ⟨#[]⟩], .int .i64 0]) ∧ Bl w w' := by
  have hsf := store_float
  have q0 : ((s.size : Int) == 0) = false := by rw [beq_eq_false_iff_ne]; omega
  go_enter Tryz.func30, Tryz.ntmps30
  go_upto_region 4 with fail
  have G := GA.new w [.int .i64 0, .float .f64 0, .int .i64 0, .string ⟨#[]⟩] [.int .i64 3, .float .f64 0, .int .i64 0, .string ⟨#[]⟩] 66 66
  generalize (w.alloc (.cells #[.int .i64 0, .float .f64 0, .int .i64 0, .string ⟨#[]⟩] 66)).alloc (.cells #[.int .i64 3, .float .f64 0, .int .i64 0, .string ⟨#[]⟩] 66) = W at *
  obtain ⟨a0, a1, a2, a3⟩ := G.a.act
  have f0 := G.a.frozen
  go_wp2_with fail
  refine (GF.out _).mono ?_
  rintro e w1 ⟨rfl, rfl⟩
  go_upto_region 20 with fail
  clear a0 a1 a2 a3 f0
  replace G := G.put 1 (.float .f64 x)
  generalize W.setCell ⟨w.heap.size + 1, 1, none⟩ (.float .f64 x) = W2 at *
  simp only [List.set_cons_succ, List.set_cons_zero] at G
  obtain ⟨a0, a1, a2, a3⟩ := G.a.act
  go_wp2_with fail
  refine (P.out _).mono ?_
  rintro e w2 ⟨rfl, hb2⟩
  replace G := G.keep hb2
  clear hb2 a0 a1 a2 a3
  obtain ⟨a0, a1, a2, a3⟩ := G.a.act
  obtain ⟨r0, r1, r2, r3⟩ := G.r.act
  have fr := G.r.frozen
  go_wp2_with fail
  refine bodyPost_ret (v := .tuple #[.agg #[.int .i64 3, .float .f64 x, .int .i64 0, .string ⟨#[]⟩], .int .i64 0]) (by simp [results, Tryz.results30, go_sem, r0, r1, r2, r3]) rfl ⟨rfl, ?_⟩
  exact G.bl.store4 (Nat.le_refl _) _ _ _ _

set_option maxHeartbeats 1600000 in
set_option maxRecDepth 100000 in
theorem refget_4_bad (s : ByteArray) (w : World) (hp : 0 < s.size) (hc : (s[0].toNat : Int) = 4) (hsz : s.size ≤ 100000) (pb : ByteArray) (qs : (pb.toList == s.toList) = false) (P : Hid (∀ w, Calls Tryz.prog 25 #[.agg #[.int .i64 4, .float .f64 0, .int .i64 0, .string ⟨#[]⟩]] w fun e w' => e = .returned (.tuple #[.string pb, .int .i64 0]) ∧ Bl w w')) :
    Calls Tryz.prog 30 #[.string s] w fun e w' => e = .returned (.tuple #[.agg #[.int .i64 0, .float .f64 0, .int .i64 0, .string ⟨#[]⟩], .int .i64 4]) ∧ Bl w w' := by
  have hsf := store_float
  have q0 : ((s.size : Int) == 0) = false := by rw [beq_eq_false_iff_ne]; omega
  go_enter Tryz.func30, Tryz.ntmps30
  go_upto_region 4 with fail
  have G := GA.new w [.int .i64 0, .float .f64 0, .int .i64 0, .string ⟨#[]⟩] [.int .i64 4, .float .f64 0, .int .i64 0, .string ⟨#[]⟩] 66 66
  generalize (w.alloc (.cells #[.int .i64 0, .float .f64 0, .int .i64 0, .string ⟨#[]⟩] 66)).alloc (.cells #[.int .i64 4, .float .f64 0, .int .i64 0, .string ⟨#[]⟩] 66) = W at *
  obtain ⟨a0, a1, a2, a3⟩ := G.a.act
  have f0 := G.a.frozen
  go_upto_region 20 with fail
  clear a0 a1 a2 a3 f0
  obtain ⟨a0, a1, a2, a3⟩ := G.a.act
  go_wp2_with fail
  refine (P.out _).mono ?_
  rintro e w2 ⟨rfl, hb2⟩
  replace G := G.keep hb2
  clear hb2 a0 a1 a2 a3
  obtain ⟨a0, a1, a2, a3⟩ := G.a.act
  obtain ⟨r0, r1, r2, r3⟩ := G.r.act
  have fr := G.r.frozen
  go_wp2_with fail
  refine bodyPost_ret (v := .tuple #[.agg #[.int .i64 0, .float .f64 0, .int .i64 0, .string ⟨#[]⟩], .int .i64 4]) (by simp [results, Tryz.results30, go_sem, r0, r1, r2, r3]) rfl ⟨rfl, ?_⟩
  exact G.bl.store4 (Nat.le_refl _) _ _ _ _

set_option maxHeartbeats 1600000 in
set_option maxRecDepth 100000 in
theorem refget_4_ok (s : ByteArray) (w : World) (hp : 0 < s.size) (hc : (s[0].toNat : Int) = 4) (hsz : s.size ≤ 100000) (P : Hid (∀ w, Calls Tryz.prog 25 #[.agg #[.int .i64 4, .float .f64 0, .int .i64 0, .string ⟨#[]⟩]] w fun e w' => e = .returned (.tuple #[.string s, .int .i64 0]) ∧ Bl w w')) :
    Calls Tryz.prog 30 #[.string s] w fun e w' => e = .returned (.tuple #[.agg #[.int .i64 4, .float .f64 0, .int .i64 0, .string ⟨#[]⟩], .int .i64 0]) ∧ Bl w w' := by
  have hsf := store_float
  have q0 : ((s.size : Int) == 0) = false := by rw [beq_eq_false_iff_ne]; omega
  go_enter Tryz.func30, Tryz.ntmps30
  go_upto_region 4 with fail
  have G := GA.new w [.int .i64 0, .float .f64 0, .int .i64 0, .string ⟨#[]⟩] [.int .i64 4, .float .f64 0, .int .i64 0, .string ⟨#[]⟩] 66 66
  generalize (w.alloc (.cells #[.int .i64 0, .float .f64 0, .int .i64 0, .string ⟨#[]⟩] 66)).alloc (.cells #[.int .i64 4, .float .f64 0, .int .i64 0, .string ⟨#[]⟩] 66) = W at *
  obtain ⟨a0, a1, a2, a3⟩ := G.a.act
  have f0 := G.a.frozen
  go_upto_region 20 with fail
  clear a0 a1 a2 a3 f0
  obtain ⟨a0, a1, a2, a3⟩ := G.a.act
  go_wp2_with fail
  refine (P.out _).mono ?_
  rintro e w2 ⟨rfl, hb2⟩
  replace G := G.keep hb2
  clear hb2 a0 a1 a2 a3
  obtain ⟨a0, a1, a2, a3⟩ := G.a.act
  obtain ⟨r0, r1, r2, r3⟩ := G.r.act
  have fr := G.r.frozen
  go_wp2_with fail
  refine bodyPost_ret (v := .tuple #[.agg #[.int .i64 4, .float .f64 0, .int .i64 0, .string ⟨#[]⟩], .int .i64 0]) (by simp [results, Tryz.results30, go_sem, r0, r1, r2, r3]) rfl ⟨rfl, ?_⟩
  exact G.bl.store4 (Nat.le_refl _) _ _ _ _

set_option maxHeartbeats 1600000 in
set_option maxRecDepth 100000 in
theorem refget_1_bad (s : ByteArray) (w : World) (hp : 0 < s.size) (hc : (s[0].toNat : Int) = 1) (hsz : s.size ≤ 100000) (h9 : s.size ≠ 9) (pb : ByteArray) (pc : Int) (P : Hid (∀ w, Calls Tryz.prog 25 #[.agg #[.int .i64 1, .float .f64 0, .int .i64 0, .string ⟨#[]⟩]] w fun e w' => e = .returned (.tuple #[.string pb, .int .i64 pc]) ∧ Bl w w')) :
    Calls Tryz.prog 30 #[.string s] w fun e w' => e = .returned (.tuple #[.agg #[.int .i64 0, .float .f64 0, .int .i64 0, .string ⟨#[]⟩], .int .i64 4]) ∧ Bl w w' := by
  have q9 : ((s.size : Int) == 9) = false := by rw [beq_eq_false_iff_ne]; omega
  have hsf := store_float
  have q0 : ((s.size : Int) == 0) = false := by rw [beq_eq_false_iff_ne]; omega
  go_enter Tryz.func30, Tryz.ntmps30
  go_upto_region 4 with fail
  have G := GA.new w [.int .i64 0, .float .f64 0, .int .i64 0, .string ⟨#[]⟩] [.int .i64 1, .float .f64 0, .int .i64 0, .string ⟨#[]⟩] 66 66
  generalize (w.alloc (.cells #[.int .i64 0, .float .f64 0, .int .i64 0, .string ⟨#[]⟩] 66)).alloc (.cells #[.int .i64 1, .float .f64 0, .int .i64 0, .string ⟨#[]⟩] 66) = W at *
  obtain ⟨a0, a1, a2, a3⟩ := G.a.act
  have f0 := G.a.frozen
  go_upto_region 20 with fail
  clear a0 a1 a2 a3 f0
  obtain ⟨a0, a1, a2, a3⟩ := G.a.act
  go_wp2_with fail
  refine (P.out _).mono ?_
  rintro e w2 ⟨rfl, hb2⟩
  replace G := G.keep hb2
  clear hb2 a0 a1 a2 a3
  obtain ⟨a0, a1, a2, a3⟩ := G.a.act
  obtain ⟨r0, r1, r2, r3⟩ := G.r.act
  have fr := G.r.frozen
  go_wp2_with fail
  refine bodyPost_ret (v := .tuple #[.agg #[.int .i64 0, .float .f64 0, .int .i64 0, .string ⟨#[]⟩], .int .i64 4]) (by simp [results, Tryz.results30, go_sem, r0, r1, r2, r3]) rfl ⟨rfl, ?_⟩
  exact G.bl.store4 (Nat.le_refl _) _ _ _ _

set_option maxHeartbeats 1600000 in
set_option maxRecDepth 100000 in
theorem refget_1_ok (s : ByteArray) (w : World) (hp : 0 < s.size) (hc : (s[0].toNat : Int) = 1) (hsz : s.size ≤ 100000) (h9 : s.size = 9) (N : Int) (HW : Hid (wrap64 (getN (s.data.toList.drop 1)) = N)) (P : Hid (∀ w, Calls Tryz.prog 25 #[.agg #[.int .i64 1, .float .f64 0, .int .i64 N, .string ⟨#[]⟩]] w fun e w' => e = .returned (.tuple #[.string s, .int .i64 0]) ∧ Bl w w')) :
    Calls Tryz.prog 30 #[.string s] w fun e w' => e = .returned (.tuple #[.agg #[.int .i64 1, .float .f64 0, .int .i64 N, .string ⟨#[]⟩], .int .i64 0]) ∧ Bl w w' := by
  have hsf := store_float
  have q0 : ((s.size : Int) == 0) = false := by rw [beq_eq_false_iff_ne]; omega
  go_enter Tryz.func30, Tryz.ntmps30
  go_upto_region 4 with fail
  have G := GA.new w [.int .i64 0, .float .f64 0, .int .i64 0, .string ⟨#[]⟩] [.int .i64 1, .float .f64 0, .int .i64 0, .string ⟨#[]⟩] 66 66
  generalize (w.alloc (.cells #[.int .i64 0, .float .f64 0, .int .i64 0, .string ⟨#[]⟩] 66)).alloc (.cells #[.int .i64 1, .float .f64 0, .int .i64 0, .string ⟨#[]⟩] 66) = W at *
  obtain ⟨a0, a1, a2, a3⟩ := G.a.act
  have f0 := G.a.frozen
  go_wp2_with fail
  clear a0 a1 a2 a3 f0
  go_loopw [6] (fun i wr => ∃ (k n : Nat), 1 ≤ k ∧ k ≤ 9 ∧ i = .int .i64 k ∧ Hid ((n : Int) = getN ((s.data.toList.take k).drop 1)) ∧ GA w wr [.int .i64 0, .float .f64 0, .int .i64 0, .string ⟨#[]⟩] [.int .i64 1, .float .f64 0, .int .i64 (wrap64 n), .string ⟨#[]⟩]) (fun i _ => 10 - (intOf i).toNat)
  case atStart => exact ⟨1, 0, Nat.le_refl _, by decide, rfl, Lib.hid (by rw [List.drop_eq_nil_of_le (by rw [List.length_take]; omega)]; rfl), by rw [show wrap64 ((0 : Nat) : Int) = 0 by unfold wrap64; omega]; exact G⟩
  case round =>
    clear G
    obtain ⟨k, n, hk1, hk, rfl, HN, G⟩ := hrel
    by_cases hlt : k < 9
    · have hl8 : ((s.data.toList.take k).drop 1).length ≤ 7 := by rw [List.length_drop, List.length_take]; omega
      have hbd := getN_bound ((s.data.toList.take k).drop 1)
      have hn56 : n < 72057594037927936 := by
        have h3 : (256 : Int) ^ ((s.data.toList.take k).drop 1).length ≤ 256 ^ 7 := by
          have := Nat.pow_le_pow_right (show 0 < 256 by decide) hl8
          exact_mod_cast this
        have := hbd.2
        have h4 := HN.out
        omega
      clear hbd hl8
      have hw : wrap64 (n : Int) = (n : Int) := by unfold wrap64; omega
      rw [hw] at G
      clear hw
      have hks : k < s.size := by omega
      have HS := Lib.hid (getN_drop_take (s := s) hk1 hks)
      have ho := or_i64 n s[k].toNat hn56 (UInt8.toNat_lt _)
      obtain ⟨a0, a1, a2, a3⟩ := G.a.act
      have f0 := G.a.frozen
      have hsl : IntKind.i64.wrap ((n : Int) * 256) = wrap64 ((n : Int) * 256) := by rw [IntKind.wrap_i64]; unfold wrap64; omega
      have hsw : IntKind.i64.wrap (s[k].toNat : Int) = (s[k].toNat : Int) := by rw [IntKind.wrap_i64]; have := UInt8.toNat_lt s[k]; omega
      go_wp2_with fail
      obtain ⟨wd, hwd⟩ : ∃ wd, wd = wr.drew := ⟨_, rfl⟩
      replace G := G.keep (show Bl wr wd by rw [hwd]; exact (Bl.refl wr).drew)
      go_still_tail 9, (by kernel_rfl)
      change wpList _ _ _ _ _ wr.drew
      rw [← hwd]
      clear hwd a0 a1 a2 a3 f0 ho hsl hsw
      obtain ⟨a0, a1, a2, a3⟩ := G.a.act
      have f0 := G.a.frozen
      go_wp2_with fail
      go_roundw
      case rel => exact ⟨k + 1, n * 256 + s[k].toNat, by omega, by omega, by go_num, Lib.hid (by rw [HS.out, ← HN.out]; push_cast; rfl), by rw [show ((n * 256 + s[k].toNat : Nat) : Int) = (n : Int) * 256 + (s[k].toNat : Int) by push_cast; rfl]; exact G.put 2 _⟩
      case measure => simp [intOf]; omega
    · obtain rfl : k = 9 := by omega
      have e : wrap64 (n : Int) = N := by rw [HN.out, List.take_of_length_le (by simp [h9])]; exact HW.out
      rw [e] at G
      clear e HN hk hk1 hlt
      obtain ⟨a0, a1, a2, a3⟩ := G.a.act
      go_wp2_with fail
      refine (P.out _).mono ?_
      rintro e w2 ⟨rfl, hb2⟩
      replace G := G.keep hb2
      clear hb2 a0 a1 a2 a3
      obtain ⟨a0, a1, a2, a3⟩ := G.a.act
      obtain ⟨r0, r1, r2, r3⟩ := G.r.act
      have fr := G.r.frozen
      go_wp2_with fail
      refine bodyPost_ret (v := .tuple #[.agg #[.int .i64 1, .float .f64 0, .int .i64 N, .string ⟨#[]⟩], .int .i64 0]) (by simp [results, Tryz.results30, go_sem, r0, r1, r2, r3]) rfl ⟨rfl, ?_⟩
      exact G.bl.store4 (Nat.le_refl _) _ _ _ _

end Go.Proofs.YtaplefelfiefaaaGreat

namespace Go.Proofs.YtaplefelfiefaaaGreat
open Go.RowKit

theorem getN_inj : ∀ (n : Nat) (l m : List UInt8), l.length = n → m.length = n → getN l = getN m → l = m := by
  intro n
  induction n with
  | zero => intro l m hl hm _; rw [List.eq_nil_of_length_eq_zero hl, List.eq_nil_of_length_eq_zero hm]
  | succ n ih =>
    intro l m hl hm h
    have hl0 : l ≠ [] := by rintro rfl; simp at hl
    have hm0 : m ≠ [] := by rintro rfl; simp at hm
    have el := List.dropLast_concat_getLast hl0
    have em := List.dropLast_concat_getLast hm0
    rw [← el, ← em, getN_snoc, getN_snoc] at h
    have b1 := UInt8.toNat_lt (l.getLast hl0)
    have b2 := UInt8.toNat_lt (m.getLast hm0)
    have h1 : getN l.dropLast = getN m.dropLast := by omega
    have h2 : (l.getLast hl0).toNat = (m.getLast hm0).toNat := by omega
    have h3 := ih l.dropLast m.dropLast (by simp [hl]) (by simp [hm]) h1
    have h4 : l.getLast hl0 = m.getLast hm0 := UInt8.toNat_inj.1 h2
    rw [← el, ← em, h3, h4]
theorem getN_lt8 {l : List UInt8} (h : l.length = 8) : 0 ≤ getN l ∧ (getN l).toNat < two64 := by
  have hb := getN_bound l
  rw [h] at hb
  unfold two64
  exact ⟨hb.1, by omega⟩
theorem bytes_getN {l : List UInt8} (h : l.length = 8) : bytesN8 (getN l).toNat = l := by
  obtain ⟨h0, h1⟩ := getN_lt8 h
  refine getN_inj 8 _ _ (bytesN8_len _) h ?_
  rw [getN_put8 _ h1]; omega
theorem fkey_getR {u : Nat} (h : u < two64) (hc : (getR u).2 = 0) : fkey (getR u).1 = u := by
  unfold getR at *
  by_cases h0 : u = 0
  · rw [if_pos h0]; subst h0; decide +kernel
  · rw [if_neg h0] at hc ⊢
    cases hn : nanB (backW u)
    · rw [if_neg (by simp)]
      show fkey (backW u) = u
      rw [fkey_num hn]
      unfold backW
      by_cases k : two63 ≤ u
      · rw [if_pos k, if_neg (by unfold two63 two64 at *; omega)]; omega
      · rw [if_neg k, if_pos (by unfold two63 two64 at *; omega)]; unfold two64 at *; omega
    · rw [hn, if_pos rfl] at hc; exact absurd hc (by decide)
theorem bytes_getR {l : List UInt8} (h : l.length = 8) (hc : (getR (getN l).toNat).2 = 0) : bytesN8 (fkey (getR (getN l).toNat).1) = l := by
  rw [fkey_getR (getN_lt8 h).2 hc, bytes_getN h]
theorem bytes_wrap {l : List UInt8} (h : l.length = 8) : bytesN8 (wrap64 (getN l) % 18446744073709551616).toNat = l := by
  have hb := getN_bound l
  rw [h] at hb
  have e : (wrap64 (getN l) % 18446744073709551616).toNat = (getN l).toNat := by unfold wrap64; omega
  rw [e, bytes_getN h]
theorem getP_codes (b : ByteArray) : (getP b).2 = 0 ∨ (getP b).2 = 4 := by
  unfold getP getR
  (repeat' split) <;> first | exact .inl rfl | exact .inr rfl
/-- a number, read as the document does -/
theorem numA_getP {k : Int} {r : ByteArray} {m : List UInt8} (h : SB r m) : (numA k m = (⟨k, (getP r).1, 0, nilS⟩, 0) ∧ (getP r).2 = 0 ∧ bytesN8 (fkey (getP r).1) = m) ∨ (numA k m = badA ∧ (getP r).2 = 4) := by
  have hz := h.size
  have hd : r.data.toList = m := h
  by_cases h8 : m.length = 8
  · have e : getP r = getR (getN m).toNat := by unfold getP; rw [if_pos (by omega), hd]
    rcases getP_codes r with hc | hc
    · left
      rw [e] at hc ⊢
      exact ⟨by unfold numA; rw [if_pos ⟨h8, hc⟩], hc, bytes_getR h8 hc⟩
    · right
      refine ⟨?_, hc⟩
      rw [e] at hc
      unfold numA; rw [if_neg (fun x => by rw [hc] at x; exact absurd x.2 (by decide))]
  · right
    have e : getP r = (0, 4) := by unfold getP; rw [if_neg (by omega)]
    exact ⟨by unfold numA; rw [if_neg (fun x => h8 x.1)], by rw [e]⟩
/-- what PutAct answers, as the ways ask for it -/
theorem refPut_some (k : Int) (x : Nat) (n : Int) (s : ByteArray) (oa : ActL.Ok ⟨k, x, n, s⟩) : ∃ (b : ByteArray) (c : Int), Hid (∀ w, Calls Tryz.prog 25 #[.agg #[.int .i64 k, .float .f64 x, .int .i64 n, .string s]] w fun e w' => e = .returned (.tuple #[.string b, .int .i64 c]) ∧ Bl w w') :=
  ⟨_, _, Lib.hid fun w => refPut_agg k x n s ⟨(putS ⟨k, x, n, s⟩).toArray⟩ _ w (Lib.hid oa) (Lib.hid ⟨SB.mk _, rfl⟩)⟩
theorem refPut_yes (k : Int) (x : Nat) (n : Int) (s b : ByteArray) (oa : ActL.Ok ⟨k, x, n, s⟩) (hr : rightB ⟨k, x, n, s⟩ = true) (hb : SB b (putA ⟨k, x, n, s⟩)) : Hid (∀ w, Calls Tryz.prog 25 #[.agg #[.int .i64 k, .float .f64 x, .int .i64 n, .string s]] w fun e w' => e = .returned (.tuple #[.string b, .int .i64 0]) ∧ Bl w w') :=
  Lib.hid fun w => refPut_agg k x n s b 0 w (Lib.hid oa) (Lib.hid ⟨by unfold putS; rw [hr]; exact hb, by unfold putC; rw [hr]; rfl⟩)
theorem refPut_bad (k : Int) (x : Nat) (n : Int) (s : ByteArray) (oa : ActL.Ok ⟨k, x, n, s⟩) (hr : rightB ⟨k, x, n, s⟩ = false) : ∃ b : ByteArray, Hid (∀ w, Calls Tryz.prog 25 #[.agg #[.int .i64 k, .float .f64 x, .int .i64 n, .string s]] w fun e w' => e = .returned (.tuple #[.string b, .int .i64 40]) ∧ Bl w w') :=
  ⟨⟨#[]⟩, Lib.hid fun w => refPut_agg k x n s ⟨#[]⟩ 40 w (Lib.hid oa) (Lib.hid ⟨by unfold putS; rw [hr]; rfl, by unfold putC; rw [hr]; rfl⟩)⟩
theorem act_ok {k : Int} {x : Nat} {n : Int} {s : ByteArray} (hk : -9223372036854775808 ≤ k ∧ k ≤ 9223372036854775807) (hx : x < two64) (hn : -9223372036854775808 ≤ n ∧ n ≤ 9223372036854775807) (hs : s.size ≤ 140737488351232) : ActL.Ok ⟨k, x, n, s⟩ := ⟨hk, hx, hn, hs⟩
theorem nil_size : nilS.size ≤ 140737488351232 := by decide
theorem wrap_ok (a : Int) : -9223372036854775808 ≤ wrap64 a ∧ wrap64 a ≤ 9223372036854775807 := by unfold wrap64; omega
theorem right_num0 (x : Nat) : rightB ⟨0, x, 0, nilS⟩ = true := by simp [rightB, nil_list, show nilS.size = 0 from rfl]
theorem right_clear : rightB ⟨4, 0, 0, nilS⟩ = true := by decide +kernel
def outA (p : ActL × Int) : Ending := .returned (.tuple #[.agg #[.int .i64 p.1.k, .float .f64 p.1.x, .int .i64 p.1.n, .string p.1.s], .int .i64 p.2])
theorem u8_is {c : UInt8} {k : Nat} (h : c.toNat = k) (hk : k < 256) : c = UInt8.ofNat k := by
  apply UInt8.toNat_inj.1
  rw [h, UInt8.toNat_ofNat']; omega
theorem drop_SB {s : ByteArray} {l : List UInt8} (h : SB s l) (k : Nat) : SB (s.extract k s.size) (l.drop k) := by
  rw [SB, Lib.extract_data, h]
  exact List.take_of_length_le (by rw [List.length_drop, h.size]; omega)

theorem refGetA_zero (s : ByteArray) (t : List UInt8) (w : World) (hs : SB s (0 :: t)) (hsz : s.size ≤ 100000) :
    Calls Tryz.prog 30 #[.string s] w fun e w' => e = outA (setA t) ∧ Bl w w' := by
  have hz := hs.size
  rw [List.length_cons] at hz
  have hp : 0 < s.size := by omega
  have h0 : (s[0].toNat : Int) = 0 := by rw [hs.get 0 hp (by simp)]; rfl
  obtain ⟨pb, pc, P⟩ := refPut_some 0 0 0 nilS (act_ok (by decide) (by decide) (by decide) nil_size)
  cases t with
  | nil =>
    exact refget_0short s w hp h0 hsz (by simpa using hz) pb pc P
  | cons c u =>
    rw [List.length_cons] at hz
    have h1 : 1 < s.size := by omega
    have ec : s[1] = c := by rw [hs.get 1 h1 (by simp)]; rfl
    have hu := drop_SB hs 2
    rw [show (0 :: c :: u).drop 2 = u from rfl] at hu
    by_cases h110 : c.toNat = 110
    · obtain rfl := u8_is h110 (by decide)
      have e : setA (UInt8.ofNat 110 :: u) = numA 0 u := rfl
      rw [e]
      rcases numA_getP (k := 0) hu with ⟨e1, e2, e3⟩ | ⟨e1, e2⟩
      · rw [e1]
        have hx := getP_lt (s.extract 2 s.size)
        have G := fun w => refGetP_any (s.extract 2 s.size) w
        rw [e2] at G
        generalize getP (s.extract 2 s.size) = p at *
        refine refget_0n_ok s w hp h0 hsz h1 (by rw [ec]; rfl) (by rw [ec]; rfl) _ rfl p.1 (Lib.hid G) (refPut_yes 0 p.1 0 nilS s (act_ok (by decide) hx (by decide) nil_size) (right_num0 _) ?_)
        have : putA ⟨0, p.1, 0, nilS⟩ = 0 :: 110 :: bytesN8 (fkey p.1) := by unfold putA; rw [if_pos rfl, nil_empty]; rfl
        rw [this, e3]; exact hs
      · rw [e1]
        have hx := getP_lt (s.extract 2 s.size)
        have G := fun w => refGetP_any (s.extract 2 s.size) w
        rw [e2] at G
        generalize getP (s.extract 2 s.size) = p at *
        obtain ⟨qb, qc, Q⟩ := refPut_some 0 p.1 0 nilS (act_ok (by decide) hx (by decide) nil_size)
        exact refget_0n_bad s w hp h0 hsz h1 (by rw [ec]; rfl) (by rw [ec]; rfl) _ rfl p.1 (Lib.hid G) qb qc Q
    · by_cases h116 : c.toNat = 116
      · obtain rfl := u8_is h116 (by decide)
        by_cases h2 : 2 < s.size
        · have e : setA (UInt8.ofNat 116 :: u) = if u.length ≤ 1024 then (⟨0, 0, 0, ⟨u.toArray⟩⟩, 0) else badA := by
            show (if 2 ≤ (UInt8.ofNat 116 :: u).length ∧ (UInt8.ofNat 116 :: u).length ≤ 1025 then ((⟨0, 0, 0, ⟨u.toArray⟩⟩, 0) : ActL × Int) else badA) = _
            rw [List.length_cons]
            by_cases hl : u.length ≤ 1024
            · rw [if_pos hl, if_pos (by omega)]
            · rw [if_neg hl, if_neg (by omega)]
          rw [e]
          have eu : s.extract 2 s.size = ⟨u.toArray⟩ := SB.eq hu (SB.mk _)
          have hzu : (ByteArray.mk u.toArray).size = u.length := (SB.mk u).size
          have hu0 : u ≠ [] := by rintro rfl; simp at hz; omega
          have hne : (ByteArray.mk u.toArray).toList.isEmpty = false := by
            rw [ByteArray.toList_eq]
            cases u with
            | nil => exact absurd rfl hu0
            | cons a l => rfl
          by_cases hl : u.length ≤ 1024
          · rw [if_pos hl]
            have hr : rightB ⟨0, 0, 0, ⟨u.toArray⟩⟩ = true := by
              simp only [rightB, hzu]
              rw [decide_eq_true hl]
              simp [nought_zero]
            refine refget_0t_ok s w hp h0 hsz h2 (by rw [ec]; rfl) _ eu (refPut_yes 0 0 0 ⟨u.toArray⟩ s (act_ok (by decide) (by decide) (by decide) (by rw [hzu]; omega)) hr ?_)
            have : putA ⟨0, 0, 0, ⟨u.toArray⟩⟩ = 0 :: 116 :: u := by unfold putA; rw [if_pos rfl, hne]; rfl
            rw [this]; exact hs
          · rw [if_neg hl]
            have hr : rightB ⟨0, 0, 0, ⟨u.toArray⟩⟩ = false := by
              simp only [rightB, hzu]
              rw [decide_eq_false hl]; rfl
            obtain ⟨qb, Q⟩ := refPut_bad 0 0 0 ⟨u.toArray⟩ (act_ok (by decide) (by decide) (by decide) (by rw [hzu]; omega)) hr
            exact refget_0t_bad s w hp h0 hsz h2 (by rw [ec]; rfl) _ eu qb Q
        · have hu0 : u = [] := List.eq_nil_of_length_eq_zero (by omega)
          subst hu0
          exact refget_0two s w hp h0 hsz (by omega) (by rw [ec]; rfl) pb pc P
      · have e : setA (c :: u) = badA := by
          unfold setA
          rw [if_neg (by simp), if_neg (fun e => h110 (by rw [show (c :: u).headD 0 = c from rfl] at e; rw [e]; rfl)), if_neg (fun e => h116 (by rw [show (c :: u).headD 0 = c from rfl] at e; rw [e]; rfl))]
        rw [e]
        exact refget_0other s w hp h0 hsz h1 (by rw [ec, beq_eq_false_iff_ne]; omega) (by rw [ec, beq_eq_false_iff_ne]; omega) pb pc P
/-- bedrockref5.GetAct is op.Get -/
theorem refGetA_any (s : ByteArray) (l : List UInt8) (w : World) (hs : SB s l) (hsz : s.size ≤ 100000) :
    Calls Tryz.prog 30 #[.string s] w fun e w' => e = outA (getA l) ∧ Bl w w' := by
  cases l with
  | nil => exact refget_early s w (.inl hs.size)
  | cons c t =>
    have hz := hs.size
    rw [List.length_cons] at hz
    have hp : 0 < s.size := by omega
    have e0 : s[0] = c := by rw [hs.get 0 hp (by simp)]; rfl
    have ht := drop_SB hs 1
    rw [show (c :: t).drop 1 = t from rfl] at ht
    by_cases k0 : c.toNat = 0
    · obtain rfl := u8_is k0 (by decide)
      exact refGetA_zero s t w hs hsz
    by_cases k1 : c.toNat = 1
    · obtain rfl := u8_is k1 (by decide)
      have hc : (s[0].toNat : Int) = 1 := by rw [e0]; rfl
      by_cases h8 : t.length = 8
      · have e : getA (UInt8.ofNat 1 :: t) = (⟨1, 0, wrap64 (getN t), nilS⟩, 0) := by
          show (if t.length = 8 then ((⟨1, 0, wrap64 (getN t), nilS⟩, 0) : ActL × Int) else badA) = _
          rw [if_pos h8]
        rw [e]
        have hd : s.data.toList.drop 1 = t := by rw [show s.data.toList = _ from hs]; rfl
        refine refget_1_ok s w hp hc hsz (by omega) _ (Lib.hid (by rw [hd])) (refPut_yes 1 0 (wrap64 (getN t)) nilS s (act_ok (by decide) (by decide) (wrap_ok _) nil_size) (right_add _) ?_)
        have : putA ⟨1, 0, wrap64 (getN t), nilS⟩ = 1 :: t := by unfold putA; rw [if_neg (show ¬ (1 : Int) = 0 by decide), if_pos rfl, bytes_wrap h8]
        rw [this]; exact hs
      · have e : getA (UInt8.ofNat 1 :: t) = badA := by
          show (if t.length = 8 then ((⟨1, 0, wrap64 (getN t), nilS⟩, 0) : ActL × Int) else badA) = _
          rw [if_neg h8]
        rw [e]
        obtain ⟨pb, pc, P⟩ := refPut_some 1 0 0 nilS (act_ok (by decide) (by decide) (by decide) nil_size)
        exact refget_1_bad s w hp hc hsz (by omega) pb pc P
    by_cases k2 : c.toNat = 2
    · obtain rfl := u8_is k2 (by decide)
      have hc : (s[0].toNat : Int) = 2 := by rw [e0]; rfl
      have e : getA (UInt8.ofNat 2 :: t) = numA 2 t := rfl
      rw [e]
      have hx := getP_lt (s.extract 1 s.size)
      have G := fun w => refGetP_any (s.extract 1 s.size) w
      rcases numA_getP (k := 2) ht with ⟨e1, e2, e3⟩ | ⟨e1, e2⟩
      · rw [e1]
        rw [e2] at G
        generalize getP (s.extract 1 s.size) = p at *
        refine refget_2_ok s w hp hc hsz _ rfl p.1 (Lib.hid G) (refPut_yes 2 p.1 0 nilS s (act_ok (by decide) hx (by decide) nil_size) (right_max _) ?_)
        have : putA ⟨2, p.1, 0, nilS⟩ = 2 :: bytesN8 (fkey p.1) := rfl
        rw [this, e3]; exact hs
      · rw [e1]
        rw [e2] at G
        generalize getP (s.extract 1 s.size) = p at *
        obtain ⟨qb, qc, Q⟩ := refPut_some 2 p.1 0 nilS (act_ok (by decide) hx (by decide) nil_size)
        exact refget_2_bad s w hp hc hsz _ rfl p.1 (Lib.hid G) qb qc Q
    by_cases k3 : c.toNat = 3
    · obtain rfl := u8_is k3 (by decide)
      have hc : (s[0].toNat : Int) = 3 := by rw [e0]; rfl
      have e : getA (UInt8.ofNat 3 :: t) = numA 3 t := rfl
      rw [e]
      have hx := getP_lt (s.extract 1 s.size)
      have G := fun w => refGetP_any (s.extract 1 s.size) w
      rcases numA_getP (k := 3) ht with ⟨e1, e2, e3⟩ | ⟨e1, e2⟩
      · rw [e1]
        rw [e2] at G
        generalize getP (s.extract 1 s.size) = p at *
        refine refget_3_ok s w hp hc hsz _ rfl p.1 (Lib.hid G) (refPut_yes 3 p.1 0 nilS s (act_ok (by decide) hx (by decide) nil_size) (right_min _) ?_)
        have : putA ⟨3, p.1, 0, nilS⟩ = 3 :: bytesN8 (fkey p.1) := rfl
        rw [this, e3]; exact hs
      · rw [e1]
        rw [e2] at G
        generalize getP (s.extract 1 s.size) = p at *
        obtain ⟨qb, qc, Q⟩ := refPut_some 3 p.1 0 nilS (act_ok (by decide) hx (by decide) nil_size)
        exact refget_3_bad s w hp hc hsz _ rfl p.1 (Lib.hid G) qb qc Q
    by_cases k4 : c.toNat = 4
    · obtain rfl := u8_is k4 (by decide)
      have hc : (s[0].toNat : Int) = 4 := by rw [e0]; rfl
      have hp4 : putA ⟨4, 0, 0, nilS⟩ = [4] := rfl
      by_cases ht0 : t = []
      · subst ht0
        have e : getA [UInt8.ofNat 4] = (⟨4, 0, 0, nilS⟩, 0) := rfl
        rw [e]
        exact refget_4_ok s w hp hc hsz (refPut_yes 4 0 0 nilS s (act_ok (by decide) (by decide) (by decide) nil_size) right_clear (by rw [hp4]; exact hs))
      · have e : getA (UInt8.ofNat 4 :: t) = badA := by
          show (if t = [] then ((⟨4, 0, 0, nilS⟩, 0) : ActL × Int) else badA) = _
          rw [if_neg ht0]
        rw [e]
        refine refget_4_bad s w hp hc hsz ⟨#[4]⟩ ?_ (refPut_yes 4 0 0 nilS ⟨#[4]⟩ (act_ok (by decide) (by decide) (by decide) nil_size) right_clear rfl)
        rw [beq_eq_false_iff_ne, ByteArray.toList_eq, ByteArray.toList_eq, show s.data.toList = _ from hs]
        intro h
        exact ht0 (List.cons.inj h).2.symm
    · have e : getA (c :: t) = badA := by
        have hh : (c :: t).headD 0 = c := rfl
        unfold getA
        rw [if_neg (by simp), hh, if_neg (fun e => k0 (by rw [e]; rfl)), if_neg (fun e => k1 (by rw [e]; rfl)), if_neg (fun e => k2 (by rw [e]; rfl)), if_neg (fun e => k3 (by rw [e]; rfl)), if_neg (fun e => k4 (by rw [e]; rfl))]
      rw [e]
      exact refget_early s w (.inr ⟨hp, by rw [e0]; exact decide_eq_true (by omega)⟩)
end Go.Proofs.YtaplefelfiefaaaGreat
end
