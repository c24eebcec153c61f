import Derived.Test.YtfmabjoindlfeaaGreatQTxnTellsUptoP14
import Derived.Test.YtfmabjoindlfeaaGreatQTxnTellsUptoP10
import Derived.Test.YtfmabjoindlfeaaGreatQTxnTellsUptoP7
import Derived.Test.YtfmabjoindlfeaaGreatQTxnTellsUptoP13
import Derived.Test.YtfmabjoindlfeaaGreatQTxnTellsUptoP1
import Derived.Outline
import Derived.Deep.RegionHeld3
import Derived.Recover
import Derived.Laws.Pointers
import Derived.WalkLawsBesides

/- parts of other texts. By an AI agent. -/
section
set_option linter.unusedVariables false
set_option linter.unusedSimpArgs false
namespace Go.Proofs.YtfmabjoindlfeaaGreat
open Go.RowKit

/-- the two versions' boxes -/
structure GO2 (w W : World) (c1 c2 : List Value) : Prop where
  bl : Bl w W
  a : AC W w.heap.size c1
  b : AC W (w.heap.size + 1) c2
theorem GO2.keep {w W W' : World} {c1 c2 : List Value} (h : GO2 w W c1 c2) (k : Bl W W') : GO2 w W' c1 c2 := ⟨h.bl.trans k, h.a.keep k, h.b.keep k⟩
theorem GO2.new (w : World) (T U : TypeId) (c1 c2 : List Value) : GO2 w ((w.alloc (.cells c1.toArray T)).alloc (.cells c2.toArray U)) c1 c2 :=
  ⟨((Bl.refl w).alloc _).alloc _, (AC.new w _ rfl c1 T).keep ((Bl.refl _).alloc _), AC.new _ (w.heap.size + 1) (by simp) c2 U⟩
theorem key_beq (a b : ByteArray) : (a.toList == b.toList) = decide (a = b) := by
  rw [SB.beq (show SB a a.data.toList from rfl) (show SB b b.data.toList from rfl), decide_eq_decide]
  exact ⟨fun e => ByteArray.ext (Array.toList_inj.1 e), fun e => by rw [e]⟩
end Go.Proofs.YtfmabjoindlfeaaGreat
end

/- bedrockref5.SameVersion of versions with acts; bedrockbook.SameVersions of versions that are the same. By an AI agent. -/
section
namespace Go.Proofs.YtfmabjoindlfeaaGreat
open Go.RowKit
attribute [local go_sem] eOp eOper eUpon

theorem sameA_refl (a : ActL) : sameA a a = true := by simp [sameA]
set_option maxHeartbeats 1600000 in
set_option maxRecDepth 100000 in
theorem sameVerA_any (key : ByteArray) (a : Option Addr) (n ca : Nat) (xs : List Int) (o t : Int) (A1 : ActL) (key' : ByteArray) (b : Option Addr) (m cb : Nat) (ys : List Int) (o' t' : Int) (A2 : ActL) (r : Bool) (w : World) (hx : IA w a n xs) (hy : IA w b m ys)
    (ok1 : A1.Ok) (ok2 : A2.Ok) (HR : Hid ((decide (key = key' ∧ xs = ys ∧ o = o' ∧ t = t') && sameA A1 A2) = r)) :
    Calls Tryz.prog 41 #[.agg #[.string key, .slice a n ca, .int .i64 o, .int .i64 t, .int .i64 A1.k, .float .f64 A1.x, .int .i64 A1.n, .string A1.s], .agg #[.string key', .slice b m cb, .int .i64 o', .int .i64 t', .int .i64 A2.k, .float .f64 A2.x, .int .i64 A2.n, .string A2.s]] w
      fun e w' => e = .returned (.bool r) ∧ Bl w w' := by
  have hsf := store_float
  have G := GO2.new w 72 72 (verC key a n ca o t A1.k A1.x A1.n A1.s) (verC key' b m cb o' t' A2.k A2.x A2.n A2.s)
  by_cases hk : key = key'
  · have q1 : (key.toList == key'.toList) = true := by rw [key_beq]; exact decide_eq_true hk
    have HK := Lib.hid hk
    clear hk
    have H3 := Lib.hid (fun w hx hy => rsame_any a b n m ca cb xs ys w hx hy)
    have H4 := Lib.hid (fun w => refSameA_any A1 A2 w ok1 ok2)
    clear ok1 ok2
    go_enter Tryz.func41, Tryz.ntmps41
    go_wp2_with fail
    refine (H3.out _ (hx.keep G.bl) (hy.keep G.bl)).mono ?_
    rintro e w1 ⟨rfl, hb1⟩
    replace G := G.keep hb1
    obtain ⟨a0, a1, a2, a3, a4, a5, a6, a7⟩ := G.a.ver
    obtain ⟨b0, b1, b2, b3, b4, b5, b6, b7⟩ := G.b.ver
    by_cases hxy : xs = ys
    · rw [decide_eq_true hxy]
      have HXY := Lib.hid hxy
      clear hxy
      by_cases ho : o = o'
      · by_cases ht : t = t'
        · subst ho; subst ht
          go_wp2_with fail
          refine (H4.out _).mono ?_
          rintro e w2 ⟨rfl, hb2⟩
          have HR' : Hid (sameA A1 A2 = r) := Lib.hid (by rw [← HR.out]; simp [HK.out, HXY.out])
          clear HR
          obtain ⟨q, hq⟩ : ∃ q, sameA A1 A2 = q := ⟨_, rfl⟩
          rw [hq] at HR' ⊢
          clear hq
          go_wp2_with fail
          go_ret
          exact ⟨ret_bool HR'.out, G.bl.trans hb2⟩
        · have q2 : (t == t') = false := by rw [beq_eq_false_iff_ne]; exact ht
          have HT := Lib.hid ht
          clear ht
          subst ho
          go_wp2_with fail
          go_ret
          exact ⟨ret_bool (by rw [← HR.out, decide_eq_false (fun h => HT.out h.2.2.2)]; rfl), G.bl⟩
      · have q2 : (o == o') = false := by rw [beq_eq_false_iff_ne]; exact ho
        have HO := Lib.hid ho
        clear ho
        go_wp2_with fail
        go_ret
        exact ⟨ret_bool (by rw [← HR.out, decide_eq_false (fun h => HO.out h.2.2.1)]; rfl), G.bl⟩
    · rw [decide_eq_false hxy]
      have HXY := Lib.hid hxy
      clear hxy
      go_wp2_with fail
      go_ret
      exact ⟨ret_bool (by rw [← HR.out, decide_eq_false (fun h => HXY.out h.2.1)]; rfl), G.bl⟩
  · have q1 : (key.toList == key'.toList) = false := by rw [key_beq]; exact decide_eq_false hk
    have HK := Lib.hid hk
    clear hk
    go_enter Tryz.func41, Tryz.ntmps41
    go_wp2_with fail
    go_ret
    exact ⟨ret_bool (by rw [← HR.out, decide_eq_false (fun h => HK.out h.1)]; rfl), G.bl⟩
/-- ... of one version, read at two places -/
theorem sameVer_yes (V : VerL) (a : Option Addr) (n ca : Nat) (b : Option Addr) (m cb : Nat) (w : World) (hx : IA w a n V.at_) (hy : IA w b m V.at_) (ok : V.act.Ok) :
    Calls Tryz.prog 41 #[.agg #[.string V.key, .slice a n ca, .int .i64 V.origin, .int .i64 V.tx, .int .i64 V.act.k, .float .f64 V.act.x, .int .i64 V.act.n, .string V.act.s], .agg #[.string V.key, .slice b m cb, .int .i64 V.origin, .int .i64 V.tx, .int .i64 V.act.k, .float .f64 V.act.x, .int .i64 V.act.n, .string V.act.s]] w
      fun e w' => e = .returned (.bool true) ∧ Bl w w' :=
  sameVerA_any V.key a n ca V.at_ V.origin V.tx V.act V.key b m cb V.at_ V.origin V.tx V.act true w hx hy ok ok (Lib.hid (by simp [sameA_refl]))
set_option maxHeartbeats 3200000 in
set_option maxRecDepth 100000 in
theorem sameVers_yes (a b : Option Addr) (n ca cb : Nat) (vs : List VerL) (w : World) (hx : VA w a n vs) (hy : VA w b n vs) :
    Calls Tryz.prog 148 #[.slice a n ca, .slice b n cb] w fun e w' => e = .returned (.bool true) ∧ Bl w w' := by
  have hcap := hx.cap
  go_enter Tryz.func148, Tryz.ntmps148
  go_wp2_with fail
  go_loopw [5] (fun i wr => ∃ k : Nat, k ≤ n ∧ i = .int .i64 k ∧ Bl w wr) (fun i _ => n - (intOf i).toNat)
  case atStart => exact ⟨0, Nat.zero_le _, rfl, Bl.refl _⟩
  case round =>
    obtain ⟨k, hk, rfl, hb⟩ := hrel
    by_cases hlt : k < n
    · obtain ⟨bx, ox, rfl, hcx⟩ := hx.cells k hlt
      obtain ⟨by', oy, rfl, hcy⟩ := hy.cells k hlt
      have E := (hcx k hlt).keep hb
      have E2 := (hcy k hlt).keep hb
      clear hcx hcy
      generalize nthR vs k = V at *
      go_wp2_with fail
      refine wp_region_allS (by kernel_rfl) (by kernel_rfl) ?_
      have hb1 := hb.drew
      have E := E.keep ((Bl.refl wr).drew)
      have E2 := E2.keep ((Bl.refl wr).drew)
      generalize wr.drew = W at *
      obtain ⟨va, vn, vc, v1, vI⟩ := E.at_
      obtain ⟨ua, un, uc, u1', uI⟩ := E2.at_
      obtain ⟨p0, p1, p2, p3, p4, p5, p6, p7⟩ := E.all v1
      obtain ⟨q0, q1, q2, q3, q4, q5, q6, q7⟩ := E2.all u1'
      have ok := E.ok
      clear E E2 v1 u1'
      have hO : ∀ m : Ext W, _ := fun m => sameVer_yes V va vn vc ua un uc m.at (vI.keep m.bl) (uI.keep m.bl) ok
      have HO := Lib.hid hO
      clear hO vI uI
      repeat (refine wpS_step (fun K hK => ?_); go_simp; first | (refine hK _ ?_; clear hK K) | (apply Exists.intro; refine ⟨fun m => ?_, hK _ ?_⟩; (exact HO.out m); clear hK K))
      clear p0 p1 p2 p3 p4 p5 p6 p7 q0 q1 q2 q3 q4 q5 q6 q7
      refine wpS_nil ?_
      intro m
      have hb2 := hb1.trans m.bl
      generalize ExtC.at m = W9 at *
      go_wp2_with fail
      go_roundw
      case rel => exact ⟨k + 1, by omega, by go_num, hb2⟩
      case measure => simp [intOf]; omega
    · go_wp2_with fail
      go_ret
      exact ⟨rfl, hb⟩
end Go.Proofs.YtfmabjoindlfeaaGreat
end

/- a block of one cell; recovered panics. By an AI agent. -/
section
namespace Go.Proofs.YtfmabjoindlfeaaGreat
open Go.RowKit

/-! ### a block of one cell -/
def C1 (w : World) (g : Nat) (v : Value) : Prop := ∃ t, w.heap[g]? = some (.cells #[v] t (0, 0))
theorem C1.cell {w : World} {g : Nat} {v : Value} (h : C1 w g v) : w.cell? ⟨g, 0, none⟩ = some v := by
  obtain ⟨t, h⟩ := h
  rw [cell_of_row w g 0 _ t (0, 0) h]; rfl
theorem C1.frozen {w : World} {g : Nat} {v : Value} (h : C1 w g v) : w.frozen? ⟨g, 0, none⟩ = false := by
  obtain ⟨t, h⟩ := h
  exact frozen_of_row w g 0 _ t h
theorem C1.lt {w : World} {g : Nat} {v : Value} (h : C1 w g v) : g < w.heap.size := by
  obtain ⟨t, h⟩ := h
  exact lt_of_heap h
theorem C1.set {w : World} {g : Nat} {v : Value} (h : C1 w g v) (u : Value) : C1 (w.setCell ⟨g, 0, none⟩ u) g u := by
  obtain ⟨t, h⟩ := h
  exact ⟨t, by rw [heap_setCell_same w g 0 _ t _ h]; rfl⟩
theorem C1.other {w : World} {g g' : Nat} {v : Value} (h : C1 w g v) (hn : g ≠ g') (u : Value) : C1 (w.setCell ⟨g', 0, none⟩ u) g v := by
  obtain ⟨t, h⟩ := h
  exact ⟨t, by rw [Below.heap_setCell _ _ _ _ hn]; exact h⟩
theorem C1.keep {w w' : World} {g : Nat} {v : Value} (h : C1 w g v) (hb : Bl w w') : C1 w' g v := by
  obtain ⟨t, h⟩ := h
  exact ⟨t, hb.heap h⟩
theorem C1.grown {w w' : World} {g : Nat} {v : Value} {row : Option Nat} (h : C1 w g v) (hg : w.grownBy w' row) (hn : some g ≠ row) : C1 w' g v := by
  obtain ⟨t, h⟩ := h
  exact ⟨t, by rw [hg.block g (lt_of_heap h) hn]; exact h⟩
theorem C1.alloc {w : World} {g : Nat} {v : Value} (h : C1 w g v) (o : Obj) : C1 (w.alloc o) g v := h.keep ((Bl.refl w).alloc o)
theorem C1.new (w : World) (g : Nat) (hg : g = w.heap.size) (v : Value) (t : TypeId) : C1 (w.alloc (.cells #[v] t)) g v := by
  subst hg
  exact ⟨t, heap_alloc_new w _⟩

theorem hmf (fn : Fn) (first cap : Array Value) (w : World) : (Instr.makeFunc fn first cap).run Tryz.prog w = .ok (.func fn first cap) w := rfl
theorem store_fl (a : Addr) (b : Nat) (w : World) : (store a (.float .f64 b)).run Tryz.prog w = stored Tryz.prog w a (.float .f64 b) .plain := run_store Tryz.prog w a _ .plain rfl
/-- a recovered panic settles to a return -/
theorem leaves_back {P : Program} {fn : Func} {tmps : Array Value} {R : Ending → World → Prop} {w : World} {v x : Value} (h : (results fn tmps).run P w = .ok v w) (hR : R (.returned v) w) :
    Leaves P fn tmps R [] (settle (.panicking [{ v := x, recovered := true }])) w := ⟨v, h, hR⟩
theorem leaves_ret {P : Program} {fn : Func} {tmps : Array Value} {R : Ending → World → Prop} {w : World} {v : Value} (h : (results fn tmps).run P w = .ok v w) (hR : R (.returned v) w) :
    Leaves P fn tmps R [] (settle .returning) w := ⟨v, h, hR⟩
end Go.Proofs.YtfmabjoindlfeaaGreat
end
