import Derived.Test.YtfjjnffifnohkaaGreatQFoldTellsUptoP5
import Derived.Test.YtfjjnffifnohkaaGreatQFoldTellsUptoP6
import Derived.Test.YtfjjnffifnohkaaGreatQFoldTellsUptoP7

/- bedrockref3.Greater, bedrockref5.lesser, Later. By an AI agent. -/
section
namespace Go.Proofs.YtfjjnffifnohkaaGreat
open Go.RowKit
attribute [local go_sem] eOp eOper eUpon

set_option maxRecDepth 100000 in
theorem greater_any (x o t x' o' t' : Int) (r : Bool) (w : World) (HR : Hid (decide (LaterP x o t x' o' t') = r)) :
    Calls Tryz.prog 132 #[.int .i64 x, .int .i64 o, .int .i64 t, .int .i64 x', .int .i64 o', .int .i64 t'] w fun e w' => e = .returned (.bool r) ∧ Bl w w' := by
  by_cases h1 : x = x'
  · by_cases h2 : o = o'
    · subst h1; subst h2
      go_enter Tryz.func132, Tryz.ntmps132
      go_wp2_with fail
      go_ret
      exact ⟨ret_bool (by rw [← HR.out, decide_eq_decide]; unfold LaterP; omega), Bl.refl _⟩
    · subst h1
      have q : (o != o') = true := by simpa using h2
      go_enter Tryz.func132, Tryz.ntmps132
      go_wp2_with fail
      go_ret
      exact ⟨ret_bool (by rw [← HR.out, decide_eq_decide]; unfold LaterP; omega), Bl.refl _⟩
  · have q : (x != x') = true := by simpa using h1
    go_enter Tryz.func132, Tryz.ntmps132
    go_wp2_with fail
    go_ret
    exact ⟨ret_bool (by rw [← HR.out, decide_eq_decide]; unfold LaterP; omega), Bl.refl _⟩

/-- by its length, then time by time -/
def lesserB (xs ys : List Int) : Bool := decide (xs.length < ys.length ∨ (xs.length = ys.length ∧ cmpV xs ys < 0))
theorem compareInt_neg (x y : Int) : Lib.compareInt x y < 0 ↔ x < y := by unfold Lib.compareInt; split <;> (try split) <;> omega
theorem compareInt_zero (x y : Int) : Lib.compareInt x y = 0 ↔ x = y := by unfold Lib.compareInt; split <;> (try split) <;> omega
theorem cmpV_step {xs ys : List Int} {k : Nat} (hx : k < xs.length) (hy : k < ys.length) : cmpV (xs.drop k) (ys.drop k) = if nth xs k = nth ys k then cmpV (xs.drop (k + 1)) (ys.drop (k + 1)) else Lib.compareInt (nth xs k) (nth ys k) := by
  rw [drop_cons hx, drop_cons hy, cmpV]
  by_cases h : nth xs k = nth ys k
  · rw [if_pos h, if_pos ((compareInt_zero _ _).2 h)]
  · rw [if_neg h, if_neg (fun e => h ((compareInt_zero _ _).1 e))]
set_option maxHeartbeats 800000 in
set_option maxRecDepth 100000 in
theorem lesser_any (a b : Option Addr) (n m ca cb : Nat) (xs ys : List Int) (w : World) (hx : IA w a n xs) (hy : IA w b m ys) :
    Calls Tryz.prog 131 #[.slice a n ca, .slice b m cb] w fun e w' => e = .returned (.bool (lesserB xs ys)) ∧ Bl w w' := by
  have hx1 := hx.cap
  have hy1 := hy.cap
  have HX := Lib.hid hx.len
  have HY := Lib.hid hy.len
  by_cases hl : n = m
  · subst hl
    go_enter Tryz.func131, Tryz.ntmps131
    go_wp2
    go_loopw [5] (fun i wr => ∃ k : Nat, k ≤ n ∧ i = .int .i64 k ∧ Bl w wr ∧ Hid (cmpV xs ys = cmpV (xs.drop k) (ys.drop k))) (fun i _ => n - (intOf i).toNat)
    case atStart => exact ⟨0, Nat.zero_le _, rfl, Bl.refl _, Lib.hid rfl⟩
    case round =>
      obtain ⟨k, hk, rfl, hbl, HC⟩ := hrel
      by_cases hlt : k < n
      · obtain ⟨ba, oa, rfl, hca⟩ := hx.cells k hlt
        obtain ⟨bb, ob, rfl, hcb⟩ := hy.cells k hlt
        have ha := hbl.cell (hca k hlt)
        have hb := hbl.cell (hcb k hlt)
        clear hca hcb
        have HS := Lib.hid (cmpV_step (xs := xs) (ys := ys) (k := k) (by rw [HX.out]; exact hlt) (by rw [HY.out]; exact hlt))
        by_cases hne : nth xs k = nth ys k
        · have HE := Lib.hid hne
          have q : (nth xs k != nth ys k) = false := by simpa using hne
          clear hne
          go_wp2
          go_quiet (fail)
          go_wp2
          go_roundw
          case rel => exact ⟨k + 1, by omega, by go_num, hbl.drewN _, Lib.hid (by rw [HC.out, HS.out, if_pos HE.out])⟩
          case measure => simp [intOf]; omega
        · have HE := Lib.hid hne
          have q : (nth xs k != nth ys k) = true := by simpa using hne
          clear hne
          go_wp2
          go_quiet (fail)
          go_wp2
          have hbq := hbl.drewN nq
          have ha2 := ((Bl.refl wr).drewN nq).cell ha
          have hb2 := ((Bl.refl wr).drewN nq).cell hb
          clear ha hb hbl
          generalize wr.drewN nq = w2 at *
          go_quiet (fail)
          go_wp2
          go_ret
          exact ⟨ret_bool (by
            unfold lesserB
            rw [decide_eq_decide, HC.out, HS.out, if_neg HE.out, compareInt_neg, HX.out, HY.out]
            omega), hbq.drewN _⟩
      · obtain rfl : k = n := by omega
        go_wp2
        go_ret
        exact ⟨ret_bool (by
          unfold lesserB
          refine (decide_eq_false ?_).symm
          rw [HC.out, List.drop_of_length_le (by rw [HX.out]; omega), List.drop_of_length_le (by rw [HY.out]; omega), HX.out, HY.out]
          rintro (h | ⟨-, h⟩)
          · omega
          · exact absurd h (by decide)), hbl⟩
  · have h2 : ((n : Int) != (m : Int)) = true := by simp; omega
    go_enter Tryz.func131, Tryz.ntmps131
    go_wp2
    go_ret
    exact ⟨ret_bool (by unfold lesserB; rw [decide_eq_decide, HX.out, HY.out]; omega), Bl.refl _⟩
/-- has one a greater stamp, or the same with a lesser At? -/
theorem later_order (V U : VerL) : (orderL V U < 0) ↔ (if timeL V = timeL U ∧ V.origin = U.origin ∧ V.tx = U.tx then lesserB V.at_ U.at_ = true else LaterP (timeL V) V.origin V.tx (timeL U) U.origin U.tx) := by
  unfold orderL
  generalize timeL V = x
  generalize timeL U = y
  generalize V.origin = o
  generalize U.origin = p
  generalize V.tx = t
  generalize U.tx = u
  have hc : ∀ a b : Int, (Lib.compareInt a b = 0 ↔ a = b) ∧ (Lib.compareInt a b < 0 ↔ a < b) := fun a b => ⟨compareInt_zero a b, compareInt_neg a b⟩
  simp only [orL]
  have h1 := hc y x
  have h2 := hc p o
  have h3 := hc u t
  have h4 := hc (V.at_.length : Int) (U.at_.length : Int)
  generalize Lib.compareInt y x = c1 at *
  generalize Lib.compareInt p o = c2 at *
  generalize Lib.compareInt u t = c3 at *
  generalize Lib.compareInt (V.at_.length : Int) (U.at_.length : Int) = c4 at *
  unfold lesserB LaterP
  rw [decide_eq_true_eq]
  clear hc
  generalize cmpV V.at_ U.at_ = c5
  generalize V.at_.length = l1 at *
  generalize U.at_.length = l2 at *
  (repeat' split) <;> omega

attribute [local go_sem] eOp eOper eUpon
set_option maxHeartbeats 1600000 in
set_option maxRecDepth 100000 in
theorem later_any (V U : VerL) (a b : Option Addr) (n m ca cb : Nat) (r : Bool) (w : World) (hx : IA w a n V.at_) (hy : IA w b m U.at_) (HR : Hid (decide (orderL V U < 0) = r)) :
    Calls Tryz.prog 34 #[.agg #[.string V.key, .slice a n ca, .int .i64 V.origin, .int .i64 V.tx, .int .i64 V.act.k, .float .f64 V.act.x, .int .i64 V.act.n, .string V.act.s], .agg #[.string U.key, .slice b m cb, .int .i64 U.origin, .int .i64 U.tx, .int .i64 U.act.k, .float .f64 U.act.x, .int .i64 U.act.n, .string U.act.s]] w
      fun e w' => e = .returned (.bool r) ∧ Bl w w' := by
  have hsf := store_float
  have HO := Lib.hid (later_order V U)
  obtain ⟨T1, hT1⟩ : ∃ T, timeL V = T := ⟨_, rfl⟩
  obtain ⟨T2, hT2⟩ : ∃ T, timeL U = T := ⟨_, rfl⟩
  have HT1 := Lib.hid hT1
  have HT2 := Lib.hid hT2
  rw [hT1, hT2] at HO
  clear hT1 hT2
  have G : GO2 w ((w.alloc (.cells #[.string V.key, .slice a n ca, .int .i64 V.origin, .int .i64 V.tx, .int .i64 V.act.k, .float .f64 V.act.x, .int .i64 V.act.n, .string V.act.s] 59)).alloc (.cells #[.string U.key, .slice b m cb, .int .i64 U.origin, .int .i64 U.tx, .int .i64 U.act.k, .float .f64 U.act.x, .int .i64 U.act.n, .string U.act.s] 59)) (verC V.key a n ca V.origin V.tx V.act.k V.act.x V.act.n V.act.s) (verC U.key b m cb U.origin U.tx U.act.k U.act.x U.act.n U.act.s) := GO2.new w 59 59 _ _
  have HG : Hid (¬ (T1 = T2 ∧ V.origin = U.origin ∧ V.tx = U.tx) → decide (LaterP T1 V.origin V.tx T2 U.origin U.tx) = r) := Lib.hid (fun h => by
    rw [← HR.out, decide_eq_decide, HO.out, if_neg h])
  go_enter Tryz.func34, Tryz.ntmps34
  go_upto_region 1 with fail
  generalize ((w.alloc (.cells #[.string V.key, .slice a n ca, .int .i64 V.origin, .int .i64 V.tx, .int .i64 V.act.k, .float .f64 V.act.x, .int .i64 V.act.n, .string V.act.s] 59)).alloc (.cells #[.string U.key, .slice b m cb, .int .i64 U.origin, .int .i64 U.tx, .int .i64 U.act.k, .float .f64 U.act.x, .int .i64 U.act.n, .string U.act.s] 59)) = Y at *
  by_cases h1 : T1 = T2
  · subst h1
    by_cases h2 : V.origin = U.origin
    · by_cases h3 : V.tx = U.tx
      · have n2 : (V.origin == U.origin) = true := by rw [h2]; simp
        have n3 : (V.tx == U.tx) = true := by rw [h3]; simp
        have HL : Hid (lesserB V.at_ U.at_ = r) := Lib.hid (by
          rw [← HR.out]
          have := HO.out
          rw [if_pos ⟨rfl, h2, h3⟩] at this
          rw [Bool.eq_iff_iff, decide_eq_true_eq, this])
        clear h2 h3 HG
        refine wp_region_allS (by kernel_rfl) (by kernel_rfl) ?_
        replace G := G.keep ((Bl.refl Y).drew)
        generalize Y.drew = Z at *
        obtain ⟨a0, a1, a2, a3, a4, a5, a6, a7⟩ : (∀ n : Ext Z, _) ∧ (∀ n : Ext Z, _) ∧ (∀ n : Ext Z, _) ∧ (∀ n : Ext Z, _) ∧ (∀ n : Ext Z, _) ∧ (∀ n : Ext Z, _) ∧ (∀ n : Ext Z, _) ∧ (∀ n : Ext Z, _) :=
          ⟨fun n => (G.keep n.bl).a.ver.1, fun n => (G.keep n.bl).a.ver.2.1, fun n => (G.keep n.bl).a.ver.2.2.1, fun n => (G.keep n.bl).a.ver.2.2.2.1, fun n => (G.keep n.bl).a.ver.2.2.2.2.1, fun n => (G.keep n.bl).a.ver.2.2.2.2.2.1, fun n => (G.keep n.bl).a.ver.2.2.2.2.2.2.1, fun n => (G.keep n.bl).a.ver.2.2.2.2.2.2.2⟩
        obtain ⟨b0, b1, b2, b3, b4, b5, b6, b7⟩ : (∀ n : Ext Z, _) ∧ (∀ n : Ext Z, _) ∧ (∀ n : Ext Z, _) ∧ (∀ n : Ext Z, _) ∧ (∀ n : Ext Z, _) ∧ (∀ n : Ext Z, _) ∧ (∀ n : Ext Z, _) ∧ (∀ n : Ext Z, _) :=
          ⟨fun n => (G.keep n.bl).b.ver.1, fun n => (G.keep n.bl).b.ver.2.1, fun n => (G.keep n.bl).b.ver.2.2.1, fun n => (G.keep n.bl).b.ver.2.2.2.1, fun n => (G.keep n.bl).b.ver.2.2.2.2.1, fun n => (G.keep n.bl).b.ver.2.2.2.2.2.1, fun n => (G.keep n.bl).b.ver.2.2.2.2.2.2.1, fun n => (G.keep n.bl).b.ver.2.2.2.2.2.2.2⟩
        have H1 := Lib.hid (fun q : Ext Z => rtime_any V a n ca T1 q.at (hx.keep (G.bl.trans q.bl)) HT1)
        have H2 := Lib.hid (fun q : Ext Z => rtime_any U b m cb T1 q.at (hy.keep (G.bl.trans q.bl)) HT2)
        repeat (refine wpS_step (fun K hK => ?_); go_simp; first | (refine hK _ ?_; clear hK K) | (apply Exists.intro; refine ⟨fun n => ?_, hK _ ?_⟩; (first | with_reducible exact H1.out n | with_reducible exact H2.out n); clear hK K))
        refine wpS_nil ?_
        intro q1
        replace G := G.keep q1.bl
        clear a0 a1 a2 a3 a4 a5 a6 a7 b0 b1 b2 b3 b4 b5 b6 b7 H1 H2
        generalize ExtC.at q1 = Y2 at *
        obtain ⟨a0, a1, a2, a3, a4, a5, a6, a7⟩ := G.a.ver
        obtain ⟨b0, b1, b2, b3, b4, b5, b6, b7⟩ := G.b.ver
        go_wp2_with fail
        refine (lesser_any a b n m ca cb V.at_ U.at_ _ (hx.keep G.bl) (hy.keep G.bl)).mono ?_
        rintro e w3 ⟨rfl, hb3⟩
        rw [HL.out]
        go_wp2_with fail
        go_ret
        exact ⟨rfl, G.bl.trans hb3⟩
      · have n2 : (V.origin == U.origin) = true := by rw [h2]; simp
        have n3 : (V.tx == U.tx) = false := by rw [beq_eq_false_iff_ne]; exact h3
        replace HG := Lib.hid (HG.out (fun h => h3 h.2.2))
        clear h2 h3
        refine wp_region_allS (by kernel_rfl) (by kernel_rfl) ?_
        replace G := G.keep ((Bl.refl Y).drew)
        generalize Y.drew = Z at *
        obtain ⟨a0, a1, a2, a3, a4, a5, a6, a7⟩ : (∀ n : Ext Z, _) ∧ (∀ n : Ext Z, _) ∧ (∀ n : Ext Z, _) ∧ (∀ n : Ext Z, _) ∧ (∀ n : Ext Z, _) ∧ (∀ n : Ext Z, _) ∧ (∀ n : Ext Z, _) ∧ (∀ n : Ext Z, _) :=
          ⟨fun n => (G.keep n.bl).a.ver.1, fun n => (G.keep n.bl).a.ver.2.1, fun n => (G.keep n.bl).a.ver.2.2.1, fun n => (G.keep n.bl).a.ver.2.2.2.1, fun n => (G.keep n.bl).a.ver.2.2.2.2.1, fun n => (G.keep n.bl).a.ver.2.2.2.2.2.1, fun n => (G.keep n.bl).a.ver.2.2.2.2.2.2.1, fun n => (G.keep n.bl).a.ver.2.2.2.2.2.2.2⟩
        obtain ⟨b0, b1, b2, b3, b4, b5, b6, b7⟩ : (∀ n : Ext Z, _) ∧ (∀ n : Ext Z, _) ∧ (∀ n : Ext Z, _) ∧ (∀ n : Ext Z, _) ∧ (∀ n : Ext Z, _) ∧ (∀ n : Ext Z, _) ∧ (∀ n : Ext Z, _) ∧ (∀ n : Ext Z, _) :=
          ⟨fun n => (G.keep n.bl).b.ver.1, fun n => (G.keep n.bl).b.ver.2.1, fun n => (G.keep n.bl).b.ver.2.2.1, fun n => (G.keep n.bl).b.ver.2.2.2.1, fun n => (G.keep n.bl).b.ver.2.2.2.2.1, fun n => (G.keep n.bl).b.ver.2.2.2.2.2.1, fun n => (G.keep n.bl).b.ver.2.2.2.2.2.2.1, fun n => (G.keep n.bl).b.ver.2.2.2.2.2.2.2⟩
        have H1 := Lib.hid (fun q : Ext Z => rtime_any V a n ca T1 q.at (hx.keep (G.bl.trans q.bl)) HT1)
        have H2 := Lib.hid (fun q : Ext Z => rtime_any U b m cb T1 q.at (hy.keep (G.bl.trans q.bl)) HT2)
        repeat (refine wpS_step (fun K hK => ?_); go_simp; first | (refine hK _ ?_; clear hK K) | (apply Exists.intro; refine ⟨fun n => ?_, hK _ ?_⟩; (first | with_reducible exact H1.out n | with_reducible exact H2.out n); clear hK K))
        refine wpS_nil ?_
        intro q1
        replace G := G.keep q1.bl
        clear a0 a1 a2 a3 a4 a5 a6 a7 b0 b1 b2 b3 b4 b5 b6 b7 H1 H2
        generalize ExtC.at q1 = Y2 at *
        go_upto_region 3 with fail
        refine wp_region_allS (by kernel_rfl) (by kernel_rfl) ?_
        replace G := G.keep ((Bl.refl Y2).drew)
        generalize Y2.drew = Z2 at *
        obtain ⟨a0, a1, a2, a3, a4, a5, a6, a7⟩ : (∀ n : Ext Z2, _) ∧ (∀ n : Ext Z2, _) ∧ (∀ n : Ext Z2, _) ∧ (∀ n : Ext Z2, _) ∧ (∀ n : Ext Z2, _) ∧ (∀ n : Ext Z2, _) ∧ (∀ n : Ext Z2, _) ∧ (∀ n : Ext Z2, _) :=
          ⟨fun n => (G.keep n.bl).a.ver.1, fun n => (G.keep n.bl).a.ver.2.1, fun n => (G.keep n.bl).a.ver.2.2.1, fun n => (G.keep n.bl).a.ver.2.2.2.1, fun n => (G.keep n.bl).a.ver.2.2.2.2.1, fun n => (G.keep n.bl).a.ver.2.2.2.2.2.1, fun n => (G.keep n.bl).a.ver.2.2.2.2.2.2.1, fun n => (G.keep n.bl).a.ver.2.2.2.2.2.2.2⟩
        obtain ⟨b0, b1, b2, b3, b4, b5, b6, b7⟩ : (∀ n : Ext Z2, _) ∧ (∀ n : Ext Z2, _) ∧ (∀ n : Ext Z2, _) ∧ (∀ n : Ext Z2, _) ∧ (∀ n : Ext Z2, _) ∧ (∀ n : Ext Z2, _) ∧ (∀ n : Ext Z2, _) ∧ (∀ n : Ext Z2, _) :=
          ⟨fun n => (G.keep n.bl).b.ver.1, fun n => (G.keep n.bl).b.ver.2.1, fun n => (G.keep n.bl).b.ver.2.2.1, fun n => (G.keep n.bl).b.ver.2.2.2.1, fun n => (G.keep n.bl).b.ver.2.2.2.2.1, fun n => (G.keep n.bl).b.ver.2.2.2.2.2.1, fun n => (G.keep n.bl).b.ver.2.2.2.2.2.2.1, fun n => (G.keep n.bl).b.ver.2.2.2.2.2.2.2⟩
        have H1 := Lib.hid (fun q : Ext Z2 => rtime_any V a n ca T1 q.at (hx.keep (G.bl.trans q.bl)) HT1)
        have H2 := Lib.hid (fun q : Ext Z2 => rtime_any U b m cb T1 q.at (hy.keep (G.bl.trans q.bl)) HT2)
        have H3 := Lib.hid (fun q : Ext Z2 => greater_any T1 V.origin V.tx T1 U.origin U.tx r q.at HG)
        repeat (refine wpS_step (fun K hK => ?_); go_simp; first | (refine hK _ ?_; clear hK K) | (apply Exists.intro; refine ⟨fun n => ?_, hK _ ?_⟩; (first | with_reducible exact H1.out n | with_reducible exact H2.out n | with_reducible exact H3.out n); clear hK K))
        refine wpS_nil ?_
        intro q2
        replace G := G.keep q2.bl
        clear a0 a1 a2 a3 a4 a5 a6 a7 b0 b1 b2 b3 b4 b5 b6 b7 H1 H2 H3
        generalize ExtC.at q2 = Y3 at *
        go_wp2_with fail
        go_ret
        exact ⟨rfl, G.bl⟩
    · have n2 : (V.origin == U.origin) = false := by rw [beq_eq_false_iff_ne]; exact h2
      replace HG := Lib.hid (HG.out (fun h => h2 h.2.1))
      clear h2
      refine wp_region_allS (by kernel_rfl) (by kernel_rfl) ?_
      replace G := G.keep ((Bl.refl Y).drew)
      generalize Y.drew = Z at *
      obtain ⟨a0, a1, a2, a3, a4, a5, a6, a7⟩ : (∀ n : Ext Z, _) ∧ (∀ n : Ext Z, _) ∧ (∀ n : Ext Z, _) ∧ (∀ n : Ext Z, _) ∧ (∀ n : Ext Z, _) ∧ (∀ n : Ext Z, _) ∧ (∀ n : Ext Z, _) ∧ (∀ n : Ext Z, _) :=
        ⟨fun n => (G.keep n.bl).a.ver.1, fun n => (G.keep n.bl).a.ver.2.1, fun n => (G.keep n.bl).a.ver.2.2.1, fun n => (G.keep n.bl).a.ver.2.2.2.1, fun n => (G.keep n.bl).a.ver.2.2.2.2.1, fun n => (G.keep n.bl).a.ver.2.2.2.2.2.1, fun n => (G.keep n.bl).a.ver.2.2.2.2.2.2.1, fun n => (G.keep n.bl).a.ver.2.2.2.2.2.2.2⟩
      obtain ⟨b0, b1, b2, b3, b4, b5, b6, b7⟩ : (∀ n : Ext Z, _) ∧ (∀ n : Ext Z, _) ∧ (∀ n : Ext Z, _) ∧ (∀ n : Ext Z, _) ∧ (∀ n : Ext Z, _) ∧ (∀ n : Ext Z, _) ∧ (∀ n : Ext Z, _) ∧ (∀ n : Ext Z, _) :=
        ⟨fun n => (G.keep n.bl).b.ver.1, fun n => (G.keep n.bl).b.ver.2.1, fun n => (G.keep n.bl).b.ver.2.2.1, fun n => (G.keep n.bl).b.ver.2.2.2.1, fun n => (G.keep n.bl).b.ver.2.2.2.2.1, fun n => (G.keep n.bl).b.ver.2.2.2.2.2.1, fun n => (G.keep n.bl).b.ver.2.2.2.2.2.2.1, fun n => (G.keep n.bl).b.ver.2.2.2.2.2.2.2⟩
      have H1 := Lib.hid (fun q : Ext Z => rtime_any V a n ca T1 q.at (hx.keep (G.bl.trans q.bl)) HT1)
      have H2 := Lib.hid (fun q : Ext Z => rtime_any U b m cb T1 q.at (hy.keep (G.bl.trans q.bl)) HT2)
      repeat (refine wpS_step (fun K hK => ?_); go_simp; first | (refine hK _ ?_; clear hK K) | (apply Exists.intro; refine ⟨fun n => ?_, hK _ ?_⟩; (first | with_reducible exact H1.out n | with_reducible exact H2.out n); clear hK K))
      refine wpS_nil ?_
      intro q1
      replace G := G.keep q1.bl
      clear a0 a1 a2 a3 a4 a5 a6 a7 b0 b1 b2 b3 b4 b5 b6 b7 H1 H2
      generalize ExtC.at q1 = Y2 at *
      go_upto_region 3 with fail
      refine wp_region_allS (by kernel_rfl) (by kernel_rfl) ?_
      replace G := G.keep ((Bl.refl Y2).drew)
      generalize Y2.drew = Z2 at *
      obtain ⟨a0, a1, a2, a3, a4, a5, a6, a7⟩ : (∀ n : Ext Z2, _) ∧ (∀ n : Ext Z2, _) ∧ (∀ n : Ext Z2, _) ∧ (∀ n : Ext Z2, _) ∧ (∀ n : Ext Z2, _) ∧ (∀ n : Ext Z2, _) ∧ (∀ n : Ext Z2, _) ∧ (∀ n : Ext Z2, _) :=
        ⟨fun n => (G.keep n.bl).a.ver.1, fun n => (G.keep n.bl).a.ver.2.1, fun n => (G.keep n.bl).a.ver.2.2.1, fun n => (G.keep n.bl).a.ver.2.2.2.1, fun n => (G.keep n.bl).a.ver.2.2.2.2.1, fun n => (G.keep n.bl).a.ver.2.2.2.2.2.1, fun n => (G.keep n.bl).a.ver.2.2.2.2.2.2.1, fun n => (G.keep n.bl).a.ver.2.2.2.2.2.2.2⟩
      obtain ⟨b0, b1, b2, b3, b4, b5, b6, b7⟩ : (∀ n : Ext Z2, _) ∧ (∀ n : Ext Z2, _) ∧ (∀ n : Ext Z2, _) ∧ (∀ n : Ext Z2, _) ∧ (∀ n : Ext Z2, _) ∧ (∀ n : Ext Z2, _) ∧ (∀ n : Ext Z2, _) ∧ (∀ n : Ext Z2, _) :=
        ⟨fun n => (G.keep n.bl).b.ver.1, fun n => (G.keep n.bl).b.ver.2.1, fun n => (G.keep n.bl).b.ver.2.2.1, fun n => (G.keep n.bl).b.ver.2.2.2.1, fun n => (G.keep n.bl).b.ver.2.2.2.2.1, fun n => (G.keep n.bl).b.ver.2.2.2.2.2.1, fun n => (G.keep n.bl).b.ver.2.2.2.2.2.2.1, fun n => (G.keep n.bl).b.ver.2.2.2.2.2.2.2⟩
      have H1 := Lib.hid (fun q : Ext Z2 => rtime_any V a n ca T1 q.at (hx.keep (G.bl.trans q.bl)) HT1)
      have H2 := Lib.hid (fun q : Ext Z2 => rtime_any U b m cb T1 q.at (hy.keep (G.bl.trans q.bl)) HT2)
      have H3 := Lib.hid (fun q : Ext Z2 => greater_any T1 V.origin V.tx T1 U.origin U.tx r q.at HG)
      repeat (refine wpS_step (fun K hK => ?_); go_simp; first | (refine hK _ ?_; clear hK K) | (apply Exists.intro; refine ⟨fun n => ?_, hK _ ?_⟩; (first | with_reducible exact H1.out n | with_reducible exact H2.out n | with_reducible exact H3.out n); clear hK K))
      refine wpS_nil ?_
      intro q2
      replace G := G.keep q2.bl
      clear a0 a1 a2 a3 a4 a5 a6 a7 b0 b1 b2 b3 b4 b5 b6 b7 H1 H2 H3
      generalize ExtC.at q2 = Y3 at *
      go_wp2_with fail
      go_ret
      exact ⟨rfl, G.bl⟩
  · have n1 : (T1 == T2) = false := by rw [beq_eq_false_iff_ne]; exact h1
    replace HG := Lib.hid (HG.out (fun h => h1 h.1))
    clear h1
    refine wp_region_allS (by kernel_rfl) (by kernel_rfl) ?_
    replace G := G.keep ((Bl.refl Y).drew)
    generalize Y.drew = Z at *
    obtain ⟨a0, a1, a2, a3, a4, a5, a6, a7⟩ : (∀ n : Ext Z, _) ∧ (∀ n : Ext Z, _) ∧ (∀ n : Ext Z, _) ∧ (∀ n : Ext Z, _) ∧ (∀ n : Ext Z, _) ∧ (∀ n : Ext Z, _) ∧ (∀ n : Ext Z, _) ∧ (∀ n : Ext Z, _) :=
      ⟨fun n => (G.keep n.bl).a.ver.1, fun n => (G.keep n.bl).a.ver.2.1, fun n => (G.keep n.bl).a.ver.2.2.1, fun n => (G.keep n.bl).a.ver.2.2.2.1, fun n => (G.keep n.bl).a.ver.2.2.2.2.1, fun n => (G.keep n.bl).a.ver.2.2.2.2.2.1, fun n => (G.keep n.bl).a.ver.2.2.2.2.2.2.1, fun n => (G.keep n.bl).a.ver.2.2.2.2.2.2.2⟩
    obtain ⟨b0, b1, b2, b3, b4, b5, b6, b7⟩ : (∀ n : Ext Z, _) ∧ (∀ n : Ext Z, _) ∧ (∀ n : Ext Z, _) ∧ (∀ n : Ext Z, _) ∧ (∀ n : Ext Z, _) ∧ (∀ n : Ext Z, _) ∧ (∀ n : Ext Z, _) ∧ (∀ n : Ext Z, _) :=
      ⟨fun n => (G.keep n.bl).b.ver.1, fun n => (G.keep n.bl).b.ver.2.1, fun n => (G.keep n.bl).b.ver.2.2.1, fun n => (G.keep n.bl).b.ver.2.2.2.1, fun n => (G.keep n.bl).b.ver.2.2.2.2.1, fun n => (G.keep n.bl).b.ver.2.2.2.2.2.1, fun n => (G.keep n.bl).b.ver.2.2.2.2.2.2.1, fun n => (G.keep n.bl).b.ver.2.2.2.2.2.2.2⟩
    have H1 := Lib.hid (fun q : Ext Z => rtime_any V a n ca T1 q.at (hx.keep (G.bl.trans q.bl)) HT1)
    have H2 := Lib.hid (fun q : Ext Z => rtime_any U b m cb T2 q.at (hy.keep (G.bl.trans q.bl)) HT2)
    repeat (refine wpS_step (fun K hK => ?_); go_simp; first | (refine hK _ ?_; clear hK K) | (apply Exists.intro; refine ⟨fun n => ?_, hK _ ?_⟩; (first | with_reducible exact H1.out n | with_reducible exact H2.out n); clear hK K))
    refine wpS_nil ?_
    intro q1
    replace G := G.keep q1.bl
    clear a0 a1 a2 a3 a4 a5 a6 a7 b0 b1 b2 b3 b4 b5 b6 b7 H1 H2
    generalize ExtC.at q1 = Y2 at *
    go_upto_region 3 with fail
    refine wp_region_allS (by kernel_rfl) (by kernel_rfl) ?_
    replace G := G.keep ((Bl.refl Y2).drew)
    generalize Y2.drew = Z2 at *
    obtain ⟨a0, a1, a2, a3, a4, a5, a6, a7⟩ : (∀ n : Ext Z2, _) ∧ (∀ n : Ext Z2, _) ∧ (∀ n : Ext Z2, _) ∧ (∀ n : Ext Z2, _) ∧ (∀ n : Ext Z2, _) ∧ (∀ n : Ext Z2, _) ∧ (∀ n : Ext Z2, _) ∧ (∀ n : Ext Z2, _) :=
      ⟨fun n => (G.keep n.bl).a.ver.1, fun n => (G.keep n.bl).a.ver.2.1, fun n => (G.keep n.bl).a.ver.2.2.1, fun n => (G.keep n.bl).a.ver.2.2.2.1, fun n => (G.keep n.bl).a.ver.2.2.2.2.1, fun n => (G.keep n.bl).a.ver.2.2.2.2.2.1, fun n => (G.keep n.bl).a.ver.2.2.2.2.2.2.1, fun n => (G.keep n.bl).a.ver.2.2.2.2.2.2.2⟩
    obtain ⟨b0, b1, b2, b3, b4, b5, b6, b7⟩ : (∀ n : Ext Z2, _) ∧ (∀ n : Ext Z2, _) ∧ (∀ n : Ext Z2, _) ∧ (∀ n : Ext Z2, _) ∧ (∀ n : Ext Z2, _) ∧ (∀ n : Ext Z2, _) ∧ (∀ n : Ext Z2, _) ∧ (∀ n : Ext Z2, _) :=
      ⟨fun n => (G.keep n.bl).b.ver.1, fun n => (G.keep n.bl).b.ver.2.1, fun n => (G.keep n.bl).b.ver.2.2.1, fun n => (G.keep n.bl).b.ver.2.2.2.1, fun n => (G.keep n.bl).b.ver.2.2.2.2.1, fun n => (G.keep n.bl).b.ver.2.2.2.2.2.1, fun n => (G.keep n.bl).b.ver.2.2.2.2.2.2.1, fun n => (G.keep n.bl).b.ver.2.2.2.2.2.2.2⟩
    have H1 := Lib.hid (fun q : Ext Z2 => rtime_any V a n ca T1 q.at (hx.keep (G.bl.trans q.bl)) HT1)
    have H2 := Lib.hid (fun q : Ext Z2 => rtime_any U b m cb T2 q.at (hy.keep (G.bl.trans q.bl)) HT2)
    have H3 := Lib.hid (fun q : Ext Z2 => greater_any T1 V.origin V.tx T2 U.origin U.tx r q.at HG)
    repeat (refine wpS_step (fun K hK => ?_); go_simp; first | (refine hK _ ?_; clear hK K) | (apply Exists.intro; refine ⟨fun n => ?_, hK _ ?_⟩; (first | with_reducible exact H1.out n | with_reducible exact H2.out n | with_reducible exact H3.out n); clear hK K))
    refine wpS_nil ?_
    intro q2
    replace G := G.keep q2.bl
    clear a0 a1 a2 a3 a4 a5 a6 a7 b0 b1 b2 b3 b4 b5 b6 b7 H1 H2 H3
    generalize ExtC.at q2 = Y3 at *
    go_wp2_with fail
    go_ret
    exact ⟨rfl, G.bl⟩
end Go.Proofs.YtfjjnffifnohkaaGreat
end
