import Derived.Test.YtginbjcpcgphgaaCore1
import Derived.Deep.QuietTactic
import Derived.BigQuiet
import Derived.Test.YtginbjcpcgphgaaCore18
import Derived.Test.YtginbjcpcgphgaaCore23
import Derived.Test.YtginbjcpcgphgaaCore24

/- vec.Leq, vec.Same. By an AI agent. -/
section
namespace Go.Proofs.Ytginbjcpcgphgaa
open Go.RowKit

set_option maxHeartbeats 400000 in
theorem leq_any (a b : Option Addr) (n m ca cb : Nat) (xs ys : List Int) (w : World) (hx : IA w a n xs) (hy : IA w b m ys) :
    Calls Try.prog 16 #[.slice a n ca, .slice b m cb] w fun e w' => e = .returned (.bool (leqL xs ys)) ∧ w = w' := by
  have hx1 := hx.cap
  have hy1 := hy.cap
  by_cases hl : n = m
  · subst hl
    have HLL := Lib.hid (hx.len.trans hy.len.symm)
    have HX := Lib.hid hx.len
    have h2 : ((n : Int) != (n : Int)) = false := by simp
    go_enter Try.func16, Try.ntmps16
    go_wp2
    go_loop [14] (fun i => ∃ k : Nat, k ≤ n ∧ i = .int .i64 k ∧ ∀ j, j < k → nth xs j ≤ nth ys j) (fun i => n - (intOf i).toNat)
    case atStart => exact ⟨0, Nat.zero_le _, rfl, fun j h => by omega⟩
    case round =>
      obtain ⟨k, hk, rfl, hle⟩ := hrel
      have HLE := Lib.hid hle; clear hle
      by_cases hlt : k < n
      · obtain ⟨ba, oa, rfl, hca⟩ := hx.cells k hlt
        obtain ⟨bb, ob, rfl, hcb⟩ := hy.cells k hlt
        have ha := hca k hlt
        have hb := hcb k hlt
        clear hca hcb
        by_cases hgt : nth ys k < nth xs k
        · have HR := Lib.hid (leqL_false HLL.out (by rw [HX.out]; exact hlt) hgt)
          go_wp2
          go_ret
          exact ⟨ret_bool HR.out.symm, rfl⟩
        · go_wp2
          go_round
          case rel => exact ⟨k + 1, by omega, by go_num, fun j hj => by
            by_cases e : j = k
            · subst e; omega
            · exact HLE.out j (by omega)⟩
          case measure => simp [intOf]; omega
      · have HR := Lib.hid ((leqL_iff HLL.out).2 (fun j hj => HLE.out j (by rw [HX.out] at hj; omega)))
        go_wp2
        go_ret
        exact ⟨ret_bool HR.out.symm, rfl⟩
  · have h2 : ((n : Int) != (m : Int)) = true := by simp; omega
    have HR := Lib.hid (leqL_len (xs := xs) (ys := ys) (by rw [hx.len, hy.len]; exact hl))
    go_enter Try.func16, Try.ntmps16
    go_wp2
    go_ret
    exact ⟨ret_bool HR.out.symm, rfl⟩

set_option maxHeartbeats 400000 in
theorem equal_any (a b : Option Addr) (n m ca cb : Nat) (xs ys : List Int) (w : World) (hx : IA w a n xs) (hy : IA w b m ys) :
    Calls Try.prog 36 #[.slice a n ca, .slice b m cb] w fun e w' => e = .returned (.bool (decide (xs = ys))) ∧ Bl w w' := by
  have hx1 := hx.cap
  have hy1 := hy.cap
  by_cases hl : n = m
  · subst hl
    have HLL := Lib.hid (hx.len.trans hy.len.symm)
    have HX := Lib.hid hx.len
    have h2 : ((n : Int) != (n : Int)) = false := by simp
    go_enter Try.func36, Try.ntmps36
    go_wp2
    go_loopw [13] (fun i w' => ∃ k : Nat, k ≤ n ∧ i = .int .i64 k ∧ Bl w w' ∧ ∀ j, j < k → nth xs j = nth ys j) (fun i _ => n - (intOf i).toNat)
    case atStart => exact ⟨0, Nat.zero_le _, rfl, Bl.refl _, fun j h => by omega⟩
    case round =>
      obtain ⟨k, hk, rfl, hbl, hle⟩ := hrel
      have HLE := Lib.hid hle; clear hle
      by_cases hlt : k < n
      · obtain ⟨ba, oa, rfl, hca⟩ := hx.cells k hlt
        obtain ⟨bb, ob, rfl, hcb⟩ := hy.cells k hlt
        have ha := hbl.cell (hca k hlt)
        have hb := hbl.cell (hcb k hlt)
        clear hca hcb
        by_cases hgt : nth xs k = nth ys k
        · have hbo : (nth xs k != nth ys k) = false := by simp [hgt]
          have HE := Lib.hid hgt; clear hgt
          go_wp2
          go_quiet (fail)
          go_wp2
          go_roundw
          case rel => exact ⟨k + 1, by omega, by go_num, hbl.drewN _, fun j hj => by
            by_cases e : j = k
            · subst e; exact HE.out
            · exact HLE.out j (by omega)⟩
          case measure => simp [intOf]; omega
        · have hbo : (nth xs k != nth ys k) = true := by simp [hgt]
          have HR := Lib.hid (show decide (xs = ys) = false from decide_eq_false (fun e => hgt (by rw [e])))
          clear hgt
          go_wp2
          go_quiet (fail)
          go_wp2
          go_ret
          exact ⟨ret_bool HR.out.symm, hbl.drewN _⟩
      · have HR := Lib.hid (show decide (xs = ys) = true from decide_eq_true (getD_ext HLL.out (fun j hj => HLE.out j (by rw [HX.out] at hj; omega))))
        go_wp2
        go_ret
        exact ⟨ret_bool HR.out.symm, hbl⟩
  · have h2 : ((n : Int) != (m : Int)) = true := by simp; omega
    have HR := Lib.hid (show decide (xs = ys) = false from decide_eq_false (fun e => hl (by rw [← hx.len, ← hy.len, e])))
    go_enter Try.func36, Try.ntmps36
    go_wp2
    go_ret
    exact ⟨ret_bool HR.out.symm, Bl.refl _⟩

theorem same_any (a b : Option Addr) (n m ca cb : Nat) (xs ys : List Int) (w : World) (hx : IA w a n xs) (hy : IA w b m ys) :
    Calls Try.prog 18 #[.slice a n ca, .slice b m cb] w fun e w' => e = .returned (.bool (decide (xs = ys))) ∧ Bl w w' := by
  go_enter Try.func18, Try.ntmps18
  go_wp2_with fail
  refine (equal_any a b n m ca cb xs ys _ hx hy).mono ?_
  rintro e w' ⟨rfl, hb⟩
  go_wp2
  go_ret
  exact ⟨rfl, hb⟩

end Go.Proofs.Ytginbjcpcgphgaa
end

/- rows of versions that a call makes out of versions that lie before it; fold.Read. By an AI agent. -/
section
set_option linter.unusedVariables false
set_option linter.unusedSimpArgs false
namespace Go.Proofs.Ytginbjcpcgphgaa
open Go.RowKit

theorem el_vr : EL 22 35 8 96 := el_of (by kernel_rfl) (by kernel_rfl) (by decide)
/-- a row of versions whose lists lay in W0 -/
structure SV (W0 W : World) (v : Value) (xs : List VC) : Prop where
  own : OVS W0.heap.size W v xs.length (flat xs)
  els : ∀ x ∈ xs, IA W0 x.ad x.n x.at_ ∧ x.act.Ok
theorem SV.nil (W0 W : World) : SV W0 W (.slice none 0 0) [] := ⟨World.ownsRow_nil _ _ _ _, fun x hx => by cases hx⟩
theorem SV.keep {W0 W W' : World} {v : Value} {xs : List VC} (h : SV W0 W v xs) (hb : Bl W W') : SV W0 W' v xs := ⟨h.own.keep hb, h.els⟩
theorem flat_one (y : VC) : flat [y] = y.cs := by rw [flat_cons]; exact List.append_nil _
theorem SV.push {W0 W W' : World} {v v' : Value} {xs : List VC} {y : VC} (h : SV W0 W v xs) (hy : IA W0 y.ad y.n y.at_) (hok : y.act.Ok) (ho : OVS W0.heap.size W' v' (xs.length + 1) (flat xs ++ y.cs)) : SV W0 W' v' (xs ++ [y]) := by
  refine ⟨?_, fun x hx => ?_⟩
  · rw [List.length_append, flat_append, flat_one]; exact ho
  · rcases List.mem_append.1 hx with q | q
    · exact h.els x q
    · rw [List.mem_singleton] at q; subst q; exact ⟨hy, hok⟩
/-- two rows in two blocks -/
def APt (u v : Value) : Prop := ∀ b, v.ownBlock = some b → u.ownBlock = some b → False
theorem APt.symm {u v : Value} (h : APt u v) : APt v u := fun b e q => h b q e
theorem SV.other {W0 W W' : World} {u v : Value} {ys : List VC} (h : SV W0 W u ys) (hg : W.grownBy W' v.ownBlock) (hne : APt u v) : SV W0 W' u ys :=
  ⟨((Fr.refl (fun b => v.ownBlock = some b) W).grown hg (fun i e => e)).own h.own (fun b e q => hne b q e), h.els⟩
theorem SV.apart {W0 W : World} {u v v' : Value} {ys : List VC} (h : SV W0 W u ys) (hne : APt u v) (hb : ∀ b, v'.ownBlock = some b → v.ownBlock = some b ∨ W.heap.size ≤ b) : APt u v' := fun b e q => by
  rcases hb b e with k | k
  · exact hne b k q
  · have := (World.ownsRow.lt h.own b q).2; omega
theorem SV.grown {W0 W W' : World} {v : Value} {xs : List VC} (h : SV W0 W v xs) (hb : Bl W0 W) (hg : W.grownBy W' v.ownBlock) : Bl W0 W' := Bl.grownRow hb h.own (Nat.le_refl _) hg
theorem SV.va {W0 W : World} {v : Value} {xs : List VC} (h : SV W0 W v xs) (hb : Bl W0 W) {n : Nat} (hn : xs.length = n) (hc : n ≤ 140737488351232) : ∃ a ca, v = .slice a n ca ∧ VA W a n (xs.map VC.ver) := by
  subst hn
  have ho := h.own
  obtain ⟨h1, ⟨rfl, h2⟩ | ⟨g, cap, cur, rfl, hB, hg, hc1, hm, hs, ht⟩⟩ := h.own
  · refine ⟨none, 0, by rw [h2], ⟨by rw [List.length_map], hc, fun j hj => absurd hj (by omega)⟩⟩
  · refine ⟨_, cap, rfl, ?_⟩
    have hr : RW W0 W g (xs ++ []) := by
      rw [List.append_nil]
      refine ⟨hb, hB, ⟨cur.toList.drop (xs.length * 8), ⟨35, ?_⟩⟩, fun x hx => ?_⟩
      · rw [hg, ← ht, List.take_append_drop]
      · obtain ⟨f, k⟩ := h.els x hx
        refine ⟨f.keep hb, k, ?_⟩
        by_cases h0 : x.n = 0
        · exact .inl h0
        · refine .inr fun b off e q => ?_
          obtain ⟨b2, off2, e2, hcell⟩ := f.cells 0 (by omega)
          rw [e] at e2
          simp only [Option.some.injEq, Addr.mk.injEq] at e2
          have hlt := World.block_lt_of_cell? _ _ (hcell 0 (by omega))
          simp at hlt
          omega
    exact hr.va rfl hc
theorem take_filter {α : Type} (p : α → Bool) (l : List α) (x : α) (k : Nat) (h : l.take (k + 1) = l.take k ++ [x]) : (l.take (k + 1)).filter p = if p x then (l.take k).filter p ++ [x] else (l.take k).filter p := by
  rw [h, List.filter_append]
  by_cases q : p x = true
  · rw [if_pos q, List.filter_cons_of_pos q]; rfl
  · rw [if_neg q, List.filter_cons_of_neg q]; simp
set_option maxHeartbeats 3200000 in
set_option maxRecDepth 100000 in
theorem fread_any (key : ByteArray) (a : Option Addr) (n ca : Nat) (vs : List VerL) (fa : Option Addr) (fn fc : Nat) (at_ : List Int) (w : World) (hkey : key.size ≤ 140737488351232) (hv : VA w a n vs) (hn1 : n ≤ 1000) (hf : IA w fa fn at_) :
    Calls Try.prog 15 #[.string key, .slice a n ca, .slice fa fn fc] w fun e w' => e = .returned (ValL.v (readL key vs at_)) ∧ Bl w w' := by
  have hsf := store_fl
  have hbx : Bl w (w.alloc (.cells #[.bool false, .float .f64 0, .int .i64 0, .string ⟨#[]⟩] 38)) := (Bl.refl w).alloc _
  have hac := AC.new w w.heap.size rfl [.bool false, .float .f64 0, .int .i64 0, .string ⟨#[]⟩] 38
  go_enter Try.func15, Try.ntmps15
  go_wp2_with fail
  refine (fOrder_any a n ca vs _ (hv.keep hbx) hn1).mono ?_
  rintro e W0 ⟨a0, m, c0, rfl, hv0, hb0⟩
  have HW := Lib.hid (hbx.trans hb0)
  have HF := Lib.hid (hf.keep (hbx.trans hb0))
  have HAC := Lib.hid (hac.keep hb0)
  have hmn : m ≤ 1000 := by rw [← hv0.len]; exact Nat.le_trans (order_len _) (by rw [hv.len]; exact hn1)
  obtain ⟨os, hos⟩ : ∃ os, orderOf vs = os := ⟨_, rfl⟩
  rw [hos] at hv0
  have HOS := Lib.hid hos
  have HL := Lib.hid hv0.len
  clear hb0 hf hos hv hac hbx
  go_wp2_with fail
  go_loopw [7, 13] (fun sv iv wr => ∃ (k : Nat) (xs : List VC), k ≤ m ∧ xs.map VC.ver = (os.take k).filter (leqV at_) ∧ SV W0 wr sv xs ∧ Bl W0 wr ∧ iv = .int .i64 (k : Int)) (fun _ iv _ => m - (intOf iv).toNat)
  case atStart => exact ⟨0, [], Nat.zero_le _, by rw [List.take_zero]; rfl, SV.nil _ _, Bl.refl _, by go_num⟩
  case round =>
    obtain ⟨k, xs, hk, hm, hsv, hbw, rfl⟩ := hrel
    have HM := Lib.hid hm
    have HS := Lib.hid hsv
    have HB := Lib.hid hbw
    have hxl : xs.length ≤ k := by
      have h1 := congrArg List.length HM.out
      rw [List.length_map] at h1
      have h2 := List.length_filter_le (leqV at_) (os.take k)
      rw [List.length_take] at h2
      omega
    clear hm hsv hbw
    by_cases hlt : k < m
    · obtain ⟨b, off, rfl, hc⟩ := hv0.cells k hlt
      have E0 := hc k hlt
      have E := E0.keep HB.out
      have HT := Lib.hid (take_filter (leqV at_) os _ k (take_nthR (vs := os) (k := k) (by rw [HL.out]; exact hlt)))
      obtain ⟨V, hV⟩ : ∃ V, nthR os k = V := ⟨_, rfl⟩
      rw [hV] at E E0 HT
      clear hV hc
      have HA := Lib.hid E.ok
      obtain ⟨va, vn, vc, e1', hI⟩ := E0.at_
      have e1 := HB.out.cell e1'
      have HI := Lib.hid hI
      have ba : Bl wr (wr.alloc (.cells #[.string V.key, .slice va vn vc, .int .i64 V.origin, .int .i64 V.tx, .int .i64 V.act.k, .float .f64 V.act.x, .int .i64 V.act.n, .string V.act.s] 35)) := (Bl.refl wr).alloc _
      have hx := AC.new wr wr.heap.size rfl [.string V.key, .slice va vn vc, .int .i64 V.origin, .int .i64 V.tx, .int .i64 V.act.k, .float .f64 V.act.x, .int .i64 V.act.n, .string V.act.s] 35
      obtain ⟨v0, v1, v2, v3, v4, v5, v6, v7⟩ := AC.ver (key := V.key) (a := va) (n := vn) (ca := vc) (o := V.origin) (t := V.tx) (k := V.act.k) (x := V.act.x) (m := V.act.n) (s := V.act.s) hx
      have HIA := Lib.hid (hI.keep (HB.out.trans ba))
      have HFA := Lib.hid (HF.out.keep (HB.out.trans ba))
      have HSA := Lib.hid (HS.out.keep ba)
      have HBA := Lib.hid (HB.out.trans ba)
      clear hx ba
      have e0 := E.c0
      have e2 := E.c2
      have e3 := E.c3
      have e4 := E.c4
      have e5 := E.c5
      have e6 := E.c6
      have e7 := E.c7
      clear hI E E0 e1'
      obtain ⟨r, hr⟩ : ∃ r, leqL V.at_ at_ = r := ⟨_, rfl⟩
      have HR := Lib.hid hr
      clear hr
      clear HS HB
      go_wp2_with fail
      clear e0 e1 e2 e3 e4 e5 e6 e7
      refine (leq_any va fa vn fn vc fc V.at_ at_ _ HIA.out HFA.out).mono ?_
      rintro e w2 ⟨rfl, rfl⟩
      rw [HR.out]
      cases r
      case false =>
        have HN := Lib.hid (show (os.take (k + 1)).filter (leqV at_) = (os.take k).filter (leqV at_) by rw [HT.out, if_neg (by show ¬ leqL V.at_ at_ = true; rw [HR.out]; decide)])
        go_wp2_with fail
        go_roundw
        case rel => exact ⟨k + 1, xs, by omega, by rw [HN.out]; exact HM.out, HSA.out, HBA.out, by go_num⟩
        case measure => simp [intOf]; omega
      case true =>
        have HN := Lib.hid (show (os.take (k + 1)).filter (leqV at_) = (os.take k).filter (leqV at_) ++ [V] by rw [HT.out]; exact if_pos HR.out)
        clear HIA HFA HT HR
        generalize wr.heap.size = gv at *
        generalize wr.alloc _ = wa at *
        have HSB := Lib.hid (HSA.out.keep ((Bl.refl wa).alloc (.cells #[.string V.key, .slice va vn vc, .int .i64 V.origin, .int .i64 V.tx, .int .i64 V.act.k, .float .f64 V.act.x, .int .i64 V.act.n, .string V.act.s] 35)))
        have HBB := Lib.hid (HBA.out.alloc (.cells #[.string V.key, .slice va vn vc, .int .i64 V.origin, .int .i64 V.tx, .int .i64 V.act.k, .float .f64 V.act.x, .int .i64 V.act.n, .string V.act.s] 35))
        have HLT := Lib.hid (SG.lit (heap_alloc_new wa (.cells #[.string V.key, .slice va vn vc, .int .i64 V.origin, .int .i64 V.tx, .int .i64 V.act.k, .float .f64 V.act.x, .int .i64 V.act.n, .string V.act.s] 35)) (show [.string V.key, .slice va vn vc, .int .i64 V.origin, .int .i64 V.tx, .int .i64 V.act.k, .float .f64 V.act.x, .int .i64 V.act.n, .string V.act.s].length = 1 * 8 from rfl) (by simp [Value.oneCell']))
        go_wp2_with (at_builtin; refine wpList_appK rfl _ _ _ rfl el_vr W0.heap.size _ _ _ rfl HSB.out.own ?cB _ 1 1 _ rfl HLT.out ?cM ?cN ?_)
        case cB => exact HBB.out.size
        case cM => have := hxl; unfold maxLen; omega
        case cN => have := hxl; omega
        intro vq w3 ho3 hg3 hz1 hz2
        clear hz1 hz2
        have HS3 := Lib.hid (HSB.out.push (y := ⟨V.key, va, vn, vc, V.at_, V.origin, V.tx, V.act⟩) HI.out HA.out ho3)
        have HB3 := Lib.hid (HSB.out.grown HBB.out hg3)
        clear ho3 hg3 HSB HBB HLT HSA HBA v0 v1 v2 v3 v4 v5 v6 v7
        go_wp2_with fail
        go_roundw
        case rel => exact ⟨k + 1, xs ++ [⟨V.key, va, vn, vc, V.at_, V.origin, V.tx, V.act⟩], by omega, by rw [List.map_append, HM.out, HN.out]; rfl, HS3.out, HB3.out, by go_num⟩
        case measure => simp [intOf]; omega
    · have HO := Lib.hid (show xs.map VC.ver = os.filter (leqV at_) by rw [HM.out, List.take_of_length_le (by rw [HL.out]; omega)])
      obtain ⟨xn, hxn⟩ : ∃ xn, xs.length = xn := ⟨_, rfl⟩
      obtain ⟨sa, sc, rfl, hva⟩ := HS.out.va HB.out hxn (by omega)
      have HV := Lib.hid hva
      clear hva HM
      have HE := Lib.hid (show readL key vs at_ = valueL key (xs.map VC.ver) by unfold readL; rw [HOS.out, HO.out])
      have HACW := Lib.hid (HAC.out.keep HB.out)
      have HWW := Lib.hid (HW.out.trans HB.out)
      clear HS HO HAC HW HOS
      go_wp2_with fail
      refine (value_any key sa xn sc _ wr hkey HV.out).mono ?_
      rintro e w2 ⟨rfl, hb2⟩
      have HAC2 := Lib.hid (HACW.out.keep hb2)
      have HB2 := Lib.hid (HWW.out.trans hb2)
      clear hb2 HACW HWW
      rw [← HE.out]
      obtain ⟨⟨rb, rx, rn, rz⟩, hr⟩ : ∃ r, readL key vs at_ = r := ⟨_, rfl⟩
      have HQ := Lib.hid hr
      rw [hr]
      clear hr HE HV
      unfold ValL.v
      have c0 := HAC2.out.cell 0 _ rfl
      have c1 := HAC2.out.cell 1 _ rfl
      have c2 := HAC2.out.cell 2 _ rfl
      have c3 := HAC2.out.cell 3 _ rfl
      have fz := HAC2.out.frozen
      go_wp2_with fail
      have E := (((HAC2.out.putj 0 (.bool rb)).putj 1 (.float .f64 rx)).putj 2 (.int .i64 rn)).putj 3 (.string rz)
      have d0 := E.cell 0 _ rfl
      have d1 := E.cell 1 _ rfl
      have d2 := E.cell 2 _ rfl
      have d3 := E.cell 3 _ rfl
      refine bodyPost_ret (v := .agg #[.bool rb, .float .f64 rx, .int .i64 rn, .string rz]) (by simp [results, Try.results15, go_sem, d0, d1, d2, d3]) rfl ⟨by rw [HQ.out]; rfl, ?_⟩
      exact (((HB2.out.setCell (p := ⟨w.heap.size, 0, none⟩) (Nat.le_refl _) _).setCell (p := ⟨w.heap.size, 1, none⟩) (Nat.le_refl _) _).setCell (p := ⟨w.heap.size, 2, none⟩) (Nat.le_refl _) _).setCell (p := ⟨w.heap.size, 3, none⟩) (Nat.le_refl _) _
end Go.Proofs.Ytginbjcpcgphgaa
end
