import Derived.Test.YtdjlnpiaehoofaaCore12
import Derived.Test.YtdjlnpiaehoofaaCore11
import Derived.Test.YtdjlnpiaehoofaaCore1
import Derived.Deep.QuietTactic
import Derived.BigQuiet
import Derived.Test.YtdjlnpiaehoofaaCore3

/- vec.Join, vec.Meet: what each computes, for every two vectors. By an AI agent. -/
section
namespace Go.Proofs.Ytdjlnpiaehoofaa
open Go.RowKit

theorem max_any (x y : Int) (w : World) : Calls Try.prog 27 #[.int .i64 x, .int .i64 y] w fun e w' => e = .returned (.int .i64 (max x y)) ∧ w = w' := by
  go_enter Try.func27, Try.ntmps27
  go_wp2
  all_goals (go_ret; exact ⟨ret_int (by omega), rfl⟩)

/-- a function of two ints that stays among them -/
def Tells (g : FuncId) (t : Int → Int → Int) : Prop :=
  (∀ x y w, Calls Try.prog g #[.int .i64 x, .int .i64 y] w fun e w' => e = .returned (.int .i64 (t x y)) ∧ w = w') ∧ (∀ x y, t x y = x ∨ t x y = y) ∧
  ∀ args w, (callFunc g args).run Try.prog w = .ok (.enter g args) w
theorem tells_max : Tells 27 max := ⟨max_any, fun x y => by omega, fun _ _ => by kernel_rfl⟩



set_option maxHeartbeats 800000 in
theorem each_any (g : FuncId) (t : Int → Int → Int) (hg : Tells g t) (a b : Option Addr) (n m ca cb : Nat) (xs ys : List Int) (w : World) (hx : IA w a n xs) (hy : IA w b m ys) :
    Calls Try.prog 26 #[.slice a n ca, .slice b m cb, .func (.func g) #[] #[]] w fun e w' => ∃ v, e = .returned v ∧ FI w.heap.size w' v (eachL t xs ys) ∧ Bl w w' := by
  obtain ⟨i0, hi, hz0, hz1, hz2⟩ := info_parts info_int
  have hx1 := hx.cap
  have hy1 := hy.cap
  by_cases hl : n = m
  · subst hl
    have HLL := Lib.hid (hx.len.trans hy.len.symm)
    have HX := Lib.hid hx.len
    have h2 : ((n : Int) != (n : Int)) = false := by simp
    have HZL : ∀ k, k ≤ n → ((List.zipWith t xs ys).take k).length = k := fun k hk => by
      have h1 := HLL.out; have h2 := HX.out
      simp; omega
    have HZ := Lib.hid HZL; clear HZL
    have hcf := hg.2.2
    go_enter Try.func26, Try.ntmps26
    go_wp2
    go_loopw [7, 17] (fun v i wr => ∃ (k : Nat) (acc : List Int), k ≤ n ∧ i = .int .i64 k ∧ Bl w wr ∧ OI w.heap.size wr v acc ∧ acc = (List.zipWith t xs ys).take k) (fun _ i _ => n - (intOf i).toNat)
    case atStart => exact ⟨0, [], Nat.zero_le _, rfl, Bl.refl _, OI.nil _ _, rfl⟩
    case round =>
      obtain ⟨k, acc, hk, rfl, hbl, hown, hacc⟩ := hrel
      have hal : acc.length ≤ n := by rw [hacc, HZ.out k hk]; exact hk
      have HACC := Lib.hid hacc; clear hacc
      have hbs := hbl.size
      by_cases hlt : k < n
      · obtain ⟨ba, oa, rfl, hca⟩ := hx.cells k hlt
        obtain ⟨bb, ob, rfl, hcb⟩ := hy.cells k hlt
        have ha := hbl.cell (hca k hlt)
        have hb := hbl.cell (hcb k hlt)
        clear hca hcb
        go_wp2_with fail
        refine (hg.1 _ _ _).mono ?_
        rintro e w' ⟨rfl, rfl⟩
        go_wp2_with (at_builtin; refine wpList_append_own _ rfl _ _ 24 rfl (w.heap.size) 3 i0 (.int .i64 0) 1 8 Try.underlying24 hi hz0 hz1 hz2 rfl (by decide) _ _ _ rfl (World.ownsRow.alloc hown _) ⟨wr.heap.size, 0, none⟩ 1 1 [.int .i64 (t (nth xs k) (nth ys k))] rfl rfl ?c1 ?c2 ?c3 ?c4 ?c5 ?_)
        case c1 =>
          intro j u hj
          match j, hj with
          | 0, hj => simp at hj; subst hj; simp [Addr.add]
        case c2 => intro u hu; simp at hu; subst hu; rfl
        case c3 => unfold maxLen; omega
        case c4 => omega
        case c5 => simp; omega
        intro v' w1 hown' hgrow _
        have R := OI.push hbl hbs hown hown' hgrow
        have HA := Lib.hid (zip_take (t := t) HLL.out (by rw [HX.out]; exact hlt))
        clear hown hown' hgrow
        go_wp2
        go_roundw
        case rel => exact ⟨k + 1, _, by omega, by go_num, R.2, R.1, by rw [HA.out, HACC.out]⟩
        case measure => simp [intOf]; omega
      · go_wp2
        go_ret
        have e1 : k = n := by omega
        subst e1
        refine ⟨_, rfl, ?_, hbl⟩
        have e2 : (List.zipWith t xs ys).take k = eachL t xs ys := by
          rw [eachL, if_pos HLL.out, List.take_of_length_le]
          have h1 := HLL.out; have h2 := HX.out
          simp; omega
        rw [HACC.out, e2] at hown
        refine ⟨hown, ?_, ?_⟩
        · rw [eachL, if_pos HLL.out]
          have h1 := HLL.out; have h2 := HX.out
          simp; omega
        · rw [eachL, if_pos HLL.out]
          exact zip_wf hg.2.1 hx.wf hy.wf
  · have h2 : ((n : Int) != (m : Int)) = true := by simp; omega
    go_enter Try.func26, Try.ntmps26
    go_wp2
    go_ret
    refine ⟨_, rfl, ?_, Bl.refl _⟩
    rw [eachL, if_neg (by rw [hx.len, hy.len]; exact hl)]
    exact FI.nil _ _

theorem join_any (a b : Option Addr) (n m ca cb : Nat) (xs ys : List Int) (w : World) (hx : IA w a n xs) (hy : IA w b m ys) :
    Calls Try.prog 12 #[.slice a n ca, .slice b m cb] w fun e w' => ∃ v, e = .returned v ∧ FI w.heap.size w' v (joinL xs ys) ∧ Bl w w' := by
  go_enter Try.func12, Try.ntmps12
  go_wp2_with fail
  refine (each_any _ _ tells_max a b n m ca cb xs ys _ hx hy).mono ?_
  rintro e w' ⟨v, rfl, hs, hb⟩
  go_wp2
  go_ret
  exact ⟨_, rfl, hs, hb⟩
end Go.Proofs.Ytdjlnpiaehoofaa
end

/- fold.one. By an AI agent. -/
section
set_option linter.unusedVariables false
set_option linter.unusedSimpArgs false
namespace Go.Proofs.Ytdjlnpiaehoofaa
open Go.RowKit

theorem fone_results {tmps : Array Value} {W : World} {g0 : Nat} {v : VC} (h0 : tmps.getD 4 undef = .pointer (some ⟨g0, 0, none⟩)) (c0 : AC W g0 v.cs) :
    (results Try.f25 tmps).run Try.prog W = .ok (.agg #[.string v.key, .slice v.ad v.n v.ca, .int .i64 v.origin, .int .i64 v.tx, .int .i64 v.act.k, .float .f64 v.act.x, .int .i64 v.act.n, .string v.act.s]) W := by
  rw [Array.getD_eq_getD_getElem?] at h0
  obtain ⟨k0, k1, k2, k3, k4, k5, k6, k7⟩ := AC.ver (key := v.key) (a := v.ad) (n := v.n) (ca := v.ca) (o := v.origin) (t := v.tx) (k := v.act.k) (x := v.act.x) (m := v.act.n) (s := v.act.s) c0
  simp [results, Try.results25, go_sem, h0, k0, k1, k2, k3, k4, k5, k6, k7]
/-- how far the one is -/
structure ONE (key : ByteArray) (vs : List VerL) (w W : World) (l c : Nat) (y : VC) : Prop where
  hi : c ≤ l
  is_ : y.ver = oneL key (vs.drop c).reverse
  ok : y.act.Ok
  kk : y.key = key
  og : y.origin = 254
  first : c = l → IA w y.ad y.n y.at_
  later : c < l → FI (w.heap.size + 3) W (.slice y.ad y.n y.ca) y.at_
  res : AC W w.heap.size [.string ⟨#[]⟩, .slice none 0 0, .int .i64 0, .int .i64 0, .int .i64 0, .float .f64 0, .int .i64 0, .string ⟨#[]⟩]
  out : AC W (w.heap.size + 1 + 1) (verC y.key y.ad y.n y.ca y.origin y.tx y.act.k y.act.x y.act.n y.act.s)
  bl : Bl w W
  size : w.heap.size + 3 ≤ W.heap.size
theorem ONE.ia {key : ByteArray} {vs : List VerL} {w W : World} {l c : Nat} {y : VC} (h : ONE key vs w W l c y) : IA W y.ad y.n y.at_ := by
  by_cases e : c = l
  · exact (h.first e).keep h.bl
  · exact (h.later (by have := h.hi; omega)).iaE
theorem oneL_cons {key : ByteArray} {vs : List VerL} {k : Nat} (h : k + 1 < vs.length) : oneL key (vs.drop k).reverse = oneStep key (oneL key (vs.drop (k + 1)).reverse) (nthR vs k) := by
  have e : vs.drop k = nthR vs k :: vs.drop (k + 1) := by rw [nthR_eq (by omega), List.drop_eq_getElem_cons (by omega)]
  rw [e, List.reverse_cons]
  have hne : (vs.drop (k + 1)).reverse ≠ [] := fun q => by
    have := congrArg List.length q
    rw [List.length_reverse, List.length_drop] at this
    simp at this
    omega
  cases hq : (vs.drop (k + 1)).reverse with
  | nil => exact absurd hq hne
  | cons x r => simp [oneL]
theorem oneL_last {key : ByteArray} {vs : List VerL} {l : Nat} (h : l + 1 = vs.length) : oneL key (vs.drop l).reverse = oneV key (nthR vs l) := by
  have e : vs.drop l = [nthR vs l] := by rw [nthR_eq (by omega), List.drop_eq_getElem_cons (by omega), List.drop_eq_nil_of_le (by omega)]
  rw [e]; rfl
set_option maxHeartbeats 3200000 in
set_option maxRecDepth 100000 in
theorem fone_any (key : ByteArray) (a : Option Addr) (n ca : Nat) (vs : List VerL) (w : World) (hkey : key.size ≤ 140737488351232) (hv : VA w a n vs) (hn1 : n ≤ 1000) (hn2 : 2 ≤ n) :
    Calls Try.prog 25 #[.string key, .slice a n ca] w fun e w' => ∃ y : VC, e = .returned (.agg #[.string y.key, .slice y.ad y.n y.ca, .int .i64 y.origin, .int .i64 y.tx, .int .i64 y.act.k, .float .f64 y.act.x, .int .i64 y.act.n, .string y.act.s]) ∧ y.ver = oneL key vs.reverse ∧ y.act.Ok ∧ FI w.heap.size w' (.slice y.ad y.n y.ca) y.at_ ∧ Bl w w' := by
  have hsf := store_fl
  have HL := Lib.hid hv.len
  obtain ⟨l, hl⟩ : ∃ l, l + 1 = n := ⟨n - 1, by omega⟩
  have hln : l < n := by omega
  have hw1 : IntKind.i64.wrap ((n : Int) - 1) = (l : Int) := by rw [IntKind.wrap_i64]; omega
  have hw1' : (n : Int) - 1 = (l : Int) := by omega
  have hw2' : (n : Int) - 2 = ((l - 1 : Nat) : Int) := by omega
  obtain ⟨b, off, rfl, hc⟩ := hv.cells l hln
  have bR : Bl w (w.alloc (.cells #[.string ⟨#[]⟩, .slice none 0 0, .int .i64 0, .int .i64 0, .int .i64 0, .float .f64 0, .int .i64 0, .string ⟨#[]⟩] 35)) := (Bl.refl w).alloc _
  have aR := AC.new w w.heap.size rfl [.string ⟨#[]⟩, .slice none 0 0, .int .i64 0, .int .i64 0, .int .i64 0, .float .f64 0, .int .i64 0, .string ⟨#[]⟩] 35
  have E0 := hc l hln
  have E := E0.keep bR
  have HC := Lib.hid hc
  clear hc
  obtain ⟨V, hV⟩ : ∃ V, nthR vs l = V := ⟨_, rfl⟩
  rw [hV] at E E0
  have HV := Lib.hid hV
  clear hV
  obtain ⟨va, vn, vc, e1', hI⟩ := E0.at_
  have e1 := bR.cell e1'
  have e0 := E.c0
  have e2 := E.c2
  have e3 := E.c3
  have e4 := E.c4
  have e5 := E.c5
  have e6 := E.c6
  have e7 := E.c7
  have HA := Lib.hid E.ok
  have HI := Lib.hid hI
  clear hI E E0 e1'
  have HBR := Lib.hid bR
  have HAR := Lib.hid aR
  clear bR aR
  go_enter Try.func25, Try.ntmps25
  go_wp2_with fail
  have HST := Lib.hid (show ONE key vs w (((w.alloc (.cells #[.string ⟨#[]⟩, .slice none 0 0, .int .i64 0, .int .i64 0, .int .i64 0, .float .f64 0, .int .i64 0, .string ⟨#[]⟩] 35)).alloc (.cells #[.string V.key, .slice va vn vc, .int .i64 V.origin, .int .i64 V.tx, .int .i64 V.act.k, .float .f64 V.act.x, .int .i64 V.act.n, .string V.act.s] 35)).alloc (.cells #[.string key, .slice va vn vc, .int .i64 254, .int .i64 V.tx, .int .i64 V.act.k, .float .f64 V.act.x, .int .i64 V.act.n, .string V.act.s] 35)) l l ⟨key, va, vn, vc, V.at_, 254, V.tx, V.act⟩ from by
    have b2 := (Bl.refl (w.alloc (.cells #[.string ⟨#[]⟩, .slice none 0 0, .int .i64 0, .int .i64 0, .int .i64 0, .float .f64 0, .int .i64 0, .string ⟨#[]⟩] 35))).alloc (.cells #[.string V.key, .slice va vn vc, .int .i64 V.origin, .int .i64 V.tx, .int .i64 V.act.k, .float .f64 V.act.x, .int .i64 V.act.n, .string V.act.s] 35)
    have b3 := b2.alloc (.cells #[.string key, .slice va vn vc, .int .i64 254, .int .i64 V.tx, .int .i64 V.act.k, .float .f64 V.act.x, .int .i64 V.act.n, .string V.act.s] 35)
    have hi := HC.out
    exact ⟨Nat.le_refl _, by rw [oneL_last (by rw [HL.out]; exact hl), HV.out]; rfl, HA.out, rfl, rfl, fun _ => HI.out, fun q => absurd q (Nat.lt_irrefl _), HAR.out.keep b3, AC.new _ (w.heap.size + 1 + 1) (by simp) [.string key, .slice va vn vc, .int .i64 254, .int .i64 V.tx, .int .i64 V.act.k, .float .f64 V.act.x, .int .i64 V.act.n, .string V.act.s] 35, HBR.out.trans b3, by simp⟩)
  clear e0 e1 e2 e3 e4 e5 e6 e7 HI HBR HAR HV
  generalize ((w.alloc _).alloc _).alloc _ = W3 at *
  have hl0 : ((l - 1 : Nat) : Int) = (l : Int) - 1 := by omega
  rw [hl0]
  go_loopw [7] (fun iv wr => ∃ (c : Nat) (i : Int) (y : VC), ONE key vs w wr l c y ∧ i = (c : Int) - 1 ∧ iv = .int .i64 i) (fun iv _ => (intOf iv + 1).toNat)
  case atStart => exact ⟨l, (l : Int) - 1, _, HST.out, rfl, rfl⟩
  case round =>
    clear HST hl0
    obtain ⟨c, i, y, hone, hi, rfl⟩ := hrel
    have HO := Lib.hid hone
    clear hone
    by_cases h0 : c = 0
    · have q0 : decide ((0 : Int) ≤ i) = false := decide_eq_false (by omega)
      have HH := Lib.hid hi
      clear hi
      have HF := Lib.hid (HO.out.later (by omega))
      have HR := Lib.hid HO.out.res
      obtain ⟨r0, r1, r2, r3, r4, r5, r6, r7⟩ := AC.ver HR.out
      obtain ⟨o0, o1, o2, o3, o4, o5, o6, o7⟩ := AC.ver HO.out.out
      have fz := HR.out.frozen
      go_wp2_with fail
      have R1 : AC (st8 wr w.heap.size 0 y) w.heap.size y.cs := HR.out.st8 0 y
      have R2 := FI.fr (S := fun b => b = w.heap.size) HF.out (Fr.st8 wr w.heap.size 0 y) (fun b e q => by have := (World.ownsRow.lt HF.out.own b e).1; omega)
      have R3 : Bl w (st8 wr w.heap.size 0 y) := Bl.st8 HO.out.bl (Nat.le_refl _) 0 y
      exact bodyPost_ret (fone_results rfl R1) rfl ⟨y, rfl, by rw [HO.out.is_, h0, List.drop_zero], HO.out.ok, FI.mono0 R2 (by omega), R3⟩
    · obtain ⟨k, rfl⟩ : ∃ k, c = k + 1 := ⟨c - 1, by omega⟩
      have hik : i = (k : Int) := by omega
      subst hik
      clear hi h0
      have hkn : k < n := by have := HO.out.hi; omega
      have E := (HC.out k hkn).keep HO.out.bl
      obtain ⟨U, hU⟩ : ∃ U, nthR vs k = U := ⟨_, rfl⟩
      rw [hU] at E
      have HU := Lib.hid hU
      clear hU
      obtain ⟨ua, un, uc, e1, hI⟩ := E.at_
      have e0 := E.c0
      have e2 := E.c2
      have e3 := E.c3
      have e4 := E.c4
      have e5 := E.c5
      have e6 := E.c6
      have e7 := E.c7
      have HUA := Lib.hid E.ok
      have ba : Bl wr (wr.alloc (.cells #[.string U.key, .slice ua un uc, .int .i64 U.origin, .int .i64 U.tx, .int .i64 U.act.k, .float .f64 U.act.x, .int .i64 U.act.n, .string U.act.s] 35)) := (Bl.refl wr).alloc _
      have HUB := Lib.hid (AC.new wr wr.heap.size rfl [.string U.key, .slice ua un uc, .int .i64 U.origin, .int .i64 U.tx, .int .i64 U.act.k, .float .f64 U.act.x, .int .i64 U.act.n, .string U.act.s] 35)
      have HUI := Lib.hid (hI.keep ba)
      have HYI := Lib.hid (HO.out.ia.keep ba)
      have HBA := Lib.hid ba
      have HOB := Lib.hid (HO.out.out.keep ba)
      obtain ⟨u0, u1, u2, u3, u4, u5, u6, u7⟩ := AC.ver (key := U.key) (a := ua) (n := un) (ca := uc) (o := U.origin) (t := U.tx) (k := U.act.k) (x := U.act.x) (m := U.act.n) (s := U.act.s) HUB.out
      obtain ⟨o0, o1, o2, o3, o4, o5, o6, o7⟩ := AC.ver HOB.out
      have hgo : w.heap.size + 1 + 1 < wr.heap.size := by have := HO.out.size; omega
      clear hI E ba
      go_wp2_with fail
      clear e0 e1 e2 e3 e4 e5 e6 e7 u0 u1 u2 u3 u4 u5 u6 u7 o0 o1 o2 o3 o4 o5 o6 o7
      generalize wr.heap.size = gv at *
      generalize wr.alloc _ = wa at *
      refine (join_any y.ad ua y.n un y.ca uc y.at_ U.at_ wa HYI.out HUI.out).mono ?_
      rintro e w1 ⟨jv, rfl, hf, hb1⟩
      obtain ⟨ja, jn, jc, rfl, -⟩ := hf.si
      have HB1 := Lib.hid (HBA.out.trans hb1)
      have HF1 := Lib.hid (FI.mono0 hf (B' := w.heap.size + 3) (Nat.le_trans HO.out.size HBA.out.size))
      have HO1 := Lib.hid (HOB.out.keep hb1)
      have HU1 := Lib.hid (HUB.out.keep hb1)
      have fz := HO1.out.frozen
      have o1 := HO1.out.cell 1 _ rfl
      have EO2 := Lib.hid (HO1.out.putj 1 (.slice ja jn jc))
      have EU2 := Lib.hid (HU1.out.otherj (g' := w.heap.size + 1 + 1) (by omega) 1 (.slice ja jn jc))
      have EF2 := Lib.hid (FI.fr (S := fun b => b = w.heap.size + 1 + 1) HF1.out (Fr.setj w1 (w.heap.size + 1 + 1) 1 (.slice ja jn jc)) (fun b e q => by have := (World.ownsRow.lt HF1.out.own b e).1; omega))
      have EB2 := Lib.hid ((HO.out.bl.trans HB1.out).setCell (p := ⟨w.heap.size + 1 + 1, 1, none⟩) (show w.heap.size ≤ w.heap.size + 1 + 1 by omega) (.slice ja jn jc))
      have ER2 := Lib.hid ((HO.out.res.keep HB1.out).otherj (g' := w.heap.size + 1 + 1) (by omega) 1 (.slice ja jn jc))
      clear hf hb1 HBA HOB HUB HUI HYI
      go_upto_region 8 with fail
      clear o1 fz HO1 HU1 HF1
      generalize w1.setCell _ _ = w2 at *
      have o3 := EO2.out.cell 3 _ rfl
      have u3 := EU2.out.cell 3 _ rfl
      have fz := EO2.out.frozen
      have EO3 := Lib.hid (EO2.out.putj 3 (.int .i64 (max y.tx U.tx)))
      have EU3 := Lib.hid (EU2.out.otherj (g' := w.heap.size + 1 + 1) (by omega) 3 (.int .i64 (max y.tx U.tx)))
      have EF3 := Lib.hid (FI.fr (S := fun b => b = w.heap.size + 1 + 1) EF2.out (Fr.setj w2 (w.heap.size + 1 + 1) 3 (.int .i64 (max y.tx U.tx))) (fun b e q => by have := (World.ownsRow.lt EF2.out.own b e).1; omega))
      have EB3 := Lib.hid (EB2.out.setCell (p := ⟨w.heap.size + 1 + 1, 3, none⟩) (show w.heap.size ≤ w.heap.size + 1 + 1 by omega) (.int .i64 (max y.tx U.tx)))
      have ER3 := Lib.hid (ER2.out.otherj (g' := w.heap.size + 1 + 1) (by omega) 3 (.int .i64 (max y.tx U.tx)))
      go_upto_region 9 with fail
      clear o3 u3 fz EO2 EU2 EF2 EB2 ER2
      obtain ⟨mx, hmx⟩ : ∃ mx, max y.tx U.tx = mx := ⟨_, rfl⟩
      rw [hmx] at EO3 EU3 EF3 EB3 ER3
      rw [hmx]
      have HMX := Lib.hid hmx
      clear hmx
      generalize w2.setCell _ _ = w3 at *
      obtain ⟨o0, o1, o2, o3, o4, o5, o6, o7⟩ := AC.ver (key := y.key) (a := ja) (n := jn) (ca := jc) (o := y.origin) (t := mx) (k := y.act.k) (x := y.act.x) (m := y.act.n) (s := y.act.s) EO3.out
      obtain ⟨u0, u1, u2, u3, u4, u5, u6, u7⟩ := AC.ver (key := U.key) (a := ua) (n := un) (ca := uc) (o := U.origin) (t := U.tx) (k := U.act.k) (x := U.act.x) (m := U.act.n) (s := U.act.s) EU3.out
      obtain ⟨⟨rk, rx, rn, rs⟩, hr⟩ : ∃ r, bothL key y.act U.act = r := ⟨_, rfl⟩
      have HBO := Lib.hid hr
      have HRO := Lib.hid (show (ActL.mk rk rx rn rs).Ok from hr ▸ both_ok HO.out.ok HUA.out)
      clear hr
      go_wp2_with fail
      refine (both_agg key y.act.k y.act.x y.act.n y.act.s U.act.k U.act.x U.act.n U.act.s rk rx rn rs _ HBO hkey (Lib.hid HO.out.ok) HUA).mono ?_
      rintro e w4 ⟨rfl, hb4⟩
      have EO4 := Lib.hid (EO3.out.keep hb4)
      have EF4 := Lib.hid (EF3.out.keep hb4)
      have EB4 := Lib.hid (Bl.trans (show Bl w w3 from EB3.out) hb4)
      have ER4 := Lib.hid (ER3.out.keep hb4)
      clear hb4 EO3 EU3 EF3 EB3 ER3 o0 o1 o2 o3 o4 o5 o6 o7 u0 u1 u2 u3 u4 u5 u6 u7
      obtain ⟨o0, o1, o2, o3, o4, o5, o6, o7⟩ := AC.ver (key := y.key) (a := ja) (n := jn) (ca := jc) (o := y.origin) (t := mx) (k := y.act.k) (x := y.act.x) (m := y.act.n) (s := y.act.s) EO4.out
      have fz := EO4.out.frozen
      go_wp2_with fail
      have Z1 := (((EO4.out.putj 4 (.int .i64 rk)).putj 5 (.float .f64 rx)).putj 6 (.int .i64 rn)).putj 7 (.string rs)
      have Z2 := (((ER4.out.otherj (g' := w.heap.size + 1 + 1) (by omega) 4 (.int .i64 rk)).otherj (g' := w.heap.size + 1 + 1) (by omega) 5 (.float .f64 rx)).otherj (g' := w.heap.size + 1 + 1) (by omega) 6 (.int .i64 rn)).otherj (g' := w.heap.size + 1 + 1) (by omega) 7 (.string rs)
      have far : ∀ b, (Value.slice ja jn jc).ownBlock = some b → b = w.heap.size + 1 + 1 → False := fun b e q => by have := (World.ownsRow.lt EF4.out.own b e).1; omega
      have Z3 := FI.fr (S := fun b => b = w.heap.size + 1 + 1) EF4.out ((((Fr.setj w4 (w.heap.size + 1 + 1) 4 (.int .i64 rk)).trans (Fr.setj _ (w.heap.size + 1 + 1) 5 (.float .f64 rx))).trans (Fr.setj _ (w.heap.size + 1 + 1) 6 (.int .i64 rn))).trans (Fr.setj _ (w.heap.size + 1 + 1) 7 (.string rs))) far
      have hg2 : w.heap.size ≤ w.heap.size + 1 + 1 := by omega
      have Z4 := (((Below.setCell (p := ⟨w.heap.size + 1 + 1, 4, none⟩) EB4.out hg2 (.int .i64 rk)).setCell (p := ⟨w.heap.size + 1 + 1, 5, none⟩) hg2 (.float .f64 rx)).setCell (p := ⟨w.heap.size + 1 + 1, 6, none⟩) hg2 (.int .i64 rn)).setCell (p := ⟨w.heap.size + 1 + 1, 7, none⟩) hg2 (.string rs)
      have Z5 : w.heap.size + 3 ≤ w4.heap.size := by
        have := lt_of_heap (EO4.out.choose_spec)
        omega
      refine ⟨⟨k, (k : Int) - 1, ⟨y.key, ja, jn, jc, joinL y.at_ U.at_, y.origin, mx, ⟨rk, rx, rn, rs⟩⟩, ⟨by have := HO.out.hi; omega, ?_, HRO.out, HO.out.kk, HO.out.og, fun q => absurd q (by have := HO.out.hi; omega), fun _ => Z3, Z2, Z1, Z4, by simp; omega⟩, rfl, rfl⟩, ?_⟩
      · rw [oneL_cons (by have := HO.out.hi; rw [HL.out]; omega), ← HO.out.is_, HU.out]
        show VerL.mk y.key (joinL y.at_ U.at_) y.origin mx ⟨rk, rx, rn, rs⟩ = oneStep key y.ver U
        unfold oneStep
        rw [HO.out.kk, HO.out.og, ← HMX.out, ← HBO.out]
        rfl
      · simp [intOf]
end Go.Proofs.Ytdjlnpiaehoofaa
end

/- fold.Drop: its loop. By an AI agent. -/
section
set_option linter.unusedVariables false
set_option linter.unusedSimpArgs false
namespace Go.Proofs.Ytdjlnpiaehoofaa
open Go.RowKit
attribute [local go_sem] eOp eOper eUpon

/-- two rows that grow side by side -/
structure DR (W0 W : World) (sv ev : Value) (xs ys : List VC) : Prop where
  st : SV W0 W sv xs
  se : SV W0 W ev ys
  ap : APt sv ev
  bl : Bl W0 W
theorem DR.nil {W0 W : World} (h : Bl W0 W) : DR W0 W (.slice none 0 0) (.slice none 0 0) [] [] := ⟨SV.nil _ _, SV.nil _ _, fun b e => (by cases e), h⟩
theorem DR.keep {W0 W W' : World} {sv ev : Value} {xs ys : List VC} (h : DR W0 W sv ev xs ys) (hb : Bl W W') : DR W0 W' sv ev xs ys := ⟨h.st.keep hb, h.se.keep hb, h.ap, h.bl.trans hb⟩
theorem DR.push1 {W0 W W' : World} {sv ev sv' : Value} {xs ys : List VC} {y : VC} (h : DR W0 W sv ev xs ys) (hy : IA W0 y.ad y.n y.at_) (hok : y.act.Ok) (ho : OVS W0.heap.size W' sv' (xs.length + 1) (flat xs ++ y.cs)) (hg : W.grownBy W' sv.ownBlock) (hf : ∀ b, sv'.ownBlock = some b → sv.ownBlock = some b ∨ W.heap.size ≤ b) : DR W0 W' sv' ev (xs ++ [y]) ys :=
  ⟨h.st.push hy hok ho, h.se.other hg h.ap.symm, (h.se.apart h.ap.symm hf).symm, h.st.grown h.bl hg⟩
theorem DR.push2 {W0 W W' : World} {sv ev ev' : Value} {xs ys : List VC} {y : VC} (h : DR W0 W sv ev xs ys) (hy : IA W0 y.ad y.n y.at_) (hok : y.act.Ok) (ho : OVS W0.heap.size W' ev' (ys.length + 1) (flat ys ++ y.cs)) (hg : W.grownBy W' ev.ownBlock) (hf : ∀ b, ev'.ownBlock = some b → ev.ownBlock = some b ∨ W.heap.size ≤ b) : DR W0 W' sv ev' xs (ys ++ [y]) :=
  ⟨h.st.other hg h.ap, h.se.push hy hok ho, h.st.apart h.ap hf, h.se.grown h.bl hg⟩
theorem parts_len (key : ByteArray) (floor : List Int) : ∀ os : List VerL, (stayL floor os).length + (seenL key floor os).length ≤ os.length
  | [] => Nat.le_refl _
  | v :: os => by
    have ih := parts_len key floor os
    unfold stayL seenL at *
    rw [List.filter_cons, List.filter_cons, List.length_cons]
    cases h : leqV floor v
    · rw [if_pos (by rfl), if_neg (by rw [Bool.false_and]; decide), List.length_cons]; omega
    · rw [if_neg (by decide)]
      split
      · rw [List.length_cons]; omega
      · omega
theorem kept_reg {key : ByteArray} {stay rest : List VerL} {first : VerL} {floor : List Int} {all : Bool} (h : regB key = true) : keptL key stay floor all (first :: rest) = orderOf (stay ++ (if goneL stay first floor all then [] else [first])) := if_pos h
theorem kept_one {key : ByteArray} {stay rest : List VerL} {first : VerL} {floor : List Int} (h : regB key = false) (hr : rest ≠ []) : keptL key stay floor true (first :: rest) = stay ++ [oneL key (first :: rest).reverse] := by
  show (if regB key = true then _ else if (true && decide (rest ≠ [])) = true then _ else _) = _
  rw [if_neg (by rw [h]; decide), if_pos (by rw [Bool.true_and]; exact decide_eq_true hr)]
theorem kept_all {key : ByteArray} {stay rest : List VerL} {first : VerL} {floor : List Int} {all : Bool} (h : regB key = false) (hr : all = false ∨ rest = []) : keptL key stay floor all (first :: rest) = orderOf (stay ++ (first :: rest)) := by
  show (if regB key = true then _ else if (all && decide (rest ≠ [])) = true then _ else _) = _
  rw [if_neg (by rw [h]; decide), if_neg]
  rcases hr with rfl | rfl
  · rw [Bool.false_and]; decide
  · simp
theorem SV.cap {W0 W : World} {a : Option Addr} {n c : Nat} {xs : List VC} (h : SV W0 W (.slice a n c) xs) : n ≤ c := by
  obtain ⟨h1, ⟨hv, h2⟩ | ⟨g, cap, cur, hv, hB, hg, hc1, r⟩⟩ := h.own
  · simp only [Value.slice.injEq] at hv; omega
  · simp only [Value.slice.injEq] at hv; omega
theorem VA.first {w : World} {a : Option Addr} {n : Nat} {first : VerL} {rest : List VerL} (h : VA w a n (first :: rest)) : VA w a 1 [first] := by
  have hn : 0 < n := by have := h.len; simp at this; omega
  obtain ⟨b, off, rfl, hc⟩ := h.cells 0 hn
  refine ⟨rfl, by omega, fun j _ => ⟨b, off, rfl, fun j hj => ?_⟩⟩
  obtain rfl : j = 0 := by omega
  exact hc 0 hn
theorem OVS.va {B : Nat} {W : World} {v : Value} {n : Nat} {zs : List VC} (h : OVS B W v n (flat zs)) (hl : zs.length = n) (h0 : 0 < n) (hc : n ≤ 140737488351232) (hz : ∀ z ∈ zs, IA W z.ad z.n z.at_ ∧ z.act.Ok) : ∃ a ca, v = .slice a n ca ∧ VA W a n (zs.map VC.ver) := by
  obtain ⟨g, ca, rfl, _, _, hcell⟩ := h.cells h0
  refine ⟨_, ca, rfl, ⟨by rw [List.length_map]; exact hl, hc, fun j0 _ => ⟨g, 0, rfl, fun j hj => ?_⟩⟩⟩
  have hjl : j < zs.length := by omega
  have e : nthR (zs.map VC.ver) j = (el zs j).ver := by
    rw [nthR_eq (by rw [List.length_map]; exact hjl), List.getElem_map, el_eq hjl]
  obtain ⟨i1, i2⟩ := hz _ (el_mem hjl)
  rw [e, Nat.zero_add]
  have key : ∀ r u, r < 8 → (el zs j).cs[r]? = some u → W.cell? ⟨g, j * 8 + r, none⟩ = some u := fun r u h8 hu => hcell _ u (by rw [flat_get zs j r hjl h8]; exact hu)
  exact ⟨key 0 _ (by decide) rfl, ⟨_, _, _, key 1 _ (by decide) rfl, i1⟩, key 2 _ (by decide) rfl, key 3 _ (by decide) rfl, key 4 _ (by decide) rfl, key 5 _ (by decide) rfl, key 6 _ (by decide) rfl, key 7 _ (by decide) rfl, i2⟩
set_option maxHeartbeats 3200000 in
set_option maxRecDepth 100000 in
theorem fdrop_any (key : ByteArray) (a : Option Addr) (n ca : Nat) (vs : List VerL) (fa : Option Addr) (fn fc : Nat) (floor : List Int) (all : Bool) (w : World) (hkey : key.size ≤ 140737488351232) (hv : VA w a n vs) (hn1 : n ≤ 900) (hf : IA w fa fn floor) :
    Calls Try.prog 11 #[.string key, .slice a n ca, .slice fa fn fc, .bool all] w fun e w' => ∃ a' m ca', e = .returned (.slice a' m ca') ∧ VA w' a' m (dropL key vs floor all) ∧ Bl w w' := by
  have hsf := store_fl
  go_enter Try.func11, Try.ntmps11
  go_wp2_with fail
  refine (fOrder_any a n ca vs _ hv (by omega)).mono ?_
  rintro e W0 ⟨a0, m, c0, rfl, hv0, hb0⟩
  have HW := Lib.hid hb0
  have HF := Lib.hid (hf.keep hb0)
  have hmn : m ≤ 900 := by rw [← hv0.len]; exact Nat.le_trans (order_len _) (by rw [hv.len]; exact hn1)
  obtain ⟨os, hos⟩ : ∃ os, orderOf vs = os := ⟨_, rfl⟩
  rw [hos] at hv0
  have HD := Lib.hid (show dropL key vs floor all = dropO key os floor all by unfold dropL; rw [hos])
  have HL := Lib.hid hv0.len
  clear hb0 hf hos hv
  obtain ⟨kb, hkb⟩ : ∃ kb, isKeyB key = kb := ⟨_, rfl⟩
  obtain ⟨fb, hfb⟩ : ∃ fb, validL floor = fb := ⟨_, rfl⟩
  have HKB := Lib.hid hkb
  have HFB := Lib.hid hfb
  clear hkb hfb
  go_wp2_with fail
  refine (isKey_any key _ hkey).mono ?_
  rintro e w1 ⟨rfl, rfl⟩
  rw [HKB.out]
  cases kb
  case false =>
    have HO := Lib.hid (show dropL key vs floor all = os by rw [HD.out]; unfold dropO; rw [HKB.out]; rfl)
    go_wp2_with fail
    go_ret
    exact ⟨a0, m, c0, rfl, by rw [HO.out]; exact hv0, HW.out⟩
  case true =>
  go_wp2_with fail
  refine (valid_any fa fn fc floor _ HF.out).mono ?_
  rintro e w1 ⟨rfl, rfl⟩
  rw [HFB.out]
  cases fb
  case false =>
    have HO := Lib.hid (show dropL key vs floor all = os by rw [HD.out]; unfold dropO; rw [HKB.out, HFB.out]; rfl)
    go_wp2_with fail
    go_ret
    exact ⟨a0, m, c0, rfl, by rw [HO.out]; exact hv0, HW.out⟩
  case true =>
  have HO := Lib.hid (show dropL key vs floor all = keptL key (stayL floor os) floor all (seenL key floor os) by rw [HD.out]; unfold dropO; rw [HKB.out, HFB.out]; rfl)
  go_wp2_with fail
  go_loopw [9, 10, 27] (fun sv ev iv wr => ∃ (k : Nat) (xs ys : List VC), k ≤ m ∧ xs.map VC.ver = stayL floor (os.take k) ∧ ys.map VC.ver = seenL key floor (os.take k) ∧ DR W0 wr sv ev xs ys ∧ iv = .int .i64 (k : Int)) (fun _ _ iv _ => m - (intOf iv).toNat)
  case atStart => exact ⟨0, [], [], Nat.zero_le _, by rw [List.take_zero]; rfl, by rw [List.take_zero]; rfl, DR.nil (Bl.refl _), by go_num⟩
  case round =>
    obtain ⟨k, xs, ys, hk, hm1, hm2, hdr, rfl⟩ := hrel
    have HM1 := Lib.hid hm1
    have HM2 := Lib.hid hm2
    have HR := Lib.hid hdr
    have hxl : xs.length ≤ k := by
      have h1 := congrArg List.length HM1.out
      rw [List.length_map] at h1
      have h2 := List.length_filter_le (fun v => !leqV floor v) (os.take k)
      rw [List.length_take] at h2
      unfold stayL at h1
      omega
    have hyl : ys.length ≤ k := by
      have h1 := congrArg List.length HM2.out
      rw [List.length_map] at h1
      have h2 := List.length_filter_le (fun v => leqV floor v && fitsB key v.act) (os.take k)
      rw [List.length_take] at h2
      unfold seenL at h1
      omega
    clear hm1 hm2 hdr
    by_cases hlt : k < m
    · obtain ⟨b, off, rfl, hc⟩ := hv0.cells k hlt
      have E0 := hc k hlt
      have E := E0.keep HR.out.bl
      have HT1 := Lib.hid (take_filter (fun v => !leqV floor v) os _ k (take_nthR (vs := os) (k := k) (by rw [HL.out]; exact hlt)))
      have HT2 := Lib.hid (take_filter (fun v => leqV floor v && fitsB key v.act) os _ k (take_nthR (vs := os) (k := k) (by rw [HL.out]; exact hlt)))
      obtain ⟨V, hV⟩ : ∃ V, nthR os k = V := ⟨_, rfl⟩
      rw [hV] at E E0 HT1 HT2
      clear hV hc
      have HA := Lib.hid E.ok
      obtain ⟨va, vn, vc, e1', hI⟩ := E0.at_
      have e1 := HR.out.bl.cell e1'
      have HI := Lib.hid hI
      have ba : Bl wr (wr.alloc (.cells #[.string V.key, .slice va vn vc, .int .i64 V.origin, .int .i64 V.tx, .int .i64 V.act.k, .float .f64 V.act.x, .int .i64 V.act.n, .string V.act.s] 35)) := (Bl.refl wr).alloc _
      have hx := AC.new wr wr.heap.size rfl [.string V.key, .slice va vn vc, .int .i64 V.origin, .int .i64 V.tx, .int .i64 V.act.k, .float .f64 V.act.x, .int .i64 V.act.n, .string V.act.s] 35
      have HVB := Lib.hid hx
      obtain ⟨v0, v1, v2, v3, v4, v5, v6, v7⟩ := AC.ver (key := V.key) (a := va) (n := vn) (ca := vc) (o := V.origin) (t := V.tx) (k := V.act.k) (x := V.act.x) (m := V.act.n) (s := V.act.s) hx
      have HIA := Lib.hid (hI.keep (HR.out.bl.trans ba))
      have HFA := Lib.hid (HF.out.keep (HR.out.bl.trans ba))
      have HDA := Lib.hid (HR.out.keep ba)
      clear hx ba
      have e0 := E.c0
      have e2 := E.c2
      have e3 := E.c3
      have e4 := E.c4
      have e5 := E.c5
      have e6 := E.c6
      have e7 := E.c7
      clear hI E E0 e1' HR
      obtain ⟨r, hr⟩ : ∃ r, leqL V.at_ floor = r := ⟨_, rfl⟩
      have HRR := Lib.hid hr
      clear hr
      go_wp2_with fail
      clear e0 e1 e2 e3 e4 e5 e6 e7
      refine (leq_any va fa vn fn vc fc V.at_ floor _ HIA.out HFA.out).mono ?_
      rintro e w2 ⟨rfl, rfl⟩
      rw [HRR.out]
      clear HIA HFA
      generalize wr.heap.size = gv at *
      generalize wr.alloc _ = wa at *
      cases r
      case false =>
        have HN1 := Lib.hid (show stayL floor (os.take (k + 1)) = stayL floor (os.take k) ++ [V] by unfold stayL; rw [HT1.out]; exact if_pos (by show (!leqL V.at_ floor) = true; rw [HRR.out]; rfl))
        have HN2 := Lib.hid (show seenL key floor (os.take (k + 1)) = seenL key floor (os.take k) by unfold seenL; rw [HT2.out]; exact if_neg (by show ¬ (leqL V.at_ floor && fitsB key V.act) = true; rw [HRR.out, Bool.false_and]; decide))
        clear HT1 HT2 HRR
        have HSB := Lib.hid (HDA.out.keep ((Bl.refl wa).alloc (.cells #[.string V.key, .slice va vn vc, .int .i64 V.origin, .int .i64 V.tx, .int .i64 V.act.k, .float .f64 V.act.x, .int .i64 V.act.n, .string V.act.s] 35)))
        have HLT := Lib.hid (SG.lit (heap_alloc_new wa (.cells #[.string V.key, .slice va vn vc, .int .i64 V.origin, .int .i64 V.tx, .int .i64 V.act.k, .float .f64 V.act.x, .int .i64 V.act.n, .string V.act.s] 35)) (show [.string V.key, .slice va vn vc, .int .i64 V.origin, .int .i64 V.tx, .int .i64 V.act.k, .float .f64 V.act.x, .int .i64 V.act.n, .string V.act.s].length = 1 * 8 from rfl) (by simp [Value.oneCell']))
        go_wp2_with (at_builtin; refine wpList_appK rfl _ _ _ rfl el_vr W0.heap.size _ _ _ rfl HSB.out.st.own HSB.out.bl.size _ 1 1 _ rfl HLT.out ?cM ?cN ?_)
        case cM => unfold maxLen; omega
        case cN => omega
        intro vq w3 ho3 hg3 hz1 hz2
        have HS3 := Lib.hid (HSB.out.push1 (y := ⟨V.key, va, vn, vc, V.at_, V.origin, V.tx, V.act⟩) HI.out HA.out ho3 hg3 (by intro b e; have := hz2 b e; simpa using this))
        clear hz1 hz2 ho3 hg3 HSB HLT HDA v0 v1 v2 v3 v4 v5 v6 v7
        go_wp2_with fail
        go_roundw
        case rel => exact ⟨k + 1, xs ++ [⟨V.key, va, vn, vc, V.at_, V.origin, V.tx, V.act⟩], ys, by omega, by rw [List.map_append, HM1.out, HN1.out]; rfl, by rw [HM2.out, HN2.out], HS3.out, by go_num⟩
        case measure => simp [intOf]; omega
      case true =>
        have HN1 := Lib.hid (show stayL floor (os.take (k + 1)) = stayL floor (os.take k) by unfold stayL; rw [HT1.out]; exact if_neg (by show ¬ (!leqL V.at_ floor) = true; rw [HRR.out]; decide))
        obtain ⟨ff, hff⟩ : ∃ ff, fitsB key ⟨V.act.k, V.act.x, V.act.n, V.act.s⟩ = ff := ⟨_, rfl⟩
        have HFF := Lib.hid hff
        clear hff
        go_wp2_with fail
        refine (fits_agg key V.act.k V.act.x V.act.n V.act.s ff _ HFF hkey HA).mono ?_
        rintro e w2 ⟨rfl, hb2⟩
        have HDB := Lib.hid (HDA.out.keep hb2)
        have HVB2 := Lib.hid (HVB.out.keep hb2)
        clear hb2 HDA HVB v0 v1 v2 v3 v4 v5 v6 v7
        obtain ⟨v0, v1, v2, v3, v4, v5, v6, v7⟩ := AC.ver (key := V.key) (a := va) (n := vn) (ca := vc) (o := V.origin) (t := V.tx) (k := V.act.k) (x := V.act.x) (m := V.act.n) (s := V.act.s) HVB2.out
        cases ff
        case false =>
          have HN2 := Lib.hid (show seenL key floor (os.take (k + 1)) = seenL key floor (os.take k) by unfold seenL; rw [HT2.out]; exact if_neg (by show ¬ (leqL V.at_ floor && fitsB key V.act) = true; rw [HRR.out, show fitsB key V.act = false from HFF.out]; decide))
          go_wp2_with fail
          go_roundw
          case rel => exact ⟨k + 1, xs, ys, by omega, by rw [HM1.out, HN1.out], by rw [HM2.out, HN2.out], HDB.out, by go_num⟩
          case measure => simp [intOf]; omega
        case true =>
          have HN2 := Lib.hid (show seenL key floor (os.take (k + 1)) = seenL key floor (os.take k) ++ [V] by unfold seenL; rw [HT2.out]; exact if_pos (by show (leqL V.at_ floor && fitsB key V.act) = true; rw [HRR.out, show fitsB key V.act = true from HFF.out]; rfl))
          clear HT1 HT2 HRR HFF
          have HSB := Lib.hid (HDB.out.keep ((Bl.refl w2).alloc (.cells #[.string V.key, .slice va vn vc, .int .i64 V.origin, .int .i64 V.tx, .int .i64 V.act.k, .float .f64 V.act.x, .int .i64 V.act.n, .string V.act.s] 35)))
          have HLT := Lib.hid (SG.lit (heap_alloc_new w2 (.cells #[.string V.key, .slice va vn vc, .int .i64 V.origin, .int .i64 V.tx, .int .i64 V.act.k, .float .f64 V.act.x, .int .i64 V.act.n, .string V.act.s] 35)) (show [.string V.key, .slice va vn vc, .int .i64 V.origin, .int .i64 V.tx, .int .i64 V.act.k, .float .f64 V.act.x, .int .i64 V.act.n, .string V.act.s].length = 1 * 8 from rfl) (by simp [Value.oneCell']))
          go_wp2_with (at_builtin; refine wpList_appK rfl _ _ _ rfl el_vr W0.heap.size _ _ _ rfl HSB.out.se.own HSB.out.bl.size _ 1 1 _ rfl HLT.out ?cM ?cN ?_)
          case cM => unfold maxLen; omega
          case cN => omega
          intro vq w3 ho3 hg3 hz1 hz2
          have HS3 := Lib.hid (HSB.out.push2 (y := ⟨V.key, va, vn, vc, V.at_, V.origin, V.tx, V.act⟩) HI.out HA.out ho3 hg3 (by intro b e; have := hz2 b e; simpa using this))
          clear hz1 hz2 ho3 hg3 HSB HLT HDB v0 v1 v2 v3 v4 v5 v6 v7
          go_wp2_with fail
          go_roundw
          case rel => exact ⟨k + 1, xs, ys ++ [⟨V.key, va, vn, vc, V.at_, V.origin, V.tx, V.act⟩], by omega, by rw [HM1.out, HN1.out], by rw [List.map_append, HM2.out, HN2.out]; rfl, HS3.out, by go_num⟩
          case measure => simp [intOf]; omega
    · have HX := Lib.hid (show xs.map VC.ver = stayL floor os by rw [HM1.out, List.take_of_length_le (by rw [HL.out]; omega)])
      have HY := Lib.hid (show ys.map VC.ver = seenL key floor os by rw [HM2.out, List.take_of_length_le (by rw [HL.out]; omega)])
      obtain ⟨xn, hxn⟩ : ∃ xn, xs.length = xn := ⟨_, rfl⟩
      obtain ⟨yn, hyn⟩ : ∃ yn, ys.length = yn := ⟨_, rfl⟩
      have hxb : xn ≤ 900 := by omega
      have hyb : yn ≤ 900 := by omega
      obtain ⟨sa, sc, rfl, hva⟩ := HR.out.st.va HR.out.bl hxn (by omega)
      obtain ⟨ea, ec, rfl, hvb⟩ := HR.out.se.va HR.out.bl hyn (by omega)
      have HVA := Lib.hid (show VA wr sa xn (stayL floor os) from HX.out ▸ hva)
      have HVB := Lib.hid (show VA wr ea yn (seenL key floor os) from HY.out ▸ hvb)
      have HXN := Lib.hid hxn
      have HYN := Lib.hid hyn
      have HWR := Lib.hid (HW.out.trans HR.out.bl)
      have HFR := Lib.hid (HF.out.keep HR.out.bl)
      clear hva hvb hxn hyn HM1 HM2 hxl hyl
      have HSUM := Lib.hid (show (stayL floor os).length + (seenL key floor os).length ≤ 1000 by have := parts_len key floor os; have := HL.out; omega)
      obtain ⟨stay, hst⟩ : ∃ stay, stayL floor os = stay := ⟨_, rfl⟩
      obtain ⟨seen, hse⟩ : ∃ seen, seenL key floor os = seen := ⟨_, rfl⟩
      rw [hst] at HVA HX
      rw [hse] at HVB HY
      rw [hst, hse] at HO HSUM
      clear hst hse
      by_cases hy0 : yn = 0
      · subst hy0
        have HE := Lib.hid (show dropL key vs floor all = stay by rw [HO.out, List.eq_nil_of_length_eq_zero HVB.out.len]; rfl)
        go_wp2_with fail
        go_ret
        exact ⟨sa, xn, sc, rfl, by rw [HE.out]; exact HVA.out, HWR.out⟩
      · have q0 : ((yn : Int) == 0) = false := by rw [beq_eq_false_iff_ne]; omega
        obtain ⟨first, rest, hfr⟩ : ∃ first rest, seen = first :: rest := by
          cases hs : seen with
          | nil => have := HVB.out.len; rw [hs] at this; simp at this; omega
          | cons f r => exact ⟨f, r, rfl⟩
        have HFIRST := Lib.hid hfr
        clear hfr
        obtain ⟨rb, hrb⟩ : ∃ rb, regB key = rb := ⟨_, rfl⟩
        have HRB := Lib.hid hrb
        clear hrb
        go_wp2_with fail
        refine (fregs_any key _ (key_pos HKB.out)).mono ?_
        rintro e w1 ⟨rfl, rfl⟩
        rw [HRB.out]
        cases rb
        case true =>
          have hfn : 0 < fn := by
            have h1 := HFB.out
            have h2 := HFR.out.len
            cases hq : floor with
            | nil => rw [hq] at h1; exact absurd h1 (by decide)
            | cons x l => rw [hq] at h2; simp at h2; omega
          have hcap := HR.out.se.cap
          go_wp2_with fail
          refine (flast_any sa xn sc stay ea yn ec seen fa fn fc floor all first rest _ HVA.out HVB.out HFR.out hfn HFIRST.out hcap).mono ?_
          rintro e w2 ⟨rfl, hb2⟩
          obtain ⟨ka, kn, kc, kl, hk1, hk2, hk3, hk4⟩ : ∃ (ka : Option Addr) (kn kc : Nat) (kl : List VerL), (if goneL stay first floor all then Value.slice none 0 0 else .slice ea 1 ec) = .slice ka kn kc ∧ VA wr ka kn kl ∧ kl = (if goneL stay first floor all then [] else [first]) ∧ kn ≤ 1 := by
            by_cases hg : goneL stay first floor all = true
            · exact ⟨none, 0, 0, [], by rw [if_pos hg], ⟨rfl, by omega, fun j hj => absurd hj (Nat.not_lt_zero _)⟩, by rw [if_pos hg], by omega⟩
            · exact ⟨ea, 1, ec, [first], by rw [if_neg hg], (HFIRST.out ▸ HVB.out).first, by rw [if_neg hg], by omega⟩
          rw [hk1]
          have HE := Lib.hid (show dropL key vs floor all = orderOf (stay ++ kl) by rw [HO.out, HFIRST.out, kept_reg HRB.out, hk3])
          have ba : Bl w2 (w2.alloc (.cells #[.slice sa xn sc, .slice ka kn kc] 22)) := (Bl.refl w2).alloc _
          have HK := Lib.hid (hk2.keep (hb2.trans ba))
          have HS := Lib.hid (HVA.out.keep (hb2.trans ba))
          have HH := Lib.hid (AC.new w2 w2.heap.size rfl [.slice sa xn sc, .slice ka kn kc] 22)
          have HB2 := Lib.hid (HWR.out.trans (hb2.trans ba))
          clear hk1 hk2 hk3 hb2 ba
          go_wp2_with fail
          refine (concat_any w2.heap.size sa ka xn sc kn kc stay kl _ HH.out HS.out HK.out (by omega) (by omega)).mono ?_
          rintro e w3 ⟨x3, c3, rfl, hv3, hb3⟩
          have HV3 := Lib.hid hv3
          have HB3 := Lib.hid (HB2.out.trans hb3)
          obtain ⟨n3, hn3⟩ : ∃ n3, xn + kn = n3 := ⟨_, rfl⟩
          rw [hn3] at HV3
          rw [hn3]
          have hn3b : n3 ≤ 1000 := by omega
          clear hv3 hb3 hn3
          go_wp2_with fail
          refine (fOrder_any x3 n3 c3 (stay ++ kl) _ HV3.out hn3b).mono ?_
          rintro e w4 ⟨x4, n4, c4, rfl, hv4, hb4⟩
          have HV4 := Lib.hid hv4
          have HB4 := Lib.hid (HB3.out.trans hb4)
          clear hv4 hb4
          go_wp2_with fail
          go_ret
          exact ⟨x4, n4, c4, rfl, by rw [HE.out]; exact HV4.out, HB4.out⟩
        case false =>
          cases all
          case false =>
            have HE := Lib.hid (show dropL key vs floor false = orderOf (stay ++ seen) by rw [HO.out, HFIRST.out, kept_all HRB.out (.inl rfl)])
            have ba : Bl wr (wr.alloc (.cells #[.slice sa xn sc, .slice ea yn ec] 22)) := (Bl.refl wr).alloc _
            have HK := Lib.hid (HVB.out.keep ba)
            have HS := Lib.hid (HVA.out.keep ba)
            have HH := Lib.hid (AC.new wr wr.heap.size rfl [.slice sa xn sc, .slice ea yn ec] 22)
            have HB2 := Lib.hid (HWR.out.trans ba)
            clear ba
            go_wp2_with fail
            refine (concat_any wr.heap.size sa ea xn sc yn ec stay seen _ HH.out HS.out HK.out (by omega) (by omega)).mono ?_
            rintro e w3 ⟨x3, c3, rfl, hv3, hb3⟩
            have HV3 := Lib.hid hv3
            have HB3 := Lib.hid (HB2.out.trans hb3)
            have hsum : xn + yn ≤ 1000 := by
              have h1 := HXN.out
              have h2 := HYN.out
              have h3 := congrArg List.length HX.out
              have h4 := congrArg List.length HY.out
              rw [List.length_map] at h3 h4
              have h5 := HSUM.out
              omega
            obtain ⟨n3, hn3⟩ : ∃ n3, xn + yn = n3 := ⟨_, rfl⟩
            rw [hn3] at HV3
            rw [hn3]
            have hn3b : n3 ≤ 1000 := by omega
            clear hv3 hb3 hn3
            go_wp2_with fail
            refine (fOrder_any x3 n3 c3 (stay ++ seen) _ HV3.out hn3b).mono ?_
            rintro e w4 ⟨x4, n4, c4, rfl, hv4, hb4⟩
            have HV4 := Lib.hid hv4
            have HB4 := Lib.hid (HB3.out.trans hb4)
            clear hv4 hb4
            go_wp2_with fail
            go_ret
            exact ⟨x4, n4, c4, rfl, by rw [HE.out]; exact HV4.out, HB4.out⟩
          case true =>
            by_cases h2 : 2 ≤ yn
            · have q1 : decide ((1 : Int) < (yn : Int)) = true := decide_eq_true (by omega)
              have q1n : decide (1 < yn) = true := decide_eq_true (by omega)
              have HE := Lib.hid (show dropL key vs floor true = stay ++ [oneL key seen.reverse] by
                rw [HO.out, HFIRST.out]
                exact kept_one HRB.out (fun q => by have := HVB.out.len; rw [HFIRST.out, q] at this; simp at this; omega))
              go_wp2_with fail
              refine (fone_any key ea yn ec seen _ hkey HVB.out (by omega) h2).mono ?_
              rintro e w2 ⟨y, rfl, hy1, hy2, hy3, hb2⟩
              have HY1 := Lib.hid hy1
              have HY2 := Lib.hid hy2
              have HSA := Lib.hid (HR.out.st.keep hb2)
              have HBA := Lib.hid (HR.out.bl.trans hb2)
              have HW2 := Lib.hid (HWR.out.trans hb2)
              have HYF := Lib.hid hy3
              clear hy1 hy2 hy3 hb2
              have HSB := Lib.hid (HSA.out.keep ((Bl.refl w2).alloc (.cells #[.string y.key, .slice y.ad y.n y.ca, .int .i64 y.origin, .int .i64 y.tx, .int .i64 y.act.k, .float .f64 y.act.x, .int .i64 y.act.n, .string y.act.s] 35)))
              have HYG := Lib.hid (HYF.out.keep ((Bl.refl w2).alloc (.cells #[.string y.key, .slice y.ad y.n y.ca, .int .i64 y.origin, .int .i64 y.tx, .int .i64 y.act.k, .float .f64 y.act.x, .int .i64 y.act.n, .string y.act.s] 35)))
              have HBB := Lib.hid (HBA.out.alloc (.cells #[.string y.key, .slice y.ad y.n y.ca, .int .i64 y.origin, .int .i64 y.tx, .int .i64 y.act.k, .float .f64 y.act.x, .int .i64 y.act.n, .string y.act.s] 35))
              have HLT := Lib.hid (SG.lit (heap_alloc_new w2 (.cells #[.string y.key, .slice y.ad y.n y.ca, .int .i64 y.origin, .int .i64 y.tx, .int .i64 y.act.k, .float .f64 y.act.x, .int .i64 y.act.n, .string y.act.s] 35)) (show [.string y.key, .slice y.ad y.n y.ca, .int .i64 y.origin, .int .i64 y.tx, .int .i64 y.act.k, .float .f64 y.act.x, .int .i64 y.act.n, .string y.act.s].length = 1 * 8 from rfl) (by simp [Value.oneCell']))
              go_wp2_with (at_builtin; refine wpList_appK rfl _ _ _ rfl el_vr W0.heap.size _ _ _ rfl HSB.out.own HBB.out.size _ 1 1 _ rfl HLT.out ?cM ?cN ?_)
              case cM => have := HXN.out; unfold maxLen; omega
              case cN => have := HXN.out; omega
              intro vq w3 ho3 hg3 hz1 hz2
              have HY3 := FI.fr HYG.out ((Fr.refl (fun b => (Value.slice sa xn sc).ownBlock = some b) _).grown hg3 (fun i e => e)) (fun b q e => apart_typ HSB.out.own HYG.out e q)
              have HB3 := HSB.out.grown HBB.out hg3
              have ho4 : OVS W0.heap.size w3 vq (xn + 1) (flat (xs ++ [y])) := by rw [flat_append, flat_one, ← HXN.out]; exact ho3
              obtain ⟨x4, c4, rfl, hv4⟩ := ho4.va (by rw [List.length_append, HXN.out]; rfl) (by omega) (by omega) (fun z hz => by
                rcases List.mem_append.1 hz with q | q
                · exact ⟨(HSB.out.els z q).1.keep HB3, (HSB.out.els z q).2⟩
                · rw [List.mem_singleton] at q; subst q; exact ⟨HY3.iaE, HY2.out⟩)
              have HV4 := Lib.hid (show VA w3 x4 (xn + 1) (stay ++ [oneL key seen.reverse]) by rw [List.map_append, HX.out] at hv4; rw [← HY1.out]; exact hv4)
              have HB4 := Lib.hid (HW.out.trans HB3)
              clear hz1 hz2 ho3 ho4 hg3 hv4 HY3 HB3 HLT HSB HSA
              go_wp2_with fail
              go_ret
              exact ⟨x4, xn + 1, c4, rfl, by rw [HE.out]; exact HV4.out, HB4.out⟩
            · have q1 : decide ((1 : Int) < (yn : Int)) = false := decide_eq_false (by omega)
              have q1n : decide (1 < yn) = false := decide_eq_false (by omega)
              have HE := Lib.hid (show dropL key vs floor true = orderOf (stay ++ seen) by rw [HO.out, HFIRST.out, kept_all HRB.out (.inr (by have := HVB.out.len; rw [HFIRST.out] at this; simp at this; exact List.eq_nil_of_length_eq_zero (by omega)))])
              have ba : Bl wr (wr.alloc (.cells #[.slice sa xn sc, .slice ea yn ec] 22)) := (Bl.refl wr).alloc _
              have HK := Lib.hid (HVB.out.keep ba)
              have HS := Lib.hid (HVA.out.keep ba)
              have HH := Lib.hid (AC.new wr wr.heap.size rfl [.slice sa xn sc, .slice ea yn ec] 22)
              have HB2 := Lib.hid (HWR.out.trans ba)
              clear ba
              go_wp2_with fail
              refine (concat_any wr.heap.size sa ea xn sc yn ec stay seen _ HH.out HS.out HK.out (by omega) (by omega)).mono ?_
              rintro e w3 ⟨x3, c3, rfl, hv3, hb3⟩
              have HV3 := Lib.hid hv3
              have HB3 := Lib.hid (HB2.out.trans hb3)
              have hsum : xn + yn ≤ 1000 := by
                have h1 := HXN.out
                have h2 := HYN.out
                have h3 := congrArg List.length HX.out
                have h4 := congrArg List.length HY.out
                rw [List.length_map] at h3 h4
                have h5 := HSUM.out
                omega
              obtain ⟨n3, hn3⟩ : ∃ n3, xn + yn = n3 := ⟨_, rfl⟩
              rw [hn3] at HV3
              rw [hn3]
              have hn3b : n3 ≤ 1000 := by omega
              clear hv3 hb3 hn3
              go_wp2_with fail
              refine (fOrder_any x3 n3 c3 (stay ++ seen) _ HV3.out hn3b).mono ?_
              rintro e w4 ⟨x4, n4, c4, rfl, hv4, hb4⟩
              have HV4 := Lib.hid hv4
              have HB4 := Lib.hid (HB3.out.trans hb4)
              clear hv4 hb4
              go_wp2_with fail
              go_ret
              exact ⟨x4, n4, c4, rfl, by rw [HE.out]; exact HV4.out, HB4.out⟩
end Go.Proofs.Ytdjlnpiaehoofaa
end
