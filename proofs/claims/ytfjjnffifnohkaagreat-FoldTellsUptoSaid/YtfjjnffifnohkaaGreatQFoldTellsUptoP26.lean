import Derived.Test.YtfjjnffifnohkaaGreatQFoldTellsUptoP24
import Derived.Lib.AppendZerosOnto
import Derived.Lib.SliceRun
import Derived.Lib.Walk
import Derived.Test.YtfjjnffifnohkaaGreatQFoldTellsUptoP14
import Derived.Test.YtfjjnffifnohkaaGreatQFoldTellsUptoP1
import Derived.Deep.QuietTactic
import Derived.BigQuiet
import Derived.Test.YtfjjnffifnohkaaGreatQFoldTellsUptoP13
import Derived.Test.YtfjjnffifnohkaaGreatQFoldTellsUptoP11

/- slices.Grow of nothing; slices.Concat of two rows of versions. By an AI agent. -/
section
set_option linter.unusedVariables false
set_option linter.unusedSimpArgs false
namespace Go.Proofs.YtfjjnffifnohkaaGreat
open Go.RowKit

theorem zc_size (cs : Array Value) (k : Nat) : (Builtin.zeroCells cs k).size = k * cs.size := by
  unfold Builtin.zeroCells
  simp only [Array.size_map, Array.size_range]
set_option maxHeartbeats 2000000 in
set_option maxRecDepth 100000 in
theorem growN_any (n : Nat) (w : World) (hn : n ≤ 100000) :
    Calls Tryz.prog 127 #[.slice none 0 0, .int .i64 n] w fun e w' => ∃ v, e = .returned v ∧ OVS w.heap.size w' v 0 [] ∧ Bl w w' := by
  by_cases h0 : n = 0
  · subst h0
    go_enter Tryz.func127, Tryz.ntmps127
    go_wp2_with fail
    go_ret
    exact ⟨_, rfl, World.ownsRow_nil _ _ _ _, Bl.refl _⟩
  · obtain ⟨i, z, hi, hz, h1, h2, h3⟩ := el_vr.info
    have q1 : ¬ ((n : Int) < 0) := by omega
    have q2 : (0 : Int) < (n : Int) := by omega
    have q3 : decide ((0 : Int) < (n : Int)) = true := decide_eq_true q2
    have hold : (Builtin.firstCells i.size 0 (.slice none 0 0)).run Tryz.prog w.drew = .ok (#[] : Array Value) w.drew := run_firstCells_none w.drew i.size 0 0 0
    have hrz : ∀ ty, (Builtin.append_ #[22, 3] ty #[.slice none 0 0, .int .i64 n]).run Tryz.prog w =
        .ok (.slice (some ⟨w.heap.size, 0, none⟩) n (grownCap w n 0 59)) (w.drew.alloc (.cells (#[] ++ Builtin.zeroCells z.cells n ++ Builtin.zeroCells z.cells (grownCap w n 0 59 - n)) 59)) := fun ty => by
      have h := Lib.run_append_grow_zeros w 22 3 ty 59 i z .i64 .i64 Tryz.underlying22 Tryz.underlying3 hi hz none 0 0 [] hold n (by omega) (by omega) (by omega) (by omega)
        (by rw [h2]; omega) (by rw [h2]; exact growslice_fits (by omega) (by omega))
      rw [Nat.zero_add] at h
      exact h
    have hGn : n ≤ grownCap w n 0 59 := grownCap_ge w _ _ _
    have hGm : grownCap w n 0 59 ≤ maxLen := grownCap_le_maxLen w n 0 59 (by unfold maxLen; omega)
    obtain ⟨G, hG⟩ : ∃ G, G = grownCap w n 0 59 := ⟨_, rfl⟩
    rw [← hG] at hrz hGn hGm
    obtain ⟨Z, hZ⟩ : ∃ Z, Z = #[] ++ Builtin.zeroCells z.cells n ++ Builtin.zeroCells z.cells (G - n) := ⟨_, rfl⟩
    rw [← hZ] at hrz
    have HZ := Lib.hid (show Z.size = G * 8 by rw [hZ]; simp only [Array.size_append, zc_size, h3, Array.size_empty]; omega)
    have HGM := Lib.hid hGm
    clear hold hG hGm h3 hi hz h1 h2 hZ
    go_enter Tryz.func127, Tryz.ntmps127
    go_wp2_with (at_builtin; refine Lib.wpList_append_run _ rfl _ _ _ _ rfl _ _ rfl rfl _ _ (hrz _) ?_)
    go_ret
    exact ⟨_, rfl, ⟨rfl, .inr ⟨w.heap.size, G, Z, rfl, Nat.le_refl _, heap_alloc_new _ _, Nat.zero_le _, HGM.out, HZ.out, by simp⟩⟩, ((Bl.refl w).drew).alloc _⟩
theorem VE.vc {w : World} {b off : Nat} {v : VerL} (h : VE w b off v) : ∃ x : VC, x.ver = v ∧ IA w x.ad x.n x.at_ ∧ x.act.Ok ∧ ∀ r, r < 8 → w.cell? ⟨b, off + r, none⟩ = x.cs[r]? := by
  obtain ⟨a, n, ca, e1, hI⟩ := h.at_
  refine ⟨⟨v.key, a, n, ca, v.at_, v.origin, v.tx, v.act⟩, rfl, hI, h.ok, fun r hr => ?_⟩
  have hc : r = 0 ∨ r = 1 ∨ r = 2 ∨ r = 3 ∨ r = 4 ∨ r = 5 ∨ r = 6 ∨ r = 7 := by omega
  rcases hc with rfl | rfl | rfl | rfl | rfl | rfl | rfl | rfl
  · exact h.c0
  · exact e1
  · exact h.c2
  · exact h.c3
  · exact h.c4
  · exact h.c5
  · exact h.c6
  · exact h.c7
/-- the versions of a slice with their lists' places -/
theorem VA.vcs {w : World} {a : Option Addr} {n : Nat} {vs : List VerL} (h : VA w a n vs) : ∃ xs : List VC, xs.map VC.ver = vs ∧ xs.length = n ∧ SG w 8 a n (flat xs) ∧ ∀ x ∈ xs, IA w x.ad x.n x.at_ ∧ x.act.Ok := by
  by_cases hn : n = 0
  · subst hn
    have hvs := List.eq_nil_of_length_eq_zero h.len
    subst hvs
    exact ⟨[], rfl, rfl, ⟨rfl, fun _ _ _ _ hu => by simp [flat] at hu, fun _ => rfl, fun _ hu => by simp [flat] at hu⟩, fun _ hx => by cases hx⟩
  · obtain ⟨b, off, rfl, hc⟩ := h.cells 0 (by omega)
    have key : ∀ j, j < n → ∃ x : VC, x.ver = nthR vs j ∧ IA w x.ad x.n x.at_ ∧ x.act.Ok ∧ ∀ r, r < 8 → w.cell? ⟨b, off + j * 8 + r, none⟩ = x.cs[r]? := fun j hj => (hc j hj).vc
    obtain ⟨f, hf⟩ : ∃ f : Nat → VC, ∀ j, j < n → (f j).ver = nthR vs j ∧ IA w (f j).ad (f j).n (f j).at_ ∧ (f j).act.Ok ∧ ∀ r, r < 8 → w.cell? ⟨b, off + j * 8 + r, none⟩ = (f j).cs[r]? :=
      ⟨fun j => if q : j < n then Classical.choose (key j q) else default, fun j hj => by
        simp only [dif_pos hj]
        exact Classical.choose_spec (key j hj)⟩
    have hl : ((List.range n).map f).length = n := by simp
    have hel : ∀ j, j < n → el ((List.range n).map f) j = f j := fun j hj => by rw [el_eq (by rw [hl]; exact hj)]; simp
    refine ⟨(List.range n).map f, ?_, hl, ⟨by rw [flat_len, hl], fun ad e j u hu => ?_, fun e => (by cases e), fun u hu => ?_⟩, fun x hx => ?_⟩
    · refine List.ext_getElem (by simp [h.len]) fun i h1 h2 => ?_
      have hi : i < n := by simpa using h1
      rw [List.getElem_map, List.getElem_map, List.getElem_range, (hf i hi).1, nthR_eq h2]
    · obtain rfl := Option.some.inj e
      rw [add_none]
      have hj : j < n * 8 := by
        have := (List.getElem?_eq_some_iff.1 hu).1
        rw [flat_len, hl] at this; exact this
      obtain ⟨k, r, hr, rfl⟩ : ∃ k r, r < 8 ∧ j = k * 8 + r := ⟨j / 8, j % 8, by omega, by omega⟩
      rw [flat_get _ _ _ (by rw [hl]; omega) hr, hel k (by omega)] at hu
      rw [← Nat.add_assoc, (hf k (by omega)).2.2.2 r hr]; exact hu
    · unfold flat at hu
      obtain ⟨x, hx, hm⟩ := List.mem_flatMap.1 hu
      simp only [VC.cs, verC, List.mem_cons, List.not_mem_nil, or_false] at hm
      rcases hm with rfl | rfl | rfl | rfl | rfl | rfl | rfl | rfl <;> rfl
    · obtain ⟨j, hj, rfl⟩ := List.mem_map.1 hx
      exact ⟨(hf j (List.mem_range.1 hj)).2.1, (hf j (List.mem_range.1 hj)).2.2.1⟩
theorem SV.both {W0 W W' : World} {v v' : Value} {xs ys : List VC} (h : SV W0 W v xs) (hy : ∀ y ∈ ys, IA W0 y.ad y.n y.at_ ∧ y.act.Ok) (ho : OVS W0.heap.size W' v' (xs.length + ys.length) (flat xs ++ flat ys)) : SV W0 W' v' (xs ++ ys) := by
  refine ⟨?_, fun x hx => ?_⟩
  · rw [List.length_append, flat_append]; exact ho
  · rcases List.mem_append.1 hx with q | q
    · exact h.els x q
    · exact hy x q
set_option maxHeartbeats 2000000 in
set_option maxRecDepth 100000 in
theorem concat_any (h : Nat) (a b : Option Addr) (n ca m cb : Nat) (vs us : List VerL) (w : World) (hh : AC w h [.slice a n ca, .slice b m cb]) (hv : VA w a n vs) (hu : VA w b m us) (hn : n ≤ 10000) (hm : m ≤ 10000) :
    Calls Tryz.prog 31 #[.slice (some ⟨h, 0, none⟩) 2 2] w fun e w' => ∃ x c, e = .returned (.slice x (n + m) c) ∧ VA w' x (n + m) (vs ++ us) ∧ Bl w w' := by
  obtain ⟨xs, hx1, hx2, hx3, hx4⟩ := hv.vcs
  obtain ⟨ys, hy1, hy2, hy3, hy4⟩ := hu.vcs
  have c0 := hh.cell 0 _ rfl
  have c1 := hh.cell 1 _ rfl
  have HH := Lib.hid hh
  have HX3 := Lib.hid hx3
  have HX4 := Lib.hid hx4
  have HY3 := Lib.hid hy3
  have HY4 := Lib.hid hy4
  have HX1 := Lib.hid hx1
  have HY1 := Lib.hid hy1
  have HX2 := Lib.hid hx2
  have HY2 := Lib.hid hy2
  clear hh hv hu hx1 hx2 hx3 hx4 hy1 hy2 hy3 hy4
  go_enter Tryz.func31, Tryz.ntmps31
  go_wp2_with fail
  go_loopw [3, 11] (fun sv iv wr => ∃ k : Nat, k ≤ 2 ∧ iv = .int .i64 (k : Int) ∧ sv = .int .i64 ((if k = 0 then 0 else if k = 1 then n else n + m : Nat) : Int) ∧ w = wr) (fun _ iv _ => 2 - (intOf iv).toNat)
  case atStart => exact ⟨0, by omega, by go_num, by go_num, rfl⟩
  case round =>
    obtain ⟨k, hk, rfl, rfl, rfl⟩ := hrel
    have hk3 : k = 0 ∨ k = 1 ∨ k = 2 := by omega
    clear hk
    rcases hk3 with rfl | rfl | rfl
    · have t1 : decide ((n : Int) < 0) = false := decide_eq_false (by omega)
      go_wp2_with fail
      go_roundw
      case rel => exact ⟨1, by omega, by go_num, by simp⟩
      case measure => simp [intOf]
    · obtain ⟨nm, hnm⟩ : ∃ nm, n + m = nm := ⟨_, rfl⟩
      have t1 : (n : Int) + (m : Int) = (nm : Int) := by omega
      have t2 : decide ((nm : Int) < 0) = false := decide_eq_false (by omega)
      go_wp2_with fail
      go_roundw
      case rel => exact ⟨2, by omega, by go_num, by simp [hnm]⟩
      case measure => simp [intOf]
    · obtain ⟨nm, hnm⟩ : ∃ nm, n + m = nm := ⟨_, rfl⟩
      have hnm2 : nm ≤ 100000 := by omega
      have HNM := Lib.hid hnm
      rw [if_neg (by decide), if_neg (by decide), hnm]
      clear hnm
      go_wp2_with fail
      refine (growN_any nm _ hnm2).mono ?_
      rintro e w2 ⟨v, rfl, ho, hb⟩
      have HS := Lib.hid (show SV w w2 v [] from ⟨ho, fun x hx => by cases hx⟩)
      have HB := Lib.hid hb
      clear ho hb c0 c1
      go_wp2_with fail
      go_loopw [6, 27] (fun nv iv wr => ∃ k : Nat, k ≤ 2 ∧ iv = .int .i64 (k : Int) ∧ SV w wr nv (match k with | 0 => [] | 1 => [] ++ xs | _ => ([] ++ xs) ++ ys) ∧ Bl w wr) (fun _ iv _ => 2 - (intOf iv).toNat)
      case atStart => exact ⟨0, by omega, by go_num, HS.out, HB.out⟩
      case round =>
      clear HS HB
      obtain ⟨k, hk, rfl, hs2, hb2⟩ := hrel
      have HS2 := Lib.hid hs2
      have HB2 := Lib.hid hb2
      clear hs2 hb2
      have hk3 : k = 0 ∨ k = 1 ∨ k = 2 := by omega
      clear hk
      rcases hk3 with rfl | rfl | rfl
      · have hc := (HH.out.keep HB2.out).cell 0 _ rfl
        have HSG := Lib.hid (HX3.out.keep HB2.out)
        go_wp2_with (at_builtin; refine wpList_appK rfl _ _ _ rfl el_vr w.heap.size _ _ _ rfl HS2.out.own HB2.out.size a n ca _ rfl HSG.out ?cM ?cN ?_)
        case cM => unfold maxLen; omega
        case cN => omega
        intro vq w3 ho3 hg3 hz1 hz2
        clear hz1 hz2
        have HS3 := Lib.hid (HS2.out.both HX4.out (by rw [HX2.out, List.length_nil, Nat.zero_add]; exact ho3))
        have HB3 := Lib.hid (HS2.out.grown HB2.out hg3)
        clear ho3 hg3 HSG hc
        go_wp2_with fail
        go_roundw
        case rel => exact ⟨1, by omega, by go_num, HS3.out, HB3.out⟩
        case measure => simp [intOf]
      · have hc := (HH.out.keep HB2.out).cell 1 _ rfl
        have HSG := Lib.hid (HY3.out.keep HB2.out)
        go_wp2_with (at_builtin; refine wpList_appK rfl _ _ _ rfl el_vr w.heap.size _ _ _ rfl HS2.out.own HB2.out.size b m cb _ rfl HSG.out ?cM ?cN ?_)
        case cM => have := HX2.out; unfold maxLen; omega
        case cN => have := HX2.out; omega
        intro vq w3 ho3 hg3 hz1 hz2
        clear hz1 hz2
        have HS3 := Lib.hid (HS2.out.both HY4.out (by rw [List.nil_append, HY2.out]; exact ho3))
        have HB3 := Lib.hid (HS2.out.grown HB2.out hg3)
        clear ho3 hg3 HSG hc
        go_wp2_with fail
        go_roundw
        case rel => exact ⟨2, by omega, by go_num, HS3.out, HB3.out⟩
        case measure => simp [intOf]
      · have hlen : (([] ++ xs) ++ ys : List VC).length = nm := by rw [List.nil_append, List.length_append, HX2.out, HY2.out]; exact HNM.out
        obtain ⟨x, c, rfl, hva⟩ := HS2.out.va HB2.out hlen (by omega)
        have hmap : (([] ++ xs) ++ ys : List VC).map VC.ver = vs ++ us := by rw [List.nil_append, List.map_append, HX1.out, HY1.out]
        have HV := Lib.hid (show VA wr x nm (vs ++ us) from hmap ▸ hva)
        clear hva hmap hlen
        go_wp2_with fail
        go_ret
        rw [HNM.out]
        exact ⟨x, ⟨c, rfl⟩, HV.out, HB2.out⟩
end Go.Proofs.YtfjjnffifnohkaaGreat
end

/- vec.Join, vec.Meet: what each computes, for every two vectors. By an AI agent. -/
section
namespace Go.Proofs.YtfjjnffifnohkaaGreat
open Go.RowKit

theorem max_any (x y : Int) (w : World) : Calls Tryz.prog 180 #[.int .i64 x, .int .i64 y] w fun e w' => e = .returned (.int .i64 (max x y)) ∧ w = w' := by
  go_enter Tryz.func180, Tryz.ntmps180
  go_wp2
  all_goals (go_ret; exact ⟨ret_int (by omega), rfl⟩)

/-- a function of two ints that stays among them -/
def Tells (g : FuncId) (t : Int → Int → Int) : Prop :=
  (∀ x y w, Calls Tryz.prog g #[.int .i64 x, .int .i64 y] w fun e w' => e = .returned (.int .i64 (t x y)) ∧ w = w') ∧ (∀ x y, t x y = x ∨ t x y = y) ∧
  ∀ args w, (callFunc g args).run Tryz.prog w = .ok (.enter g args) w
theorem tells_max : Tells 180 max := ⟨max_any, fun x y => by omega, fun _ _ => by kernel_rfl⟩



set_option maxHeartbeats 800000 in
theorem each_any (g : FuncId) (t : Int → Int → Int) (hg : Tells g t) (a b : Option Addr) (n m ca cb : Nat) (xs ys : List Int) (w : World) (hx : IA w a n xs) (hy : IA w b m ys) :
    Calls Tryz.prog 179 #[.slice a n ca, .slice b m cb, .func (.func g) #[] #[]] w fun e w' => ∃ v, e = .returned v ∧ FI w.heap.size w' v (eachL t xs ys) ∧ Bl w w' := by
  obtain ⟨i0, hi, hz0, hz1, hz2⟩ := info_parts info_int
  have hx1 := hx.cap
  have hy1 := hy.cap
  by_cases hl : n = m
  · subst hl
    have HLL := Lib.hid (hx.len.trans hy.len.symm)
    have HX := Lib.hid hx.len
    have h2 : ((n : Int) != (n : Int)) = false := by simp
    have HZL : ∀ k, k ≤ n → ((List.zipWith t xs ys).take k).length = k := fun k hk => by
      have h1 := HLL.out; have h2 := HX.out
      simp; omega
    have HZ := Lib.hid HZL; clear HZL
    have hcf := hg.2.2
    go_enter Tryz.func179, Tryz.ntmps179
    go_wp2
    go_loopw [7, 17] (fun v i wr => ∃ (k : Nat) (acc : List Int), k ≤ n ∧ i = .int .i64 k ∧ Bl w wr ∧ OI w.heap.size wr v acc ∧ acc = (List.zipWith t xs ys).take k) (fun _ i _ => n - (intOf i).toNat)
    case atStart => exact ⟨0, [], Nat.zero_le _, rfl, Bl.refl _, OI.nil _ _, rfl⟩
    case round =>
      obtain ⟨k, acc, hk, rfl, hbl, hown, hacc⟩ := hrel
      have hal : acc.length ≤ n := by rw [hacc, HZ.out k hk]; exact hk
      have HACC := Lib.hid hacc; clear hacc
      have hbs := hbl.size
      by_cases hlt : k < n
      · obtain ⟨ba, oa, rfl, hca⟩ := hx.cells k hlt
        obtain ⟨bb, ob, rfl, hcb⟩ := hy.cells k hlt
        have ha := hbl.cell (hca k hlt)
        have hb := hbl.cell (hcb k hlt)
        clear hca hcb
        go_wp2_with fail
        refine (hg.1 _ _ _).mono ?_
        rintro e w' ⟨rfl, rfl⟩
        go_wp2_with (at_builtin; refine wpList_append_own _ rfl _ _ 24 rfl (w.heap.size) 3 i0 (.int .i64 0) 1 8 Tryz.underlying24 hi hz0 hz1 hz2 rfl (by decide) _ _ _ rfl (World.ownsRow.alloc hown _) ⟨wr.heap.size, 0, none⟩ 1 1 [.int .i64 (t (nth xs k) (nth ys k))] rfl rfl ?c1 ?c2 ?c3 ?c4 ?c5 ?_)
        case c1 =>
          intro j u hj
          match j, hj with
          | 0, hj => simp at hj; subst hj; simp [Addr.add]
        case c2 => intro u hu; simp at hu; subst hu; rfl
        case c3 => unfold maxLen; omega
        case c4 => omega
        case c5 => simp; omega
        intro v' w1 hown' hgrow _
        have R := OI.push hbl hbs hown hown' hgrow
        have HA := Lib.hid (zip_take (t := t) HLL.out (by rw [HX.out]; exact hlt))
        clear hown hown' hgrow
        go_wp2
        go_roundw
        case rel => exact ⟨k + 1, _, by omega, by go_num, R.2, R.1, by rw [HA.out, HACC.out]⟩
        case measure => simp [intOf]; omega
      · go_wp2
        go_ret
        have e1 : k = n := by omega
        subst e1
        refine ⟨_, rfl, ?_, hbl⟩
        have e2 : (List.zipWith t xs ys).take k = eachL t xs ys := by
          rw [eachL, if_pos HLL.out, List.take_of_length_le]
          have h1 := HLL.out; have h2 := HX.out
          simp; omega
        rw [HACC.out, e2] at hown
        refine ⟨hown, ?_, ?_⟩
        · rw [eachL, if_pos HLL.out]
          have h1 := HLL.out; have h2 := HX.out
          simp; omega
        · rw [eachL, if_pos HLL.out]
          exact zip_wf hg.2.1 hx.wf hy.wf
  · have h2 : ((n : Int) != (m : Int)) = true := by simp; omega
    go_enter Tryz.func179, Tryz.ntmps179
    go_wp2
    go_ret
    refine ⟨_, rfl, ?_, Bl.refl _⟩
    rw [eachL, if_neg (by rw [hx.len, hy.len]; exact hl)]
    exact FI.nil _ _

theorem join_any (a b : Option Addr) (n m ca cb : Nat) (xs ys : List Int) (w : World) (hx : IA w a n xs) (hy : IA w b m ys) :
    Calls Tryz.prog 128 #[.slice a n ca, .slice b m cb] w fun e w' => ∃ v, e = .returned v ∧ FI w.heap.size w' v (joinL xs ys) ∧ Bl w w' := by
  go_enter Tryz.func128, Tryz.ntmps128
  go_wp2_with fail
  refine (each_any _ _ tells_max a b n m ca cb xs ys _ hx hy).mono ?_
  rintro e w' ⟨v, rfl, hs, hb⟩
  go_wp2
  go_ret
  exact ⟨_, rfl, hs, hb⟩
end Go.Proofs.YtfjjnffifnohkaaGreat
end

/- fold.one. By an AI agent. -/
section
set_option linter.unusedVariables false
set_option linter.unusedSimpArgs false
namespace Go.Proofs.YtfjjnffifnohkaaGreat
open Go.RowKit

theorem fone_results {tmps : Array Value} {W : World} {g0 : Nat} {v : VC} (h0 : tmps.getD 4 undef = .pointer (some ⟨g0, 0, none⟩)) (c0 : AC W g0 v.cs) :
    (results Tryz.f32 tmps).run Tryz.prog W = .ok (.agg #[.string v.key, .slice v.ad v.n v.ca, .int .i64 v.origin, .int .i64 v.tx, .int .i64 v.act.k, .float .f64 v.act.x, .int .i64 v.act.n, .string v.act.s]) W := by
  rw [Array.getD_eq_getD_getElem?] at h0
  obtain ⟨k0, k1, k2, k3, k4, k5, k6, k7⟩ := AC.ver (key := v.key) (a := v.ad) (n := v.n) (ca := v.ca) (o := v.origin) (t := v.tx) (k := v.act.k) (x := v.act.x) (m := v.act.n) (s := v.act.s) c0
  simp [results, Tryz.results32, go_sem, h0, k0, k1, k2, k3, k4, k5, k6, k7]
/-- how far the one is -/
structure ONE (key : ByteArray) (vs : List VerL) (w W : World) (l c : Nat) (y : VC) : Prop where
  hi : c ≤ l
  is_ : y.ver = oneL key (vs.drop c).reverse
  ok : y.act.Ok
  kk : y.key = key
  og : y.origin = 254
  first : c = l → IA w y.ad y.n y.at_
  later : c < l → FI (w.heap.size + 3) W (.slice y.ad y.n y.ca) y.at_
  res : AC W w.heap.size [.string ⟨#[]⟩, .slice none 0 0, .int .i64 0, .int .i64 0, .int .i64 0, .float .f64 0, .int .i64 0, .string ⟨#[]⟩]
  out : AC W (w.heap.size + 1 + 1) (verC y.key y.ad y.n y.ca y.origin y.tx y.act.k y.act.x y.act.n y.act.s)
  bl : Bl w W
  size : w.heap.size + 3 ≤ W.heap.size
theorem ONE.ia {key : ByteArray} {vs : List VerL} {w W : World} {l c : Nat} {y : VC} (h : ONE key vs w W l c y) : IA W y.ad y.n y.at_ := by
  by_cases e : c = l
  · exact (h.first e).keep h.bl
  · exact (h.later (by have := h.hi; omega)).iaE
theorem oneL_cons {key : ByteArray} {vs : List VerL} {k : Nat} (h : k + 1 < vs.length) : oneL key (vs.drop k).reverse = oneStep key (oneL key (vs.drop (k + 1)).reverse) (nthR vs k) := by
  have e : vs.drop k = nthR vs k :: vs.drop (k + 1) := by rw [nthR_eq (by omega), List.drop_eq_getElem_cons (by omega)]
  rw [e, List.reverse_cons]
  have hne : (vs.drop (k + 1)).reverse ≠ [] := fun q => by
    have := congrArg List.length q
    rw [List.length_reverse, List.length_drop] at this
    simp at this
    omega
  cases hq : (vs.drop (k + 1)).reverse with
  | nil => exact absurd hq hne
  | cons x r => simp [oneL]
theorem oneL_last {key : ByteArray} {vs : List VerL} {l : Nat} (h : l + 1 = vs.length) : oneL key (vs.drop l).reverse = oneV key (nthR vs l) := by
  have e : vs.drop l = [nthR vs l] := by rw [nthR_eq (by omega), List.drop_eq_getElem_cons (by omega), List.drop_eq_nil_of_le (by omega)]
  rw [e]; rfl
set_option maxHeartbeats 3200000 in
set_option maxRecDepth 100000 in
theorem fone_any (key : ByteArray) (a : Option Addr) (n ca : Nat) (vs : List VerL) (w : World) (hkey : key.size ≤ 140737488351232) (hv : VA w a n vs) (hn1 : n ≤ 1000) (hn2 : 2 ≤ n) :
    Calls Tryz.prog 32 #[.string key, .slice a n ca] w fun e w' => ∃ y : VC, e = .returned (.agg #[.string y.key, .slice y.ad y.n y.ca, .int .i64 y.origin, .int .i64 y.tx, .int .i64 y.act.k, .float .f64 y.act.x, .int .i64 y.act.n, .string y.act.s]) ∧ y.ver = oneL key vs.reverse ∧ y.act.Ok ∧ FI w.heap.size w' (.slice y.ad y.n y.ca) y.at_ ∧ Bl w w' := by
  have hsf := store_fl
  have HL := Lib.hid hv.len
  obtain ⟨l, hl⟩ : ∃ l, l + 1 = n := ⟨n - 1, by omega⟩
  have hln : l < n := by omega
  have hw1 : IntKind.i64.wrap ((n : Int) - 1) = (l : Int) := by rw [IntKind.wrap_i64]; omega
  have hw1' : (n : Int) - 1 = (l : Int) := by omega
  have hw2' : (n : Int) - 2 = ((l - 1 : Nat) : Int) := by omega
  obtain ⟨b, off, rfl, hc⟩ := hv.cells l hln
  have bR : Bl w (w.alloc (.cells #[.string ⟨#[]⟩, .slice none 0 0, .int .i64 0, .int .i64 0, .int .i64 0, .float .f64 0, .int .i64 0, .string ⟨#[]⟩] 59)) := (Bl.refl w).alloc _
  have aR := AC.new w w.heap.size rfl [.string ⟨#[]⟩, .slice none 0 0, .int .i64 0, .int .i64 0, .int .i64 0, .float .f64 0, .int .i64 0, .string ⟨#[]⟩] 59
  have E0 := hc l hln
  have E := E0.keep bR
  have HC := Lib.hid hc
  clear hc
  obtain ⟨V, hV⟩ : ∃ V, nthR vs l = V := ⟨_, rfl⟩
  rw [hV] at E E0
  have HV := Lib.hid hV
  clear hV
  obtain ⟨va, vn, vc, e1', hI⟩ := E0.at_
  have e1 := bR.cell e1'
  have e0 := E.c0
  have e2 := E.c2
  have e3 := E.c3
  have e4 := E.c4
  have e5 := E.c5
  have e6 := E.c6
  have e7 := E.c7
  have HA := Lib.hid E.ok
  have HI := Lib.hid hI
  clear hI E E0 e1'
  have HBR := Lib.hid bR
  have HAR := Lib.hid aR
  clear bR aR
  go_enter Tryz.func32, Tryz.ntmps32
  go_wp2_with fail
  have HST := Lib.hid (show ONE key vs w (((w.alloc (.cells #[.string ⟨#[]⟩, .slice none 0 0, .int .i64 0, .int .i64 0, .int .i64 0, .float .f64 0, .int .i64 0, .string ⟨#[]⟩] 59)).alloc (.cells #[.string V.key, .slice va vn vc, .int .i64 V.origin, .int .i64 V.tx, .int .i64 V.act.k, .float .f64 V.act.x, .int .i64 V.act.n, .string V.act.s] 59)).alloc (.cells #[.string key, .slice va vn vc, .int .i64 254, .int .i64 V.tx, .int .i64 V.act.k, .float .f64 V.act.x, .int .i64 V.act.n, .string V.act.s] 59)) l l ⟨key, va, vn, vc, V.at_, 254, V.tx, V.act⟩ from by
    have b2 := (Bl.refl (w.alloc (.cells #[.string ⟨#[]⟩, .slice none 0 0, .int .i64 0, .int .i64 0, .int .i64 0, .float .f64 0, .int .i64 0, .string ⟨#[]⟩] 59))).alloc (.cells #[.string V.key, .slice va vn vc, .int .i64 V.origin, .int .i64 V.tx, .int .i64 V.act.k, .float .f64 V.act.x, .int .i64 V.act.n, .string V.act.s] 59)
    have b3 := b2.alloc (.cells #[.string key, .slice va vn vc, .int .i64 254, .int .i64 V.tx, .int .i64 V.act.k, .float .f64 V.act.x, .int .i64 V.act.n, .string V.act.s] 59)
    have hi := HC.out
    exact ⟨Nat.le_refl _, by rw [oneL_last (by rw [HL.out]; exact hl), HV.out]; rfl, HA.out, rfl, rfl, fun _ => HI.out, fun q => absurd q (Nat.lt_irrefl _), HAR.out.keep b3, AC.new _ (w.heap.size + 1 + 1) (by simp) [.string key, .slice va vn vc, .int .i64 254, .int .i64 V.tx, .int .i64 V.act.k, .float .f64 V.act.x, .int .i64 V.act.n, .string V.act.s] 59, HBR.out.trans b3, by simp⟩)
  clear e0 e1 e2 e3 e4 e5 e6 e7 HI HBR HAR HV
  generalize ((w.alloc _).alloc _).alloc _ = W3 at *
  have hl0 : ((l - 1 : Nat) : Int) = (l : Int) - 1 := by omega
  rw [hl0]
  go_loopw [7] (fun iv wr => ∃ (c : Nat) (i : Int) (y : VC), ONE key vs w wr l c y ∧ i = (c : Int) - 1 ∧ iv = .int .i64 i) (fun iv _ => (intOf iv + 1).toNat)
  case atStart => exact ⟨l, (l : Int) - 1, _, HST.out, rfl, rfl⟩
  case round =>
    clear HST hl0
    obtain ⟨c, i, y, hone, hi, rfl⟩ := hrel
    have HO := Lib.hid hone
    clear hone
    by_cases h0 : c = 0
    · have q0 : decide ((0 : Int) ≤ i) = false := decide_eq_false (by omega)
      have HH := Lib.hid hi
      clear hi
      have HF := Lib.hid (HO.out.later (by omega))
      have HR := Lib.hid HO.out.res
      obtain ⟨r0, r1, r2, r3, r4, r5, r6, r7⟩ := AC.ver HR.out
      obtain ⟨o0, o1, o2, o3, o4, o5, o6, o7⟩ := AC.ver HO.out.out
      have fz := HR.out.frozen
      go_wp2_with fail
      have R1 : AC (st8 wr w.heap.size 0 y) w.heap.size y.cs := HR.out.st8 0 y
      have R2 := FI.fr (S := fun b => b = w.heap.size) HF.out (Fr.st8 wr w.heap.size 0 y) (fun b e q => by have := (World.ownsRow.lt HF.out.own b e).1; omega)
      have R3 : Bl w (st8 wr w.heap.size 0 y) := Bl.st8 HO.out.bl (Nat.le_refl _) 0 y
      exact bodyPost_ret (fone_results rfl R1) rfl ⟨y, rfl, by rw [HO.out.is_, h0, List.drop_zero], HO.out.ok, FI.mono0 R2 (by omega), R3⟩
    · obtain ⟨k, rfl⟩ : ∃ k, c = k + 1 := ⟨c - 1, by omega⟩
      have hik : i = (k : Int) := by omega
      subst hik
      clear hi h0
      have hkn : k < n := by have := HO.out.hi; omega
      have E := (HC.out k hkn).keep HO.out.bl
      obtain ⟨U, hU⟩ : ∃ U, nthR vs k = U := ⟨_, rfl⟩
      rw [hU] at E
      have HU := Lib.hid hU
      clear hU
      obtain ⟨ua, un, uc, e1, hI⟩ := E.at_
      have e0 := E.c0
      have e2 := E.c2
      have e3 := E.c3
      have e4 := E.c4
      have e5 := E.c5
      have e6 := E.c6
      have e7 := E.c7
      have HUA := Lib.hid E.ok
      have ba : Bl wr (wr.alloc (.cells #[.string U.key, .slice ua un uc, .int .i64 U.origin, .int .i64 U.tx, .int .i64 U.act.k, .float .f64 U.act.x, .int .i64 U.act.n, .string U.act.s] 59)) := (Bl.refl wr).alloc _
      have HUB := Lib.hid (AC.new wr wr.heap.size rfl [.string U.key, .slice ua un uc, .int .i64 U.origin, .int .i64 U.tx, .int .i64 U.act.k, .float .f64 U.act.x, .int .i64 U.act.n, .string U.act.s] 59)
      have HUI := Lib.hid (hI.keep ba)
      have HYI := Lib.hid (HO.out.ia.keep ba)
      have HBA := Lib.hid ba
      have HOB := Lib.hid (HO.out.out.keep ba)
      obtain ⟨u0, u1, u2, u3, u4, u5, u6, u7⟩ := AC.ver (key := U.key) (a := ua) (n := un) (ca := uc) (o := U.origin) (t := U.tx) (k := U.act.k) (x := U.act.x) (m := U.act.n) (s := U.act.s) HUB.out
      obtain ⟨o0, o1, o2, o3, o4, o5, o6, o7⟩ := AC.ver HOB.out
      have hgo : w.heap.size + 1 + 1 < wr.heap.size := by have := HO.out.size; omega
      clear hI E ba
      go_wp2_with fail
      clear e0 e1 e2 e3 e4 e5 e6 e7 u0 u1 u2 u3 u4 u5 u6 u7 o0 o1 o2 o3 o4 o5 o6 o7
      generalize wr.heap.size = gv at *
      generalize wr.alloc _ = wa at *
      refine (join_any y.ad ua y.n un y.ca uc y.at_ U.at_ wa HYI.out HUI.out).mono ?_
      rintro e w1 ⟨jv, rfl, hf, hb1⟩
      obtain ⟨ja, jn, jc, rfl, -⟩ := hf.si
      have HB1 := Lib.hid (HBA.out.trans hb1)
      have HF1 := Lib.hid (FI.mono0 hf (B' := w.heap.size + 3) (Nat.le_trans HO.out.size HBA.out.size))
      have HO1 := Lib.hid (HOB.out.keep hb1)
      have HU1 := Lib.hid (HUB.out.keep hb1)
      have fz := HO1.out.frozen
      have o1 := HO1.out.cell 1 _ rfl
      have EO2 := Lib.hid (HO1.out.putj 1 (.slice ja jn jc))
      have EU2 := Lib.hid (HU1.out.otherj (g' := w.heap.size + 1 + 1) (by omega) 1 (.slice ja jn jc))
      have EF2 := Lib.hid (FI.fr (S := fun b => b = w.heap.size + 1 + 1) HF1.out (Fr.setj w1 (w.heap.size + 1 + 1) 1 (.slice ja jn jc)) (fun b e q => by have := (World.ownsRow.lt HF1.out.own b e).1; omega))
      have EB2 := Lib.hid ((HO.out.bl.trans HB1.out).setCell (p := ⟨w.heap.size + 1 + 1, 1, none⟩) (show w.heap.size ≤ w.heap.size + 1 + 1 by omega) (.slice ja jn jc))
      have ER2 := Lib.hid ((HO.out.res.keep HB1.out).otherj (g' := w.heap.size + 1 + 1) (by omega) 1 (.slice ja jn jc))
      clear hf hb1 HBA HOB HUB HUI HYI
      go_upto_region 8 with fail
      clear o1 fz HO1 HU1 HF1
      generalize w1.setCell _ _ = w2 at *
      have o3 := EO2.out.cell 3 _ rfl
      have u3 := EU2.out.cell 3 _ rfl
      have fz := EO2.out.frozen
      have EO3 := Lib.hid (EO2.out.putj 3 (.int .i64 (max y.tx U.tx)))
      have EU3 := Lib.hid (EU2.out.otherj (g' := w.heap.size + 1 + 1) (by omega) 3 (.int .i64 (max y.tx U.tx)))
      have EF3 := Lib.hid (FI.fr (S := fun b => b = w.heap.size + 1 + 1) EF2.out (Fr.setj w2 (w.heap.size + 1 + 1) 3 (.int .i64 (max y.tx U.tx))) (fun b e q => by have := (World.ownsRow.lt EF2.out.own b e).1; omega))
      have EB3 := Lib.hid (EB2.out.setCell (p := ⟨w.heap.size + 1 + 1, 3, none⟩) (show w.heap.size ≤ w.heap.size + 1 + 1 by omega) (.int .i64 (max y.tx U.tx)))
      have ER3 := Lib.hid (ER2.out.otherj (g' := w.heap.size + 1 + 1) (by omega) 3 (.int .i64 (max y.tx U.tx)))
      go_upto_region 9 with fail
      clear o3 u3 fz EO2 EU2 EF2 EB2 ER2
      obtain ⟨mx, hmx⟩ : ∃ mx, max y.tx U.tx = mx := ⟨_, rfl⟩
      rw [hmx] at EO3 EU3 EF3 EB3 ER3
      rw [hmx]
      have HMX := Lib.hid hmx
      clear hmx
      generalize w2.setCell _ _ = w3 at *
      obtain ⟨o0, o1, o2, o3, o4, o5, o6, o7⟩ := AC.ver (key := y.key) (a := ja) (n := jn) (ca := jc) (o := y.origin) (t := mx) (k := y.act.k) (x := y.act.x) (m := y.act.n) (s := y.act.s) EO3.out
      obtain ⟨u0, u1, u2, u3, u4, u5, u6, u7⟩ := AC.ver (key := U.key) (a := ua) (n := un) (ca := uc) (o := U.origin) (t := U.tx) (k := U.act.k) (x := U.act.x) (m := U.act.n) (s := U.act.s) EU3.out
      obtain ⟨⟨rk, rx, rn, rs⟩, hr⟩ : ∃ r, bothL key y.act U.act = r := ⟨_, rfl⟩
      have HBO := Lib.hid hr
      have HRO := Lib.hid (show (ActL.mk rk rx rn rs).Ok from hr ▸ both_ok HO.out.ok HUA.out)
      clear hr
      go_wp2_with fail
      refine (both_agg key y.act.k y.act.x y.act.n y.act.s U.act.k U.act.x U.act.n U.act.s rk rx rn rs _ HBO hkey (Lib.hid HO.out.ok) HUA).mono ?_
      rintro e w4 ⟨rfl, hb4⟩
      have EO4 := Lib.hid (EO3.out.keep hb4)
      have EF4 := Lib.hid (EF3.out.keep hb4)
      have EB4 := Lib.hid (Bl.trans (show Bl w w3 from EB3.out) hb4)
      have ER4 := Lib.hid (ER3.out.keep hb4)
      clear hb4 EO3 EU3 EF3 EB3 ER3 o0 o1 o2 o3 o4 o5 o6 o7 u0 u1 u2 u3 u4 u5 u6 u7
      obtain ⟨o0, o1, o2, o3, o4, o5, o6, o7⟩ := AC.ver (key := y.key) (a := ja) (n := jn) (ca := jc) (o := y.origin) (t := mx) (k := y.act.k) (x := y.act.x) (m := y.act.n) (s := y.act.s) EO4.out
      have fz := EO4.out.frozen
      go_wp2_with fail
      have Z1 := (((EO4.out.putj 4 (.int .i64 rk)).putj 5 (.float .f64 rx)).putj 6 (.int .i64 rn)).putj 7 (.string rs)
      have Z2 := (((ER4.out.otherj (g' := w.heap.size + 1 + 1) (by omega) 4 (.int .i64 rk)).otherj (g' := w.heap.size + 1 + 1) (by omega) 5 (.float .f64 rx)).otherj (g' := w.heap.size + 1 + 1) (by omega) 6 (.int .i64 rn)).otherj (g' := w.heap.size + 1 + 1) (by omega) 7 (.string rs)
      have far : ∀ b, (Value.slice ja jn jc).ownBlock = some b → b = w.heap.size + 1 + 1 → False := fun b e q => by have := (World.ownsRow.lt EF4.out.own b e).1; omega
      have Z3 := FI.fr (S := fun b => b = w.heap.size + 1 + 1) EF4.out ((((Fr.setj w4 (w.heap.size + 1 + 1) 4 (.int .i64 rk)).trans (Fr.setj _ (w.heap.size + 1 + 1) 5 (.float .f64 rx))).trans (Fr.setj _ (w.heap.size + 1 + 1) 6 (.int .i64 rn))).trans (Fr.setj _ (w.heap.size + 1 + 1) 7 (.string rs))) far
      have hg2 : w.heap.size ≤ w.heap.size + 1 + 1 := by omega
      have Z4 := (((Below.setCell (p := ⟨w.heap.size + 1 + 1, 4, none⟩) EB4.out hg2 (.int .i64 rk)).setCell (p := ⟨w.heap.size + 1 + 1, 5, none⟩) hg2 (.float .f64 rx)).setCell (p := ⟨w.heap.size + 1 + 1, 6, none⟩) hg2 (.int .i64 rn)).setCell (p := ⟨w.heap.size + 1 + 1, 7, none⟩) hg2 (.string rs)
      have Z5 : w.heap.size + 3 ≤ w4.heap.size := by
        have := lt_of_heap (EO4.out.choose_spec)
        omega
      refine ⟨⟨k, (k : Int) - 1, ⟨y.key, ja, jn, jc, joinL y.at_ U.at_, y.origin, mx, ⟨rk, rx, rn, rs⟩⟩, ⟨by have := HO.out.hi; omega, ?_, HRO.out, HO.out.kk, HO.out.og, fun q => absurd q (by have := HO.out.hi; omega), fun _ => Z3, Z2, Z1, Z4, by simp; omega⟩, rfl, rfl⟩, ?_⟩
      · rw [oneL_cons (by have := HO.out.hi; rw [HL.out]; omega), ← HO.out.is_, HU.out]
        show VerL.mk y.key (joinL y.at_ U.at_) y.origin mx ⟨rk, rx, rn, rs⟩ = oneStep key y.ver U
        unfold oneStep
        rw [HO.out.kk, HO.out.og, ← HMX.out, ← HBO.out]
        rfl
      · simp [intOf]
end Go.Proofs.YtfjjnffifnohkaaGreat
end
