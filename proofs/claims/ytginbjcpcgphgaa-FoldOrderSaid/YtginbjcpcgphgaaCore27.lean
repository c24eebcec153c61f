import Derived.Test.YtginbjcpcgphgaaCore3
import Derived.Test.YtginbjcpcgphgaaCore25
import Derived.Lib.AppendZerosOnto
import Derived.Lib.SliceRun
import Derived.Lib.Walk

/- fold.registers. By an AI agent. -/
section
set_option linter.unusedVariables false
set_option linter.unusedSimpArgs false
namespace Go.Proofs.Ytginbjcpcgphgaa
open Go.RowKit

set_option maxRecDepth 100000 in
theorem fregs_any (key : ByteArray) (w : World) (hp : 0 < key.size) : Calls Try.prog 23 #[.string key] w fun e w' => e = .returned (.bool (regB key)) ∧ w = w' := by
  have HH := Lib.hid (hd_get hp)
  go_enter Try.func23, Try.ntmps23
  go_wp2_with fail
  · rename_i h
    go_ret
    refine ⟨ret_bool ?_, rfl⟩
    have h2 : hd key = 114 := by rw [← HH.out]; omega
    unfold regB
    rw [h2]; rfl
  · rename_i h
    go_ret
    refine ⟨ret_bool ?_, rfl⟩
    unfold regB
    rw [← HH.out]
    rw [Bool.eq_iff_iff]
    simp only [Bool.or_eq_true, beq_iff_eq, decide_eq_true_eq]
    omega
end Go.Proofs.Ytginbjcpcgphgaa
end

/- slices.Grow of nothing; slices.Concat of two rows of versions. By an AI agent. -/
section
set_option linter.unusedVariables false
set_option linter.unusedSimpArgs false
namespace Go.Proofs.Ytginbjcpcgphgaa
open Go.RowKit

theorem zc_size (cs : Array Value) (k : Nat) : (Builtin.zeroCells cs k).size = k * cs.size := by
  unfold Builtin.zeroCells
  simp only [Array.size_map, Array.size_range]
set_option maxHeartbeats 2000000 in
set_option maxRecDepth 100000 in
theorem growN_any (n : Nat) (w : World) (hn : n ≤ 100000) :
    Calls Try.prog 45 #[.slice none 0 0, .int .i64 n] w fun e w' => ∃ v, e = .returned v ∧ OVS w.heap.size w' v 0 [] ∧ Bl w w' := by
  by_cases h0 : n = 0
  · subst h0
    go_enter Try.func45, Try.ntmps45
    go_wp2_with fail
    go_ret
    exact ⟨_, rfl, World.ownsRow_nil _ _ _ _, Bl.refl _⟩
  · obtain ⟨i, z, hi, hz, h1, h2, h3⟩ := el_vr.info
    have q1 : ¬ ((n : Int) < 0) := by omega
    have q2 : (0 : Int) < (n : Int) := by omega
    have q3 : decide ((0 : Int) < (n : Int)) = true := decide_eq_true q2
    have hold : (Builtin.firstCells i.size 0 (.slice none 0 0)).run Try.prog w.drew = .ok (#[] : Array Value) w.drew := run_firstCells_none w.drew i.size 0 0 0
    have hrz : ∀ ty, (Builtin.append_ #[22, 3] ty #[.slice none 0 0, .int .i64 n]).run Try.prog w =
        .ok (.slice (some ⟨w.heap.size, 0, none⟩) n (grownCap w n 0 35)) (w.drew.alloc (.cells (#[] ++ Builtin.zeroCells z.cells n ++ Builtin.zeroCells z.cells (grownCap w n 0 35 - n)) 35)) := fun ty => by
      have h := Lib.run_append_grow_zeros w 22 3 ty 35 i z .i64 .i64 Try.underlying22 Try.underlying3 hi hz none 0 0 [] hold n (by omega) (by omega) (by omega) (by omega)
        (by rw [h2]; omega) (by rw [h2]; exact growslice_fits (by omega) (by omega))
      rw [Nat.zero_add] at h
      exact h
    have hGn : n ≤ grownCap w n 0 35 := grownCap_ge w _ _ _
    have hGm : grownCap w n 0 35 ≤ maxLen := grownCap_le_maxLen w n 0 35 (by unfold maxLen; omega)
    obtain ⟨G, hG⟩ : ∃ G, G = grownCap w n 0 35 := ⟨_, rfl⟩
    rw [← hG] at hrz hGn hGm
    obtain ⟨Z, hZ⟩ : ∃ Z, Z = #[] ++ Builtin.zeroCells z.cells n ++ Builtin.zeroCells z.cells (G - n) := ⟨_, rfl⟩
    rw [← hZ] at hrz
    have HZ := Lib.hid (show Z.size = G * 8 by rw [hZ]; simp only [Array.size_append, zc_size, h3, Array.size_empty]; omega)
    have HGM := Lib.hid hGm
    clear hold hG hGm h3 hi hz h1 h2 hZ
    go_enter Try.func45, Try.ntmps45
    go_wp2_with (at_builtin; refine Lib.wpList_append_run _ rfl _ _ _ _ rfl _ _ rfl rfl _ _ (hrz _) ?_)
    go_ret
    exact ⟨_, rfl, ⟨rfl, .inr ⟨w.heap.size, G, Z, rfl, Nat.le_refl _, heap_alloc_new _ _, Nat.zero_le _, HGM.out, HZ.out, by simp⟩⟩, ((Bl.refl w).drew).alloc _⟩
theorem VE.vc {w : World} {b off : Nat} {v : VerL} (h : VE w b off v) : ∃ x : VC, x.ver = v ∧ IA w x.ad x.n x.at_ ∧ x.act.Ok ∧ ∀ r, r < 8 → w.cell? ⟨b, off + r, none⟩ = x.cs[r]? := by
  obtain ⟨a, n, ca, e1, hI⟩ := h.at_
  refine ⟨⟨v.key, a, n, ca, v.at_, v.origin, v.tx, v.act⟩, rfl, hI, h.ok, fun r hr => ?_⟩
  have hc : r = 0 ∨ r = 1 ∨ r = 2 ∨ r = 3 ∨ r = 4 ∨ r = 5 ∨ r = 6 ∨ r = 7 := by omega
  rcases hc with rfl | rfl | rfl | rfl | rfl | rfl | rfl | rfl
  · exact h.c0
  · exact e1
  · exact h.c2
  · exact h.c3
  · exact h.c4
  · exact h.c5
  · exact h.c6
  · exact h.c7
/-- the versions of a slice with their lists' places -/
theorem VA.vcs {w : World} {a : Option Addr} {n : Nat} {vs : List VerL} (h : VA w a n vs) : ∃ xs : List VC, xs.map VC.ver = vs ∧ xs.length = n ∧ SG w 8 a n (flat xs) ∧ ∀ x ∈ xs, IA w x.ad x.n x.at_ ∧ x.act.Ok := by
  by_cases hn : n = 0
  · subst hn
    have hvs := List.eq_nil_of_length_eq_zero h.len
    subst hvs
    exact ⟨[], rfl, rfl, ⟨rfl, fun _ _ _ _ hu => by simp [flat] at hu, fun _ => rfl, fun _ hu => by simp [flat] at hu⟩, fun _ hx => by cases hx⟩
  · obtain ⟨b, off, rfl, hc⟩ := h.cells 0 (by omega)
    have key : ∀ j, j < n → ∃ x : VC, x.ver = nthR vs j ∧ IA w x.ad x.n x.at_ ∧ x.act.Ok ∧ ∀ r, r < 8 → w.cell? ⟨b, off + j * 8 + r, none⟩ = x.cs[r]? := fun j hj => (hc j hj).vc
    obtain ⟨f, hf⟩ : ∃ f : Nat → VC, ∀ j, j < n → (f j).ver = nthR vs j ∧ IA w (f j).ad (f j).n (f j).at_ ∧ (f j).act.Ok ∧ ∀ r, r < 8 → w.cell? ⟨b, off + j * 8 + r, none⟩ = (f j).cs[r]? :=
      ⟨fun j => if q : j < n then Classical.choose (key j q) else default, fun j hj => by
        simp only [dif_pos hj]
        exact Classical.choose_spec (key j hj)⟩
    have hl : ((List.range n).map f).length = n := by simp
    have hel : ∀ j, j < n → el ((List.range n).map f) j = f j := fun j hj => by rw [el_eq (by rw [hl]; exact hj)]; simp
    refine ⟨(List.range n).map f, ?_, hl, ⟨by rw [flat_len, hl], fun ad e j u hu => ?_, fun e => (by cases e), fun u hu => ?_⟩, fun x hx => ?_⟩
    · refine List.ext_getElem (by simp [h.len]) fun i h1 h2 => ?_
      have hi : i < n := by simpa using h1
      rw [List.getElem_map, List.getElem_map, List.getElem_range, (hf i hi).1, nthR_eq h2]
    · obtain rfl := Option.some.inj e
      rw [add_none]
      have hj : j < n * 8 := by
        have := (List.getElem?_eq_some_iff.1 hu).1
        rw [flat_len, hl] at this; exact this
      obtain ⟨k, r, hr, rfl⟩ : ∃ k r, r < 8 ∧ j = k * 8 + r := ⟨j / 8, j % 8, by omega, by omega⟩
      rw [flat_get _ _ _ (by rw [hl]; omega) hr, hel k (by omega)] at hu
      rw [← Nat.add_assoc, (hf k (by omega)).2.2.2 r hr]; exact hu
    · unfold flat at hu
      obtain ⟨x, hx, hm⟩ := List.mem_flatMap.1 hu
      simp only [VC.cs, verC, List.mem_cons, List.not_mem_nil, or_false] at hm
      rcases hm with rfl | rfl | rfl | rfl | rfl | rfl | rfl | rfl <;> rfl
    · obtain ⟨j, hj, rfl⟩ := List.mem_map.1 hx
      exact ⟨(hf j (List.mem_range.1 hj)).2.1, (hf j (List.mem_range.1 hj)).2.2.1⟩
theorem SV.both {W0 W W' : World} {v v' : Value} {xs ys : List VC} (h : SV W0 W v xs) (hy : ∀ y ∈ ys, IA W0 y.ad y.n y.at_ ∧ y.act.Ok) (ho : OVS W0.heap.size W' v' (xs.length + ys.length) (flat xs ++ flat ys)) : SV W0 W' v' (xs ++ ys) := by
  refine ⟨?_, fun x hx => ?_⟩
  · rw [List.length_append, flat_append]; exact ho
  · rcases List.mem_append.1 hx with q | q
    · exact h.els x q
    · exact hy x q
set_option maxHeartbeats 2000000 in
set_option maxRecDepth 100000 in
theorem concat_any (h : Nat) (a b : Option Addr) (n ca m cb : Nat) (vs us : List VerL) (w : World) (hh : AC w h [.slice a n ca, .slice b m cb]) (hv : VA w a n vs) (hu : VA w b m us) (hn : n ≤ 10000) (hm : m ≤ 10000) :
    Calls Try.prog 25 #[.slice (some ⟨h, 0, none⟩) 2 2] w fun e w' => ∃ x c, e = .returned (.slice x (n + m) c) ∧ VA w' x (n + m) (vs ++ us) ∧ Bl w w' := by
  obtain ⟨xs, hx1, hx2, hx3, hx4⟩ := hv.vcs
  obtain ⟨ys, hy1, hy2, hy3, hy4⟩ := hu.vcs
  have c0 := hh.cell 0 _ rfl
  have c1 := hh.cell 1 _ rfl
  have HH := Lib.hid hh
  have HX3 := Lib.hid hx3
  have HX4 := Lib.hid hx4
  have HY3 := Lib.hid hy3
  have HY4 := Lib.hid hy4
  have HX1 := Lib.hid hx1
  have HY1 := Lib.hid hy1
  have HX2 := Lib.hid hx2
  have HY2 := Lib.hid hy2
  clear hh hv hu hx1 hx2 hx3 hx4 hy1 hy2 hy3 hy4
  go_enter Try.func25, Try.ntmps25
  go_wp2_with fail
  go_loopw [3, 11] (fun sv iv wr => ∃ k : Nat, k ≤ 2 ∧ iv = .int .i64 (k : Int) ∧ sv = .int .i64 ((if k = 0 then 0 else if k = 1 then n else n + m : Nat) : Int) ∧ w = wr) (fun _ iv _ => 2 - (intOf iv).toNat)
  case atStart => exact ⟨0, by omega, by go_num, by go_num, rfl⟩
  case round =>
    obtain ⟨k, hk, rfl, rfl, rfl⟩ := hrel
    have hk3 : k = 0 ∨ k = 1 ∨ k = 2 := by omega
    clear hk
    rcases hk3 with rfl | rfl | rfl
    · have t1 : decide ((n : Int) < 0) = false := decide_eq_false (by omega)
      go_wp2_with fail
      go_roundw
      case rel => exact ⟨1, by omega, by go_num, by simp⟩
      case measure => simp [intOf]
    · obtain ⟨nm, hnm⟩ : ∃ nm, n + m = nm := ⟨_, rfl⟩
      have t1 : (n : Int) + (m : Int) = (nm : Int) := by omega
      have t2 : decide ((nm : Int) < 0) = false := decide_eq_false (by omega)
      go_wp2_with fail
      go_roundw
      case rel => exact ⟨2, by omega, by go_num, by simp [hnm]⟩
      case measure => simp [intOf]
    · obtain ⟨nm, hnm⟩ : ∃ nm, n + m = nm := ⟨_, rfl⟩
      have hnm2 : nm ≤ 100000 := by omega
      have HNM := Lib.hid hnm
      rw [if_neg (by decide), if_neg (by decide), hnm]
      clear hnm
      go_wp2_with fail
      refine (growN_any nm _ hnm2).mono ?_
      rintro e w2 ⟨v, rfl, ho, hb⟩
      have HS := Lib.hid (show SV w w2 v [] from ⟨ho, fun x hx => by cases hx⟩)
      have HB := Lib.hid hb
      clear ho hb c0 c1
      go_wp2_with fail
      go_loopw [6, 27] (fun nv iv wr => ∃ k : Nat, k ≤ 2 ∧ iv = .int .i64 (k : Int) ∧ SV w wr nv (match k with | 0 => [] | 1 => [] ++ xs | _ => ([] ++ xs) ++ ys) ∧ Bl w wr) (fun _ iv _ => 2 - (intOf iv).toNat)
      case atStart => exact ⟨0, by omega, by go_num, HS.out, HB.out⟩
      case round =>
      clear HS HB
      obtain ⟨k, hk, rfl, hs2, hb2⟩ := hrel
      have HS2 := Lib.hid hs2
      have HB2 := Lib.hid hb2
      clear hs2 hb2
      have hk3 : k = 0 ∨ k = 1 ∨ k = 2 := by omega
      clear hk
      rcases hk3 with rfl | rfl | rfl
      · have hc := (HH.out.keep HB2.out).cell 0 _ rfl
        have HSG := Lib.hid (HX3.out.keep HB2.out)
        go_wp2_with (at_builtin; refine wpList_appK rfl _ _ _ rfl el_vr w.heap.size _ _ _ rfl HS2.out.own HB2.out.size a n ca _ rfl HSG.out ?cM ?cN ?_)
        case cM => unfold maxLen; omega
        case cN => omega
        intro vq w3 ho3 hg3 hz1 hz2
        clear hz1 hz2
        have HS3 := Lib.hid (HS2.out.both HX4.out (by rw [HX2.out, List.length_nil, Nat.zero_add]; exact ho3))
        have HB3 := Lib.hid (HS2.out.grown HB2.out hg3)
        clear ho3 hg3 HSG hc
        go_wp2_with fail
        go_roundw
        case rel => exact ⟨1, by omega, by go_num, HS3.out, HB3.out⟩
        case measure => simp [intOf]
      · have hc := (HH.out.keep HB2.out).cell 1 _ rfl
        have HSG := Lib.hid (HY3.out.keep HB2.out)
        go_wp2_with (at_builtin; refine wpList_appK rfl _ _ _ rfl el_vr w.heap.size _ _ _ rfl HS2.out.own HB2.out.size b m cb _ rfl HSG.out ?cM ?cN ?_)
        case cM => have := HX2.out; unfold maxLen; omega
        case cN => have := HX2.out; omega
        intro vq w3 ho3 hg3 hz1 hz2
        clear hz1 hz2
        have HS3 := Lib.hid (HS2.out.both HY4.out (by rw [List.nil_append, HY2.out]; exact ho3))
        have HB3 := Lib.hid (HS2.out.grown HB2.out hg3)
        clear ho3 hg3 HSG hc
        go_wp2_with fail
        go_roundw
        case rel => exact ⟨2, by omega, by go_num, HS3.out, HB3.out⟩
        case measure => simp [intOf]
      · have hlen : (([] ++ xs) ++ ys : List VC).length = nm := by rw [List.nil_append, List.length_append, HX2.out, HY2.out]; exact HNM.out
        obtain ⟨x, c, rfl, hva⟩ := HS2.out.va HB2.out hlen (by omega)
        have hmap : (([] ++ xs) ++ ys : List VC).map VC.ver = vs ++ us := by rw [List.nil_append, List.map_append, HX1.out, HY1.out]
        have HV := Lib.hid (show VA wr x nm (vs ++ us) from hmap ▸ hva)
        clear hva hmap hlen
        go_wp2_with fail
        go_ret
        rw [HNM.out]
        exact ⟨x, ⟨c, rfl⟩, HV.out, HB2.out⟩
end Go.Proofs.Ytginbjcpcgphgaa
end
