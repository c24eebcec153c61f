import Derived.Test.YtfmabjoindlfeaaGreatQTxnTellsUptoP23
import Derived.Test.YtfmabjoindlfeaaGreatQTxnTellsUptoP5
import Derived.Test.YtfmabjoindlfeaaGreatQTxnTellsUptoP8
import Derived.Test.YtfmabjoindlfeaaGreatQTxnTellsUptoP3
import Derived.Deep.DeepCutAuto
import Derived.Test.YtfmabjoindlfeaaGreatQTxnTellsUptoP6

/- bedrockbook.SameWrites. By an AI agent. -/
section
set_option linter.unusedVariables false
set_option linter.unusedSimpArgs false
namespace Go.Proofs.YtfmabjoindlfeaaGreat
open Go.RowKit
attribute [local go_sem] eOp eOper eUpon

set_option maxHeartbeats 6400000 in
set_option maxRecDepth 100000 in
theorem bookSameWs_any (a : Option Addr) (n ca : Nat) (xs : List (ByteArray × ActL)) (b : Option Addr) (m cb : Nat) (ys : List (ByteArray × ActL)) (w : World) (hx : WW w a n xs) (hy : WW w b m ys) :
    Calls Tryz.prog 133 #[.slice a n ca, .slice b m cb] w fun e w' => e = .returned (.bool (sameWs xs ys)) ∧ Bl w w' := by
  have hn := hx.cap
  have hm := hy.cap
  have HX := Lib.hid hx
  have HY := Lib.hid hy
  have HL := Lib.hid hx.len
  have HM := Lib.hid hy.len
  clear hx hy
  by_cases hnm : n = m
  case neg =>
    have q : ((n : Int) != (m : Int)) = true := by rw [bne_iff_ne]; omega
    have HF : Hid (sameWs xs ys = false) := Lib.hid (by
      cases h : sameWs xs ys
      · rfl
      · have := (sameWs_iff.1 h).1; have := HL.out; have := HM.out; omega)
    clear hnm
    go_enter Tryz.func133, Tryz.ntmps133
    go_wp2_with fail
    go_ret
    exact ⟨ret_bool HF.out.symm, Bl.refl _⟩
  subst hnm
  have q : ((n : Int) != (n : Int)) = false := by simp
  go_enter Tryz.func133, Tryz.ntmps133
  go_wp2_with fail
  go_loopw [5] (fun i wr => ∃ k : Nat, k ≤ n ∧ i = .int .i64 k ∧ Bl w wr ∧ ∀ j, j < k → (nthW xs j).1 = (nthW ys j).1 ∧ sameA (nthW xs j).2 (nthW ys j).2 = true) (fun i _ => n - (intOf i).toNat)
  case atStart => exact ⟨0, Nat.zero_le _, rfl, Bl.refl _, fun j hj => absurd hj (Nat.not_lt_zero _)⟩
  case round =>
    obtain ⟨k, hk, rfl, hbl, hok⟩ := hrel
    have HBL := Lib.hid hbl
    have HOK := Lib.hid hok
    clear hbl hok
    by_cases hlt : k < n
    · have hkx : k < xs.length := by rw [HL.out]; exact hlt
      have hky : k < ys.length := by rw [HM.out]; exact hlt
      obtain ⟨ba, oa, rfl, _⟩ := HX.out.cells k hlt
      obtain ⟨bb, ob, rfl, _⟩ := HY.out.cells k hlt
      have HCX := Lib.hid (HX.out.get HBL.out.drew hlt)
      have HCY := Lib.hid (HY.out.get HBL.out.drew hlt)
      have HOX : Hid (WrOk (nthW xs k)) := Lib.hid (HX.out.ok _ (by rw [nthW_eq hkx]; exact List.getElem_mem hkx))
      have HOY : Hid (WrOk (nthW ys k)) := Lib.hid (HY.out.ok _ (by rw [nthW_eq hky]; exact List.getElem_mem hky))
      have HNO : Hid (¬ ((nthW xs k).1 = (nthW ys k).1 ∧ sameA (nthW xs k).2 (nthW ys k).2 = true) → sameWs xs ys = false) := Lib.hid (fun h => by
        cases h2 : sameWs xs ys
        · rfl
        · exact absurd ((sameWs_iff.1 h2).2 k hkx) h)
      have HYES : Hid ((nthW xs k).1 = (nthW ys k).1 ∧ sameA (nthW xs k).2 (nthW ys k).2 = true → ∀ j, j < k + 1 → (nthW xs j).1 = (nthW ys j).1 ∧ sameA (nthW xs j).2 (nthW ys j).2 = true) := Lib.hid (fun h j hj => by
        rcases Nat.lt_succ_iff_lt_or_eq.1 hj with h1 | rfl
        · exact HOK.out j h1
        · exact h)
      generalize nthW xs k = p at *
      generalize nthW ys k = r at *
      obtain ⟨kx, ax⟩ := p
      obtain ⟨ky, ay⟩ := r
      dsimp only at HNO HYES
      have HA := Lib.hid (fun (q : Ext wr.drew) => rsameAct_any ax ay q.at HOX.out.2 HOY.out.2)
      have x0 : ∀ q : Ext wr.drew, _ := fun q => (HCX.out.keep q.bl).c0
      have x1 : ∀ q : Ext wr.drew, _ := fun q => (HCX.out.keep q.bl).c1
      have x2 : ∀ q : Ext wr.drew, _ := fun q => (HCX.out.keep q.bl).c2
      have x3 : ∀ q : Ext wr.drew, _ := fun q => (HCX.out.keep q.bl).c3
      have x4 : ∀ q : Ext wr.drew, _ := fun q => (HCX.out.keep q.bl).c4
      have y0 : ∀ q : Ext wr.drew, _ := fun q => (HCY.out.keep q.bl).c0
      have y1 : ∀ q : Ext wr.drew, _ := fun q => (HCY.out.keep q.bl).c1
      have y2 : ∀ q : Ext wr.drew, _ := fun q => (HCY.out.keep q.bl).c2
      have y3 : ∀ q : Ext wr.drew, _ := fun q => (HCY.out.keep q.bl).c3
      have y4 : ∀ q : Ext wr.drew, _ := fun q => (HCY.out.keep q.bl).c4
      dsimp only at x0 x1 x2 x3 x4 y0 y1 y2 y3 y4
      clear hkx hky
      by_cases hkey : kx = ky
      case neg =>
        have qk : (kx.toList == ky.toList) = false := by rw [beq_key]; exact decide_eq_false hkey
        have HF := Lib.hid (HNO.out (fun h => hkey h.1))
        clear hkey
        go_upto_region 6 with fail
        refine wp_region_allS (by kernel_rfl) (by kernel_rfl) ?_
        repeat (refine wpS_step (fun K hK => ?_); go_simp; first | (refine hK _ ?_; clear hK K) | (apply Exists.intro; refine ⟨fun q => ?_, hK _ ?_⟩; (with_reducible exact HA.out q); clear hK K))
        refine wpS_nil ?_
        intro q1
        have HBN := Lib.hid (HBL.out.trans (((Bl.refl wr).drew).trans q1.bl))
        clear x0 x1 x2 x3 x4 y0 y1 y2 y3 y4
        generalize ExtC.at q1 = Y at *
        go_wp2_with fail
        go_ret
        exact ⟨ret_bool HF.out.symm, HBN.out⟩
      have qk : (kx.toList == ky.toList) = true := by rw [beq_key]; exact decide_eq_true hkey
      cases hs : sameA ax ay
      · have HF := Lib.hid (HNO.out (fun h => by rw [hs] at h; cases h.2))
        have HAF := Lib.hid (fun q => by have := HA.out q; rw [hs] at this; exact this)
        clear hkey hs
        go_upto_region 6 with fail
        refine wp_region_allS (by kernel_rfl) (by kernel_rfl) ?_
        repeat (refine wpS_step (fun K hK => ?_); go_simp; first | (refine hK _ ?_; clear hK K) | (apply Exists.intro; refine ⟨fun q => ?_, hK _ ?_⟩; (with_reducible exact HAF.out q); clear hK K))
        refine wpS_nil ?_
        intro q1
        have HBN := Lib.hid (HBL.out.trans (((Bl.refl wr).drew).trans q1.bl))
        clear x0 x1 x2 x3 x4 y0 y1 y2 y3 y4
        generalize ExtC.at q1 = Y at *
        go_wp2_with fail
        go_ret
        exact ⟨ret_bool HF.out.symm, HBN.out⟩
      · have HF := Lib.hid (HYES.out ⟨hkey, hs⟩)
        have HAF := Lib.hid (fun q => by have := HA.out q; rw [hs] at this; exact this)
        clear hkey hs
        go_upto_region 6 with fail
        refine wp_region_allS (by kernel_rfl) (by kernel_rfl) ?_
        repeat (refine wpS_step (fun K hK => ?_); go_simp; first | (refine hK _ ?_; clear hK K) | (apply Exists.intro; refine ⟨fun q => ?_, hK _ ?_⟩; (with_reducible exact HAF.out q); clear hK K))
        refine wpS_nil ?_
        intro q1
        have HBN := Lib.hid (HBL.out.trans (((Bl.refl wr).drew).trans q1.bl))
        clear x0 x1 x2 x3 x4 y0 y1 y2 y3 y4
        generalize ExtC.at q1 = Y at *
        go_wp2_with fail
        go_roundw
        case rel => exact ⟨k + 1, by omega, by go_num, HBN.out, HF.out⟩
        case measure => simp [intOf]; omega
    · obtain rfl : k = n := by omega
      have HF : Hid (sameWs xs ys = true) := Lib.hid (sameWs_iff.2 ⟨by rw [HL.out, HM.out], fun i hi => HOK.out i (by rw [HL.out] at hi; exact hi)⟩)
      go_wp2_with fail
      go_ret
      exact ⟨ret_bool HF.out.symm, HBL.out⟩
end Go.Proofs.YtfmabjoindlfeaaGreat
end

/- bedrockbook over Writes: what they read as, their marks, their copies. By an AI agent. -/
section
namespace Go.Proofs.YtfmabjoindlfeaaGreat
open Go.RowKit

/-- an own row reads as what its cells are -/
theorem WW.own {B : Nat} {w : World} {a : Option Addr} {n c : Nat} {ps : List (ByteArray × ActL)} (h : w.ownsRow B 63 5 (.slice a n c) n (cellsW ps)) (hl : ps.length = n) (hn : n ≤ 1000000) (hok : ∀ p ∈ ps, WrOk p) : WW w a n ps := by
  refine ⟨hl, by omega, fun j0 hj0 => ?_, hok⟩
  obtain ⟨h1, ⟨e, h2⟩ | ⟨g, cap, cur, e, hB, hg, hnc, hm, hs, ht⟩⟩ := h
  · cases e; omega
  · simp only [Value.slice.injEq, true_and] at e
    obtain ⟨rfl, rfl⟩ := e
    refine ⟨g, 0, rfl, fun j hj => ?_⟩
    have ho : w.ownsRow B 63 5 (.slice (some ⟨g, 0, none⟩) n c) n (cellsW ps) := ⟨h1, .inr ⟨g, c, cur, rfl, hB, hg, hnc, hm, hs, ht⟩⟩
    have key : ∀ r, r < 5 → w.cell? ⟨g, 0 + j * 5 + r, none⟩ = (writeCs (nthW ps j))[r]? := fun r hr => by
      rw [Nat.zero_add, ho.cellAt (j * 5 + r) (by omega)]
      exact cellsW_get ps j (by omega) r hr
    exact ⟨key 0 (by omega), key 1 (by omega), key 2 (by omega), key 3 (by omega), key 4 (by omega)⟩
theorem WW.sg5 {w : World} {a : Option Addr} {n : Nat} {ps : List (ByteArray × ActL)} (h : WW w a n ps) : SG w 5 a n (cellsW ps) := by
  refine ⟨by rw [cellsW_len, h.len], fun ad e j u hu => ?_, fun e => ?_, fun u hu => ?_⟩
  · have hjl : j < n * 5 := by
      have := (List.getElem?_eq_some_iff.1 hu).1
      rwa [cellsW_len, h.len] at this
    have hi : j / 5 < n := by omega
    obtain ⟨b, off, e', hc⟩ := h.cells (j / 5) hi
    rw [e] at e'
    obtain rfl := Option.some.inj e'
    have hg := cellsW_get ps (j / 5) (by rw [h.len]; exact hi) (j % 5) (by omega)
    rw [show j / 5 * 5 + j % 5 = j by omega, hu] at hg
    have hcc := hc (j / 5) hi
    rw [Addr.add_lit, show off + j = off + j / 5 * 5 + j % 5 by omega]
    have hr : j % 5 < 5 := by omega
    generalize j % 5 = r at hg hr
    match r, hr with
    | 0, _ => rw [Nat.add_zero, hcc.c0]; exact hg.symm
    | 1, _ => rw [hcc.c1]; exact hg.symm
    | 2, _ => rw [hcc.c2]; exact hg.symm
    | 3, _ => rw [hcc.c3]; exact hg.symm
    | 4, _ => rw [hcc.c4]; exact hg.symm
  · subst e
    by_cases hn : 0 < n
    · obtain ⟨b, off, e', _⟩ := h.cells 0 hn
      cases e'
    · omega
  · obtain ⟨p, _, hp⟩ := List.mem_flatMap.1 hu
    simp only [writeCs, List.mem_cons, List.not_mem_nil, or_false] at hp
    rcases hp with rfl | rfl | rfl | rfl | rfl <;> rfl
theorem WW.fr {S : Nat → Prop} {w w' : World} (h : Fr S w w') {a : Option Addr} {n : Nat} {ps : List (ByteArray × ActL)} (hp : WW w a n ps) (hs : ∀ b off, a = some ⟨b, off, none⟩ → 0 < n → ¬ S b) : WW w' a n ps := by
  refine ⟨hp.len, hp.cap, fun j0 hj0 => ?_, hp.ok⟩
  obtain ⟨b, off, e, hc⟩ := hp.cells j0 hj0
  have hS := hs b off e (by omega)
  exact ⟨b, off, e, fun j hj => ⟨h.cell (hc j hj).c0 hS, h.cell (hc j hj).c1 hS, h.cell (hc j hj).c2 hS, h.cell (hc j hj).c3 hS, h.cell (hc j hj).c4 hS⟩⟩
/-- the marks -/
def markW (i f n : Nat) : List (ByteArray × ActL) := (List.range n).map fun k => (nameB i (f + k), ⟨0, 0, 0, ⟨#[]⟩⟩)
def mkW : MK := ⟨5, fun i k => writeCs (nameB i k, ⟨0, 0, 0, ⟨#[]⟩⟩), fun _ _ => rfl, by decide⟩
theorem markW_len (i f n : Nat) : (markW i f n).length = n := by simp [markW]
theorem markW_cells (i f n : Nat) : cellsW (markW i f n) = mkW.row i f n := by
  unfold cellsW markW MK.row
  rw [List.flatMap_map]
  rfl
theorem markW_ok (i f n : Nat) : ∀ p ∈ markW i f n, WrOk p := by
  intro p hp
  simp only [markW, List.mem_map, List.mem_range] at hp
  obtain ⟨k, _, rfl⟩ := hp
  exact ⟨by rw [nameB_size]; decide, (show ActL.Ok ⟨0, 0, 0, ⟨#[]⟩⟩ from ⟨by decide, by decide, by decide, by decide⟩)⟩
theorem bookSameWs_anyY (a : Option Addr) (n ca : Nat) (ps : List (ByteArray × ActL)) (b : Option Addr) (cb : Nat) (w : World) (hx : WW w a n ps) (hy : WW w b n ps) :
    Calls Tryz.prog 133 #[.slice a n ca, .slice b n cb] w fun e w' => e = .returned (.bool true) ∧ Bl w w' := by
  have h := bookSameWs_any a n ca ps b n cb ps w hx hy
  rwa [sameWs_refl ps] at h

set_option maxHeartbeats 1000000 in
theorem markWrites_any (i f n : Nat) (w : World) (hi250 : i < 250) (hf : f + n ≤ 100000) :
    Calls Tryz.prog 167 #[.int .i64 i, .int .i64 f, .int .i64 n] w fun e w' => ∃ v, e = .returned v ∧ w'.ownsRow w.heap.size 63 5 v n (mkW.row i f n) ∧ Bl w w' := by
  have hfi : (f : Int) + (n : Int) ≤ 100000 := by omega
  have hsf := store_fl
  go_enter Tryz.func167, Tryz.ntmps167
  go_wp2_with fail
  go_loopw [7, 8] (fun v c wr => ∃ k : Nat, k ≤ n ∧ c = .int .i64 ((f + k : Nat) : Int) ∧ Bl w wr ∧ wr.ownsRow w.heap.size 63 5 v k (mkW.row i f k)) (fun _ c _ => f + n - (intOf c).toNat)
  case atStart => exact ⟨0, Nat.zero_le _, rfl, Bl.refl _, World.ownsRow_nil _ _ _ _⟩
  case round =>
    obtain ⟨k, hk, rfl, hbl, hown⟩ := hrel
    have hbs := hbl.size
    obtain ⟨c, hc⟩ : ∃ c, f + k = c := ⟨_, rfl⟩
    rw [hc]
    by_cases hlt : k < n
    · have hlt2 : (c : Int) < (f : Int) + (n : Int) := by omega
      have hlt3 : c < f + n := by omega
      have hcb : c < 100000 := by omega
      have HC := Lib.hid hc
      clear hc
      go_wp2_with fail
      refine (name_any i c wr hi250 hcb).mono ?_
      rintro e W1 ⟨rfl, hb1⟩
      obtain ⟨nm, hnm⟩ : ∃ x, nameB i c = x := ⟨_, rfl⟩
      have HNM := Lib.hid hnm
      rw [hnm]
      have hbA := hb1.alloc (.cells #[.string nm, .int .i64 0, .float .f64 0, .int .i64 0, .string ⟨#[]⟩] 63)
      have howA := ownsRow_bl hown hbA
      have hsz := hbA.size
      have HBA := Lib.hid (hbl.trans hbA)
      have HOA := Lib.hid howA
      clear hnm hb1 hown howA hbA hbl
      go_wp2_with (at_builtin; refine wpList_appG rfl _ _ _ rfl el_wr w.heap.size _ _ _ rfl HOA.out ?c1 _ 1 1 [.string nm, .int .i64 0, .float .f64 0, .int .i64 0, .string ⟨#[]⟩] rfl (SG.lit (heap_alloc_new _ _) rfl (by simp [Value.oneCell'])) ?c2 ?c3 ?_)
      case c1 => omega
      case c2 => unfold maxLen; omega
      case c3 => omega
      intro v' w1 hown' hgrow
      have HB1 := Lib.hid (HBA.out.ownRow HOA.out (Nat.le_refl _) hgrow)
      have HO1 := Lib.hid (show w1.ownsRow w.heap.size 63 5 v' (k + 1) (mkW.row i f (k + 1)) by
        rw [mkW.row_succ, HC.out]
        show w1.ownsRow w.heap.size 63 5 v' (k + 1) (mkW.row i f k ++ writeCs (nameB i c, ⟨0, 0, 0, ⟨#[]⟩⟩))
        rw [HNM.out]
        exact hown')
      clear hown' hgrow HBA HOA
      go_wp2_with fail
      go_roundw
      case rel => exact ⟨k + 1, by omega, by have := HC.out; go_num, HB1.out, HO1.out⟩
      case measure => simp [intOf]; omega
    · have hge : ¬ ((c : Int) < (f : Int) + (n : Int)) := by omega
      have e1 : k = n := by omega
      subst e1
      go_wp2_with fail
      go_ret
      exact ⟨_, rfl, hown, hbl⟩
end Go.Proofs.YtfmabjoindlfeaaGreat
end

/- bedrockbook over Writes that are kept: stillWrites, markedWrites. By an AI agent. -/
section
namespace Go.Proofs.YtfmabjoindlfeaaGreat
open Go.RowKit
attribute [local go_sem] eOp eOper eUpon

/-- a list and its copy read alike -/
def TwoW (v u : Value) (W : World) (D : Nat → Prop) : Prop := ∃ (ps : List (ByteArray × ActL)) (a b : Option Addr) (n c d : Nat), v = .slice a n c ∧ u = .slice b n d ∧ WW W a n ps ∧ WW W b n ps ∧ (∀ x off, a = some ⟨x, off, none⟩ → 0 < n → D x) ∧ (∀ x off, b = some ⟨x, off, none⟩ → 0 < n → D x)
theorem TwoW.st {v u : Value} {W W' : World} {S D : Nat → Prop} (hf : Fr S W W') (hd : ∀ b, D b → ¬ S b) (h : TwoW v u W D) : TwoW v u W' D := by
  obtain ⟨ps, a, b, n, c, d, e1, e2, r1, r2, d1, d2⟩ := h
  exact ⟨ps, a, b, n, c, d, e1, e2, r1.fr hf (fun x off e hn => hd x (d1 x off e hn)), r2.fr hf (fun x off e hn => hd x (d2 x off e hn)), d1, d2⟩
theorem stillWrites_any (g : Nat) (va ua : Option Addr) (n cv cu : Nat) (vs us : Nat → Value) (D : Nat → Nat → Prop) (w : World) (hn : n ≤ 250) (hc4 : w.cell? ⟨g, 12, none⟩ = some (.slice va n cv)) (hc5 : w.cell? ⟨g, 13, none⟩ = some (.slice ua n cu))
    (hv : LA w va n vs) (hu : LA w ua n us) (h : ∀ j, j < n → TwoW (vs j) (us j) w (D j)) :
    Calls Tryz.prog 60 #[.pointer (some ⟨g, 0, none⟩)] w fun e w' => e = .returned (.bool true) ∧ Bl w w' := by
  have HC4 := Lib.hid hc4
  have HC5 := Lib.hid hc5
  have HH := Lib.hid h
  clear hc4 hc5 h
  go_enter Tryz.func60, Tryz.ntmps60
  go_wp2_with fail
  go_loopw [3] (fun i w' => ∃ k : Nat, k ≤ n ∧ i = .int .i64 k ∧ Bl w w') (fun i _ => n - (intOf i).toNat)
  case atStart => exact ⟨0, Nat.zero_le _, rfl, Bl.refl _⟩
  case round =>
    obtain ⟨k, hk, rfl, hbl⟩ := hrel
    have c4 := hbl.cell HC4.out
    by_cases hlt : k < n
    · obtain ⟨b, off, rfl, hcv⟩ := hv k hlt
      obtain ⟨b2, off2, rfl, hcu⟩ := hu k hlt
      obtain ⟨ps, a1, a2, n1, c1, c2, e1, e2, I1, I2, -, -⟩ := HH.out k hlt
      have HV := Lib.hid (hcv k hlt)
      have HU := Lib.hid (hcu k hlt)
      rw [e1] at HV
      rw [e2] at HU
      have HS := Lib.hid (fun (W : World) (hb : Bl w W) => bookSameWs_anyY a1 n1 c1 ps a2 c2 W (I1.keep hb) (I2.keep hb))
      clear e1 e2 I1 I2 hcv hcu
      go_upto_region 4 with fail
      refine wp_region_extall (by kernel_rfl) (by kernel_rfl) ?_
      have HBZ := Lib.hid hbl.drew
      generalize World.drew _ = Z at *
      clear c4
      have p0 : ∀ q : Ext Z, _ := fun q => (HBZ.out.trans q.bl).cell HC4.out
      have p1 : ∀ q : Ext Z, _ := fun q => (HBZ.out.trans q.bl).cell HC5.out
      have p2 : ∀ q : Ext Z, _ := fun q => (HBZ.out.trans q.bl).cell HV.out
      have p3 : ∀ q : Ext Z, _ := fun q => (HBZ.out.trans q.bl).cell HU.out
      repeat (refine wpE_step (fun K hK => ?_); go_simp; first | (refine hK _ ?_; clear hK K) | (apply Exists.intro; refine ⟨fun q => ?_, hK _ ?_⟩; (with_reducible exact HS.out _ (HBZ.out.trans q.bl)); clear hK K))
      refine wpE_nil ?_
      intro q9
      have HBX := Lib.hid (HBZ.out.trans q9.bl)
      clear p0 p1 p2 p3 HBZ
      generalize ExtC.at q9 = X at *
      go_wp2_with fail
      go_roundw
      case rel => exact ⟨k + 1, by omega, by go_num, HBX.out⟩
      case measure => simp [intOf]; omega
    · go_wp2_with fail
      go_ret
      exact ⟨rfl, hbl⟩

theorem markedWrites_any (la : Option Addr) (n lc : Nat) (vs : Nat → Value) (ms : Nat → Nat) (B : Nat) (w : World) (hn : n ≤ 250) (hv : LA w la n vs) (h : ∀ j, j < n → w.ownsRow B 63 5 (vs j) (ms j) (mkW.row j 0 (ms j)) ∧ ms j ≤ 100000) :
    Calls Tryz.prog 105 #[.slice la n lc] w fun e w' => e = .returned (.bool true) ∧ Bl w w' := by
  have HH := Lib.hid h
  clear h
  go_enter Tryz.func105, Tryz.ntmps105
  go_wp2_with fail
  go_loopw [3] (fun i w' => ∃ k : Nat, k ≤ n ∧ i = .int .i64 k ∧ Bl w w') (fun i _ => n - (intOf i).toNat)
  case atStart => exact ⟨0, Nat.zero_le _, rfl, Bl.refl _⟩
  case round =>
    obtain ⟨k, hk, rfl, hbl⟩ := hrel
    by_cases hlt : k < n
    · obtain ⟨b, off, rfl, hcv⟩ := hv k hlt
      obtain ⟨ho, hm⟩ := HH.out k hlt
      obtain ⟨a1, c1, e1⟩ := row_shape' ho
      have HV := Lib.hid (hcv k hlt)
      rw [e1] at HV ho
      obtain ⟨n1, hn1⟩ : ∃ n1, ms k = n1 := ⟨_, rfl⟩
      rw [hn1] at HV ho hm
      have HI := Lib.hid (WW.own (by rw [markW_cells]; exact ho) (markW_len k 0 n1) (by omega) (markW_ok k 0 n1))
      clear e1 ho hcv hn1
      go_upto_region 4 with fail
      refine wp_region_idx [0, 1, 2, 3, 4, 5, 6, 7, 8, 9] 3 (Bl w) (fun _ _ h k => h.trans k) hbl.drew (by kernel_rfl) rfl (by kernel_rfl) (by kernel_rfl) ?_
      have HBZ := Lib.hid hbl.drew
      generalize World.drew _ = Z at *
      clear hbl
      haveI : Nonempty (ExtC (Bl w)) := ⟨⟨Z, HBZ.out⟩⟩
      have p2 : ∀ q : ExtC (Bl w), _ := fun q => q.ok.cell HV.out
      repeat (refine wpI_step rfl (fun K hK => ?_); go_simp; first | (refine hK _ ?_; clear hK K) | (apply Exists.intro; refine ⟨fun q => ?_, hK _ ?_⟩; fail; clear hK K))
      refine wpI_nil ?_
      clear p2 this
      refine wpAnyE_one (i := 10) (by kernel_rfl) ?_
      intro X1 hx1
      have HB1 := Lib.hid (HBZ.out.trans hx1)
      clear HBZ hx1
      go_simp
      refine (markWrites_any k 0 n1 X1 (by omega) (by omega)).mono ?_
      rintro e X2 ⟨v, rfl, hf, hb2⟩
      have HB2 := Lib.hid (HB1.out.trans hb2)
      obtain ⟨a2, c2, rfl⟩ := row_shape' hf
      have HI2 := Lib.hid (WW.own (by rw [markW_cells]; exact hf) (markW_len k 0 n1) (by omega) (markW_ok k 0 n1))
      clear HB1 hb2 hf
      go_simp
      refine ⟨HB2.out, ?_⟩
      refine wpAnyE_one (i := 11) (by kernel_rfl) ?_
      intro X3 hx3
      have HB3 := Lib.hid (HB2.out.trans hx3)
      go_simp
      refine (bookSameWs_anyY a1 n1 c1 (markW k 0 n1) a2 c2 X3 (HI.out.keep HB3.out) (HI2.out.keep hx3)).mono ?_
      rintro e X4 ⟨rfl, hb4⟩
      have HB4 := Lib.hid (HB3.out.trans hb4)
      clear HB3 HB2 hx3 hb4 HI2
      go_simp
      refine ⟨HB4.out, ?_⟩
      refine wpAnyE_one (i := 12) (by kernel_rfl) ?_
      intro X5 hx5
      have HB5 := Lib.hid (HB4.out.trans hx5)
      clear HB4 hx5
      go_simp
      refine ⟨HB5.out, ?_⟩
      refine wpAnyE_done (by kernel_rfl) ?_
      intro X6 hx6
      have HB6 := Lib.hid (HB5.out.trans hx6)
      clear HB5 hx6
      go_wp2_with fail
      go_roundw
      case rel => exact ⟨k + 1, by omega, by go_num, HB6.out⟩
      case measure => simp [intOf]; omega
    · go_wp2_with fail
      go_ret
      exact ⟨rfl, hbl⟩
end Go.Proofs.YtfmabjoindlfeaaGreat
end

/- bedrockbook over Writes that are kept: putWrites. By an AI agent. -/
section
namespace Go.Proofs.YtfmabjoindlfeaaGreat
open Go.RowKit
attribute [local go_sem] eOp eOper eUpon

set_option maxHeartbeats 2000000 in
set_option maxRecDepth 100000 in
theorem putWrites_any (B g : Nat) (va : Option Addr) (n cv : Nat) (vs : Nat → Value) (ln : Nat → Nat) (cs : Nat → List Value) (w : World) (hn : n ≤ 250) (hc4 : w.cell? ⟨g, 12, none⟩ = some (.slice va n cv)) (hv : LA w va n vs)
    (h : ∀ j, j < n → w.ownsRow B 63 5 (vs j) (ln j) (cs j) ∧ ln j ≤ 100000) (hap : ∀ i j, i < n → j < n → i ≠ j → (vs i).ownBlock = none ∨ (vs i).ownBlock ≠ (vs j).ownBlock)
    (hg : ¬ SBk n vs g) (hva : ∀ b off, va = some ⟨b, off, none⟩ → ¬ SBk n vs b) :
    Calls Tryz.prog 79 #[.pointer (some ⟨g, 0, none⟩)] w fun e w' => e = .returned (.tuple #[]) ∧ Fr (SBk n vs) w w' ∧ ∀ j, j < n → w'.ownsRow B 63 5 (vs j) (ln j) (mkW.row j 0 (ln j)) := by
  have hsf := store_fl
  have HC4 := Lib.hid hc4
  have HH := Lib.hid h
  have HAP := Lib.hid hap
  have HG := Lib.hid hg
  have HVA := Lib.hid hva
  have HLT := Lib.hid (show ∀ b, SBk n vs b → b < w.heap.size from fun b ⟨j, hj, e⟩ => (World.ownsRow.lt (h j hj).1 b e).2)
  have HLEN := Lib.hid (show ∀ j, j < n → (cs j).length = ln j * mkW.z from fun j hj => (h j hj).1.1)
  clear hc4 h hap hg hva
  go_enter Tryz.func79, Tryz.ntmps79
  go_wp2_with fail
  go_loopw [2] (fun i w' => ∃ k : Nat, k ≤ n ∧ i = .int .i64 k ∧ Fr (SBk n vs) w w' ∧ ∀ j, j < n → w'.ownsRow B 63 5 (vs j) (ln j) (curC mkW cs ln k 0 j)) (fun i _ => n - (intOf i).toNat)
  case atStart => exact ⟨0, Nat.zero_le _, rfl, Fr.refl _ _, fun j hj => by rw [curC_zero]; exact (HH.out j hj).1⟩
  case round =>
    obtain ⟨k, hk, rfl, hfr, hoi⟩ := hrel
    have HFR := Lib.hid hfr
    have HOI := Lib.hid hoi
    clear hfr hoi
    have c4 := HFR.out.cell HC4.out HG.out
    by_cases hlt : k < n
    · obtain ⟨b, off, rfl, hcv⟩ := hv k hlt
      have hcv' := HFR.out.cell (hcv k hlt) (HVA.out b off rfl)
      obtain ⟨a1, c1, e1⟩ := row_shape' (HOI.out k hlt)
      have hmx := (HH.out k hlt).2
      have hgi : 0 < ln k → ∃ gi, a1 = some ⟨gi, 0, none⟩ := fun hp => by
        have := HOI.out k hlt
        rw [e1] at this
        obtain ⟨_, ⟨e, h2⟩ | ⟨gi, cap, cur, e, _⟩⟩ := this
        · omega
        · simp only [Value.slice.injEq] at e; exact ⟨gi, e.1⟩
      obtain ⟨m, hm⟩ : ∃ m, ln k = m := ⟨_, rfl⟩
      rw [hm] at e1 hmx hgi
      have HM := Lib.hid hm
      have HE1 := Lib.hid e1
      rw [e1] at hcv'
      have HCV := Lib.hid (hcv k hlt)
      rw [e1] at HCV
      clear hm e1 hcv
      go_wp2_with fail
      refine (markWrites_any k 0 m wr (by omega) (by omega)).mono ?_
      rintro e W1 ⟨v, rfl, hf, hb1⟩
      obtain ⟨a2, c2, rfl⟩ := row_shape' hf
      have hna : ∀ b off, a2 = some ⟨b, off, none⟩ → 0 < m → ¬ SBk n vs b := fun b off e hp hs => by
        have hob : (Value.slice a2 m c2).ownBlock = some b := by
          obtain ⟨_, ⟨e3, h2⟩ | ⟨gi, cap, cur, e3, _⟩⟩ := hf
          · cases e3; omega
          · simp only [Value.slice.injEq] at e3; rw [e3.1] at e; cases e; rw [e3.1]; rfl
        have h1 := (World.ownsRow.lt hf b hob).1
        have h2 := HLT.out b hs
        have h3 := HFR.out.size
        omega
      have HNA := Lib.hid hna
      have HF1 := Lib.hid (HFR.out.bl hb1)
      have HO1 := Lib.hid (fun j (hj : j < n) => ownsRow_bl (HOI.out j hj) hb1)
      have HI2 := Lib.hid (WW.own (by rw [markW_cells]; exact hf) (markW_len k 0 m) (by omega) (markW_ok k 0 m))
      clear HFR HOI hf hb1 hna c4 hcv'
      go_wp2_with fail
      go_loopw [4] (fun t Y => ∃ q : Nat, q ≤ m ∧ t = .int .i64 q ∧ Fr (SBk n vs) W1 Y ∧ ∀ j, j < n → Y.ownsRow B 63 5 (vs j) (ln j) (curC mkW cs ln k q j)) (fun t _ => m - (intOf t).toNat)
      case atStart => exact ⟨0, Nat.zero_le _, rfl, Fr.refl _ _, HO1.out⟩
      case round =>
        obtain ⟨q, hq, rfl, hfy, hoy⟩ := hrel
        have HFY := Lib.hid hfy
        have HOY := Lib.hid hoy
        clear hfy hoy
        by_cases hql : q < m
        · obtain ⟨gi, rfl⟩ := hgi (by omega)
          obtain ⟨b2, off2, rfl, hmc⟩ := HI2.out.cells q hql
          have HMC := Lib.hid (HI2.out.fr HFY.out (fun b off e hp => HNA.out b off e hp))
          have HCY := Lib.hid ((HF1.out.trans HFY.out).cell HC4.out HG.out)
          have HRY := Lib.hid ((HF1.out.trans HFY.out).cell HCV.out (HVA.out b off rfl))
          have HOK := Lib.hid (show wr.ownsRow B 63 5 (.slice (some ⟨gi, 0, none⟩) m c1) m (curC mkW cs ln k q k) from by have h := HOY.out k hlt; rw [HE1.out, HM.out] at h; exact h)
          have HMK := Lib.hid (show nthW (markW k 0 m) q = (nameB k q, ⟨0, 0, 0, ⟨#[]⟩⟩) by
            rw [nthW_eq (by rw [markW_len]; exact hql)]
            simp [markW])
          obtain ⟨nm, hnm⟩ : ∃ x, nameB k q = x := ⟨_, rfl⟩
          have HNM := Lib.hid hnm
          rw [hnm] at HMK
          clear hnm hmc
          go_upto_region 7 with fail
          refine wp_region_idx [0, 1, 2, 3, 4, 5, 6, 7, 8, 9, 10, 11, 12] 1 (Fr (SBk n vs) wr) (fun _ _ h k => h.bl k) ((Fr.refl _ wr).bl (Bl.refl wr).drew) (by kernel_rfl) rfl (by kernel_rfl) (by kernel_rfl) ?_
          have HBZ := Lib.hid (Bl.refl wr).drew
          generalize hz : World.drew _ = Z at *
          clear hz
          haveI : Nonempty (ExtC (Fr (SBk n vs) wr)) := ⟨⟨Z, (Fr.refl _ wr).bl HBZ.out⟩⟩
          have p0 : ∀ q : ExtC (Fr (SBk n vs) wr), _ := fun q => q.ok.cell HCY.out HG.out
          have p1 : ∀ q : ExtC (Fr (SBk n vs) wr), _ := fun q => q.ok.cell HRY.out (HVA.out b off rfl)
          have PC : ∀ x : ExtC (Fr (SBk n vs) wr), WC x.at b2 (off2 + q * 5) (nm, ⟨0, 0, 0, ⟨#[]⟩⟩) := fun x => by
            have h1 := (HMC.out.fr x.ok (fun b off e hp => HNA.out b off e hp)).get (Bl.refl _) hql
            rwa [HMK.out] at h1
          have p2 : ∀ q : ExtC (Fr (SBk n vs) wr), _ := fun q => (PC q).c0
          have p3 : ∀ q : ExtC (Fr (SBk n vs) wr), _ := fun q => (PC q).c1
          have p4 : ∀ q : ExtC (Fr (SBk n vs) wr), _ := fun q => (PC q).c2
          have p5 : ∀ q : ExtC (Fr (SBk n vs) wr), _ := fun q => (PC q).c3
          have p6 : ∀ q : ExtC (Fr (SBk n vs) wr), _ := fun q => (PC q).c4
          dsimp only at p2 p3 p4 p5 p6
          repeat (refine wpI_step rfl (fun K hK => ?_); go_simp; first | (refine hK _ ?_; clear hK K) | (apply Exists.intro; refine ⟨fun q => ?_, hK _ ?_⟩; fail; clear hK K))
          refine wpI_nil ?_
          clear p0 p1 p2 p3 p4 p5 p6 PC this
          refine wpAnyE_one (i := 13) (by kernel_rfl) ?_
          intro X hx
          have HX := Lib.hid (HBZ.out.trans hx)
          have hok := ownsRow_bl HOK.out HX.out
          have hcl : (curC mkW cs ln k q k).length = m * 5 := hok.1
          obtain ⟨y0, y1, y2, y3, y4, x0, x1, x2, x3, x4, f0, f1, f2, f3, f4⟩ := own_fives hok (o := q * 5) (by omega)
          have hst := own_setCs [.string nm, .int .i64 0, .float .f64 0, .int .i64 0, .string ⟨#[]⟩] X _ (q * 5) hok
          clear hx hok hcl
          go_simp
          clear x0 x1 x2 x3 x4 f0 f1 f2 f3 f4
          obtain ⟨X2, hX2⟩ : ∃ x, (((((X.setCell ⟨gi, q * 5, none⟩ (.string nm)).setCell ⟨gi, q * 5 + 1, none⟩ (.int .i64 0)).setCell ⟨gi, q * 5 + 2, none⟩ (.float .f64 0)).setCell ⟨gi, q * 5 + 3, none⟩ (.int .i64 0)).setCell ⟨gi, q * 5 + 4, none⟩ (.string ⟨#[]⟩)) = x := ⟨_, rfl⟩
          rw [hX2]
          have HST := Lib.hid (show X2.ownsRow B 63 5 (.slice (some ⟨gi, 0, none⟩) m c1) m (setL (curC mkW cs ln k q k) (q * 5) [.string nm, .int .i64 0, .float .f64 0, .int .i64 0, .string ⟨#[]⟩]) ∧ X.grownBy X2 (some gi) from by rw [← hX2]; exact hst)
          clear hst hX2
          have hown : (vs k).ownBlock = some gi := by rw [HE1.out]; rfl
          have hfrS : Fr (SBk n vs) wr X2 := ((Fr.refl _ wr).bl HX.out).grown HST.out.2 (fun i e => by cases e; exact ⟨k, hlt, hown⟩)
          have hoi5 : ∀ j, j < n → X2.ownsRow B 63 5 (vs j) (ln j) (curC mkW cs ln k (q + 1) j) := fun j hj => by
            by_cases e : j = k
            · subst e
              have h1 := HST.out.1
              have hcs := curC_step (m := mkW) (cs := cs) (ln := ln) (k := j) (q := q) (HLEN.out j hj) (by rw [HM.out]; exact hql)
              have hel : mkW.el j q = [.string nm, .int .i64 0, .float .f64 0, .int .i64 0, .string ⟨#[]⟩] := by
                show writeCs (nameB j q, ⟨0, 0, 0, ⟨#[]⟩⟩) = _
                rw [HNM.out]; rfl
              rw [hel] at hcs
              have hcs' : setL (curC mkW cs ln j q j) (q * 5) [.string nm, .int .i64 0, .float .f64 0, .int .i64 0, .string ⟨#[]⟩] = curC mkW cs ln j (q + 1) j := hcs
              rw [hcs'] at h1
              rw [HE1.out, HM.out]
              exact h1
            · rw [curC_ne e]
              exact World.ownsRow.kept (ownsRow_bl (HOY.out j hj) HX.out) HST.out.2 (by rw [← hown]; exact HAP.out j k hj hlt e)
          have HFX := Lib.hid (HFY.out.trans hfrS)
          have HOX := Lib.hid hoi5
          refine ⟨hfrS, ?_⟩
          clear HST hown hfrS hoi5 HX HFY HOY HOK HCY HRY HMC HMK HNM
          refine wpAnyE_done (by kernel_rfl) ?_
          intro X3 hx3
          have HFX3 := Lib.hid (HFX.out.bl hx3)
          have HOX3 := Lib.hid (fun j (hj : j < n) => ownsRow_bl (HOX.out j hj) hx3)
          clear HFX HOX hx3
          go_wp2_with fail
          go_roundw
          case rel => exact ⟨q + 1, by omega, by go_num, HFX3.out, HOX3.out⟩
          case measure => simp [intOf]; omega
        · have hqe : q = m := by omega
          have HFN := Lib.hid (HF1.out.trans HFY.out)
          have HON := Lib.hid (fun j (hj : j < n) => (show wr.ownsRow B 63 5 (vs j) (ln j) (curC mkW cs ln (k + 1) 0 j) from by rw [← curC_next (HLEN.out k hlt), HM.out, ← hqe]; exact HOY.out j hj))
          clear hqe HFY HOY
          go_wp2_with fail
          go_roundw
          case rel => exact ⟨k + 1, by omega, by go_num, HFN.out, HON.out⟩
          case measure => simp [intOf]; omega
    · go_wp2_with fail
      go_end0
      have e1 : k = n := by omega
      subst e1
      exact ⟨rfl, HFR.out, fun j hj => by rw [← curC_end hj 0]; exact HOI.out j hj⟩
end Go.Proofs.YtfmabjoindlfeaaGreat
end

/- bedrockbook over Writes that are kept: growWrites. By an AI agent. -/
section
namespace Go.Proofs.YtfmabjoindlfeaaGreat
open Go.RowKit
attribute [local go_sem] eOp eOper eUpon

theorem el_rowsW : EL 35 24 1 24 := el_of Tryz.underlying35 (by kernel_rfl) (by decide)
theorem mkW_one (i f n : Nat) : ∀ u ∈ mkW.row i f n, u.oneCell' = true := by
  intro u hu
  simp only [MK.row, List.mem_flatMap, List.mem_range] at hu
  obtain ⟨k, _, hk⟩ := hu
  simp only [mkW, writeCs, List.mem_cons, List.mem_nil_iff, or_false] at hk
  rcases hk with rfl | rfl | rfl | rfl | rfl <;> rfl
set_option maxHeartbeats 2000000 in
set_option maxRecDepth 100000 in
theorem growWrites_any (B g : Nat) (va : Option Addr) (n cv : Nat) (vs : Nat → Value) (ms : Nat → Nat) (w : World) (hn : n ≤ 250) (hB : B ≤ w.heap.size) (hc4 : w.cell? ⟨g, 12, none⟩ = some (.slice va n cv)) (hv : LA w va n vs)
    (h : ∀ j, j < n → w.ownsRow B 63 5 (vs j) (ms j) (mkW.row j 0 (ms j)) ∧ ms j ≤ 50000) (hap : ∀ i j, i < n → j < n → i ≠ j → (vs i).ownBlock = none ∨ (vs i).ownBlock ≠ (vs j).ownBlock)
    (hg : ¬ SBk n vs g) (hva : ∀ b off, va = some ⟨b, off, none⟩ → ¬ SBk n vs b) :
    Calls Tryz.prog 90 #[.pointer (some ⟨g, 0, none⟩)] w fun e w' => ∃ out gs, e = .returned out ∧ GRk 63 24 mkW B n vs ms w w' n out gs := by
  have HC4 := Lib.hid hc4
  have HH := Lib.hid h
  have HAP := Lib.hid hap
  have HG := Lib.hid hg
  have HVA := Lib.hid hva
  have HLT := Lib.hid (show ∀ b, SBk n vs b → b < w.heap.size from fun b ⟨j, hj, e⟩ => (World.ownsRow.lt (h j hj).1 b e).2)
  clear hc4 h hap hg hva
  go_enter Tryz.func90, Tryz.ntmps90
  go_wp2_with fail
  go_loopw [3, 4] (fun out i w' => ∃ (k : Nat) (gs : Nat → Value), k ≤ n ∧ i = .int .i64 k ∧ GRk 63 24 mkW B n vs ms w w' k out gs) (fun _ i _ => n - (intOf i).toNat)
  case atStart => exact ⟨0, fun _ => undef, Nat.zero_le _, rfl, ⟨Fr.refl _ _, World.ownsRow_nil _ _ _ _, fun j hj => absurd hj (Nat.not_lt_zero _), fun j hj => (HH.out j hj).1, fun j hj => absurd hj (Nat.not_lt_zero _)⟩⟩
  case round =>
    obtain ⟨k, gs, hk, rfl, hgr⟩ := hrel
    have HGR := Lib.hid hgr
    clear hgr
    have c4 := HGR.out.fr.cell HC4.out HG.out
    by_cases hlt : k < n
    · obtain ⟨b, off, rfl, hcv⟩ := hv k hlt
      have hcv' := HGR.out.fr.cell (hcv k hlt) (HVA.out b off rfl)
      have hmx := (HH.out k hlt).2
      obtain ⟨m, hm⟩ : ∃ m, ms k = m := ⟨_, rfl⟩
      rw [hm] at hmx
      have hov := HGR.out.ovs k hlt
      rw [hm] at hov
      have HM := Lib.hid hm
      clear hm hcv
      obtain ⟨V, hV⟩ : ∃ V, vs k = V := ⟨_, rfl⟩
      rw [hV] at hcv' hov
      have HV := Lib.hid hV
      clear hV
      have HGL0 : Hid (GLk 63 5 (fun b => V.ownBlock = some b) B wr wr V V m 0 (mkW.row k 0 m) (mkW.row k m 0)) := Lib.hid ⟨Fr.refl _ _, by rw [MK.row_zero, List.append_nil]; exact hov, hov, fun b e => .inl e⟩
      clear hov
      go_wp2_with fail
      have hsz1 : w.heap.size ≤ wr.heap.size := HGR.out.fr.size
      obtain ⟨Wo, hWo⟩ : ∃ Wo, Wo = wr := ⟨_, rfl⟩
      subst hWo
      go_loopw [5, 6] (fun l t Y => ∃ q : Nat, q ≤ 12 ∧ t = .int .i64 q ∧ GLk 63 5 (fun b => V.ownBlock = some b) B Wo Y V l m q (mkW.row k 0 m) (mkW.row k m q)) (fun _ t _ => 12 - (intOf t).toNat)
      case atStart => exact ⟨0, by omega, rfl, HGL0.out⟩
      case round =>
        obtain ⟨q, hq, rfl, hgl⟩ := hrel
        have HGL := Lib.hid hgl
        clear hgl
        obtain ⟨la, lc, hl⟩ := row_shape' HGL.out.ol
        subst hl
        obtain ⟨L, hL⟩ : ∃ L, m + q = L := ⟨_, rfl⟩
        rw [hL] at HGL ⊢
        have hLb : L ≤ 50012 := by omega
        have HL := Lib.hid hL
        have hszY : w.heap.size ≤ wr.heap.size := Nat.le_trans hsz1 HGL.out.fr.size
        by_cases hql : q < 12
        · clear hL
          go_wp2_with fail
          refine (markWrites_any k L 1 wr (by omega) (by omega)).mono ?_
          rintro e W2 ⟨mv, rfl, hf, hb2⟩
          obtain ⟨a2, c2, rfl⟩ := row_shape' hf
          have HI2 := Lib.hid (sg_own hf (mkW_one k L 1))
          have HG2 := Lib.hid (HGL.out.keep hb2)
          have hsz2 := hb2.size
          clear hf hb2 HGL
          go_wp2_with (at_builtin; refine wpList_appK rfl _ _ _ rfl el_wr B _ L _ rfl (by have := HG2.out.ol; rwa [HL.out] at this) ?cB a2 1 c2 _ rfl HI2.out ?cM ?cN ?_)
          case cB => omega
          case cM => unfold maxLen; omega
          case cN => omega
          intro l' W3 ho3 hg3 hol3 hb3
          have hstep := HG2.out.step (p := 1) (zs := mkW.row k L 1) (fun b e => e) (by rw [HL.out]; rw [List.append_assoc]; exact ho3) hg3 (by rw [HL.out]; exact hol3) hb3
          rw [← HL.out] at hstep
          rw [MK.row_add] at hstep
          have HG3 := Lib.hid hstep
          clear hstep ho3 hg3 hol3 hb3 HG2 HI2 hsz2
          go_wp2_with fail
          go_roundw
          case rel => exact ⟨q + 1, by omega, by go_num, HG3.out⟩
          case measure => simp [intOf]; omega
        · have hq12 : q = 12 := by omega
          subst hq12
          clear hL
          go_wp2_with fail
          refine (markWrites_any k L 60 wr (by omega) (by omega)).mono ?_
          rintro e W2 ⟨mv, rfl, hf, hb2⟩
          obtain ⟨a2, c2, rfl⟩ := row_shape' hf
          have HI2 := Lib.hid (sg_own hf (mkW_one k L 60))
          have HG2 := Lib.hid (HGL.out.keep hb2)
          have hsz2 := hb2.size
          clear hf hb2 HGL
          go_wp2_with (at_builtin; refine wpList_appK rfl _ _ _ rfl el_wr B _ L _ rfl (by have := HG2.out.ol; rwa [HL.out] at this) ?cB a2 60 c2 _ rfl HI2.out ?cM ?cN ?_)
          case cB => omega
          case cM => unfold maxLen; omega
          case cN => omega
          intro l' W3 ho3 hg3 hol3 hb3
          have hstep := HG2.out.step (p := 60) (zs := mkW.row k L 60) (fun b e => e) (by rw [HL.out]; rw [List.append_assoc]; exact ho3) hg3 (by rw [HL.out]; exact hol3) hb3
          rw [← HL.out] at hstep
          rw [MK.row_add] at hstep
          have hstep' : GLk 63 mkW.z (fun b => V.ownBlock = some b) B Wo W3 V l' m 72 (mkW.row k 0 m) (mkW.row k m 72) := hstep
          rw [← HV.out, ← HM.out] at hstep'
          have hgm := HGR.out.grown hlt HAP.out HLT.out hstep' hk
          have HGM := Lib.hid hgm
          obtain ⟨a3, c3, hl3⟩ := row_shape' hgm.ol
          obtain ⟨n3, hn3⟩ : ∃ n3, ms k + 72 = n3 := ⟨_, rfl⟩
          rw [hn3] at hl3
          subst hl3
          have hsz3 := hg3.size
          clear hstep hstep' hgm ho3 hg3 hol3 hb3 HG2 HI2 hn3
          have hbA := (Bl.refl W3).alloc (.cells #[.slice a3 n3 c3] 24)
          have HGA := Lib.hid (HGM.out.keep hbA)
          have hlit : (W3.alloc (.cells #[.slice a3 n3 c3] 24)).heap[W3.heap.size]? = some (.cells [.slice a3 n3 c3].toArray 24 (0, 0)) := heap_alloc_new W3 _
          have HLT0 := Lib.hid (SG.lit (size := 1) hlit rfl (by intro u hu; simp at hu; subst hu; rfl))
          have hsz4 := hbA.size
          clear hlit hbA
          go_wp2_with (at_builtin; refine wpList_appK rfl _ _ _ rfl el_rowsW w.heap.size _ _ _ rfl HGA.out.r.row ?cB2 (some ⟨W3.heap.size, 0, none⟩) 1 1 _ rfl HLT0.out ?cM2 ?cN2 ?_)
          case cB2 => omega
          case cM2 => unfold maxLen; omega
          case cN2 => omega
          intro out' W4 ho4 hg4 _ hb4
          have HR4 := Lib.hid (HGA.out.step hlt HLT.out ho4 hg4 (fun b e => (hb4 b e).imp_right (fun h => by simpa using h)))
          clear ho4 hg4 hb4 HGA HGM HLT0 HGR
          go_wp2_with fail
          go_roundw
          case rel => exact ⟨k + 1, _, by omega, by go_num, HR4.out⟩
          case measure => simp [intOf]; omega
    · go_wp2_with fail
      go_ret
      have e1 : k = n := by omega
      subst e1
      exact ⟨_, gs, rfl, HGR.out⟩
end Go.Proofs.YtfmabjoindlfeaaGreat
end

/- bedrockbook.Book.Writes: one more list is kept. By an AI agent. -/
section
set_option linter.unusedVariables false
namespace Go.Proofs.YtfmabjoindlfeaaGreat
open Go.RowKit
attribute [local go_sem] eOp eOper eUpon pOp pOper pUpon

theorem copyWrites_any (a : Option Addr) (n c : Nat) (ps : List (ByteArray × ActL)) (w : World) (hx : WW w a n ps) :
    Calls Tryz.prog 142 #[.slice a n c] w fun e w' => ∃ v, e = .returned v ∧ w'.ownsRow w.heap.size 63 5 v n (cellsW ps) ∧ Bl w w' := by
  have hcap := hx.cap
  have HX := Lib.hid hx.sg5
  clear hx
  go_enter Tryz.func142, Tryz.ntmps142
  go_wp2_with (at_builtin; refine wpList_appG rfl _ _ _ rfl el_wr w.heap.size (.slice none 0 0) 0 [] rfl (World.ownsRow_nil _ _ _ _) (Nat.le_refl _) a n c _ rfl HX.out ?cM ?cN ?_)
  case cM => unfold maxLen; omega
  case cN => omega
  intro v w1 ho hg
  have hb : Bl w w1 := (Bl.refl w).ownRow (World.ownsRow_nil w w.heap.size 63 5) (Nat.le_refl _) hg
  have hoi : w1.ownsRow w.heap.size 63 5 v n (cellsW ps) := by simpa using ho
  have HB := Lib.hid hb
  have HO := Lib.hid hoi
  clear ho hg hb hoi
  go_wp2_with fail
  go_ret
  exact ⟨_, rfl, HO.out, HB.out⟩
/-- the copy reads as the list -/
def CpW (ps : List (ByteArray × ActL)) (u : Value) (W : World) (D : Nat → Prop) : Prop := ∃ a n c, u = .slice a n c ∧ WW W a n ps ∧ ∀ x off, a = some ⟨x, off, none⟩ → 0 < n → D x
set_option maxHeartbeats 2000000 in
set_option maxRecDepth 100000 in
theorem regWrites_any (B g n : Nat) (hs : List Value) (vv wv : Value) (vcs ucs : List Value) (a : Option Addr) (nv c : Nat) (ps : List (ByteArray × ActL)) (w : World) (hn : n < 250) (hB : B ≤ w.heap.size) (hbox : AC w g hs) (hhl : hs.length = 30) (h4 : hs[12]? = some vv) (h5 : hs[13]? = some wv)
    (hv : w.ownsRow B 24 1 vv n vcs) (hu : w.ownsRow B 24 1 wv n ucs) (hgv : vv.ownBlock ≠ some g) (hgu : wv.ownBlock ≠ some g) (hvu : wv.ownBlock = none ∨ wv.ownBlock ≠ vv.ownBlock) (hx : WW w a nv ps) (hnv : nv ≤ 1000000)
    (hxg : ∀ b off, a = some ⟨b, off, none⟩ → 0 < nv → ¬ (b = g ∨ vv.ownBlock = some b ∨ wv.ownBlock = some b)) :
    Calls Tryz.prog 53 #[.pointer (some ⟨g, 0, none⟩), .slice a nv c] w fun e w' => e = .returned (.tuple #[]) ∧ ∃ vv' wv' u Dn, RPk 24 12 B (CpW ps) w w' g n hs vv wv vcs ucs (.slice a nv c) vv' wv' u Dn := by
  obtain ⟨va, cv, rfl⟩ := row_shape' hv
  have HBX := Lib.hid hbox
  have HU := Lib.hid hu
  have HV := Lib.hid hv
  have HX := Lib.hid hx
  have HXG := Lib.hid hxg
  have HGV := Lib.hid hgv
  have HGU := Lib.hid hgu
  have HVU := Lib.hid hvu
  have HH4 := Lib.hid h4
  have HH5 := Lib.hid h5
  have HHL := Lib.hid hhl
  have hgl := hbox.lt
  clear hu hv hx hxg hgv hgu hvu hbox h4 h5 hhl
  have c4 := HBX.out.at_ HH4.out
  have hn1 : decide ((n : Int) < 250) = true := decide_eq_true (by omega)
  have hn2 : decide (n < 250) = true := decide_eq_true hn
  go_enter Tryz.func53, Tryz.ntmps53
  have hbA := (Bl.refl w).alloc (.cells #[.slice a nv c] 24)
  have hlit : (w.alloc (.cells #[.slice a nv c] 24)).heap[w.heap.size]? = some (.cells [.slice a nv c].toArray 24 (0, 0)) := heap_alloc_new w _
  have HLT := Lib.hid (SG.lit (size := 1) hlit rfl (by intro u hu; simp at hu; subst hu; rfl))
  have hva := ownsRow_bl HV.out hbA
  have HBA := Lib.hid hbA
  clear hlit hbA
  go_wp2_with (at_builtin; refine wpList_appK rfl _ _ _ rfl el_rowsW B _ _ _ rfl hva ?cB (some ⟨w.heap.size, 0, none⟩) 1 1 _ rfl HLT.out ?cM ?cN ?_)
  case cB => simp; omega
  case cM => unfold maxLen; omega
  case cN => omega
  intro vv' w1 ho hg _ hb
  obtain ⟨va', cv', rfl⟩ := row_shape' ho
  have hfr : Fr (fun b => b = g ∨ (Value.slice va n cv).ownBlock = some b ∨ wv.ownBlock = some b) w w1 := ((Fr.refl _ w).bl HBA.out).grown hg (fun i e => .inr (.inl e))
  have hbx : AC w1 g hs := by
    have h1 := HBX.out.keep HBA.out
    obtain ⟨t, h2⟩ := h1
    exact ⟨t, by rw [hg.block g (lt_of_heap h2) (fun e => HGV.out e.symm)]; exact h2⟩
  have hu1 : w1.ownsRow B 24 1 wv n ucs := World.ownsRow.kept (ownsRow_bl HU.out HBA.out) hg HVU.out
  have c4' := hbx.at_ HH4.out
  have f4 := hbx.frozen 12
  have HFR := Lib.hid hfr
  have HB1 := Lib.hid hbx
  have HU1 := Lib.hid hu1
  have HO := Lib.hid ho
  have HBV := Lib.hid hb
  have HSZ := Lib.hid (show w.heap.size < w1.heap.size from by have := hg.size; simp at this; omega)
  clear c4 ho hg hb hfr hbx hu1 hva hn1 hn2 hgl
  go_upto_region 2 with fail
  have HFR2 := Lib.hid (HFR.out.grown (grown_set' w1 g 12 (.slice va' (n + 1) cv')) (fun i e => .inl (Option.some.inj e).symm))
  have HB2 := Lib.hid (HB1.out.setc 12 (.slice va' (n + 1) cv'))
  have hvg : (Value.slice va' (n + 1) cv').ownBlock ≠ some g := fun e => by
    rcases HBV.out g e with q | q
    · exact HGV.out q
    · have := HBX.out.lt; have := HBA.out.size; omega
  have HVG := Lib.hid hvg
  have HO2 := Lib.hid (World.ownsRow.kept HO.out (grown_set' w1 g 12 (.slice va' (n + 1) cv')) (.inr hvg))
  have HU2 := Lib.hid (World.ownsRow.kept HU1.out (grown_set' w1 g 12 (.slice va' (n + 1) cv')) (.inr HGU.out))
  have HX2 := Lib.hid (HX.out.fr HFR2.out HXG.out)
  have hsz2 : w.heap.size < (w1.setCell ⟨g, 12, none⟩ (.slice va' (n + 1) cv')).heap.size := by simp; exact HSZ.out
  have HSZ2 := Lib.hid hsz2
  obtain ⟨hs2, hhs2⟩ : ∃ x, hs.set 12 (.slice va' (n + 1) cv') = x := ⟨_, rfl⟩
  rw [hhs2] at HB2
  obtain ⟨ua, cu, hwv⟩ := row_shape' HU2.out
  subst hwv
  have H25 := Lib.hid (show hs2[13]? = some (.slice ua n cu) by rw [← hhs2, List.getElem?_set_ne (by decide)]; exact HH5.out)
  have HHS2 := Lib.hid hhs2
  clear hvg hsz2 f4 c4' HFR HB1 HO HU1 HLT hhs2
  generalize w1.setCell _ _ = w2 at *
  refine wp_region_panicsT [0, 1, 2, 3, 4, 5] 6 (HasBox g hs2) HasBox.keep (HB2.out.keep ((Bl.refl w2).drew)) [11] (fun c W' => False) ?hR (by kernel_rfl) rfl (by kernel_rfl) (by kernel_rfl) (by kernel_rfl) ?_
  case hR => intro c tt W' h; exact h.elim
  have HBZ := Lib.hid ((Bl.refl w2).drew)
  generalize w2.drew = Z at *
  have HBXZ := Lib.hid (HB2.out.keep HBZ.out)
  haveI : Nonempty (ExtC (HasBox g hs2)) := ⟨⟨Z, HBXZ.out⟩⟩
  have d5 : ∀ q : ExtC (HasBox g hs2), _ := fun q => AC.at_ q.ok H25.out
  repeat (refine wpI_step rfl (fun K hK => ?_); go_simp; first | (refine hK _ ?_; clear hK K) | (apply Exists.intro; refine ⟨fun q => ?_, hK _ ?_⟩; fail; clear hK K))
  refine wpI_nil ?_
  clear d5 this
  refine wpAnyP_one (i := 6) (by kernel_rfl) ?_
  intro Y1 hy1
  have HY1 := Lib.hid (HBZ.out.trans hy1)
  clear hy1
  go_simp
  refine (copyWrites_any a nv c ps Y1 (HX2.out.keep HY1.out)).mono ?_
  rintro e Y2 ⟨u, rfl, hfi, hb2⟩
  have HY2 := Lib.hid (HY1.out.trans hb2)
  have HFI := Lib.hid hfi
  have hszA := HY1.out.size
  obtain ⟨a5, c5, hu5⟩ := row_shape' hfi
  subst hu5
  clear hb2 hfi
  go_simp
  refine ⟨HB2.out.keep HY2.out, ?_⟩
  refine wpAnyP_one (i := 7) (by kernel_rfl) ?_
  intro Y3 hy3
  go_simp
  have hbl := hy3.alloc (.cells #[.slice a5 nv c5] 24)
  have hlit : (Y3.alloc (.cells #[.slice a5 nv c5] 24)).heap[Y3.heap.size]? = some (.cells [.slice a5 nv c5].toArray 24 (0, 0)) := heap_alloc_new Y3 _
  have HLT := Lib.hid (SG.lit (size := 1) hlit rfl (by intro u hu; simp at hu; subst hu; rfl))
  have HY3 := Lib.hid (HY2.out.trans hbl)
  have HFI3 := Lib.hid (ownsRow_bl HFI.out hbl)
  refine ⟨HB2.out.keep HY3.out, ?_⟩
  clear hlit hbl hy3 HFI HY2
  generalize Y3.alloc _ = Y4 at *
  generalize Y3.heap.size = gl at *
  refine wpAnyP_one (i := 8) (by kernel_rfl) ?_
  intro Y5 hy5
  have HY5 := Lib.hid (HY3.out.trans hy5)
  have HFI5 := Lib.hid (ownsRow_bl HFI3.out hy5)
  have HL5 := Lib.hid (HLT.out.keep hy5)
  have HU5 := Lib.hid (ownsRow_bl HU2.out HY5.out)
  have HB5 := Lib.hid (HB2.out.keep HY5.out)
  have HO5 := Lib.hid (ownsRow_bl HO2.out HY5.out)
  have hsz5 := HY5.out.size
  clear hy5 HFI3 HLT HY3
  refine pOp_appk rfl rfl _ _ _ rfl el_rowsW B (.slice ua n cu) n ucs rfl HU5.out (by have := HSZ2.out; omega) (some ⟨gl, 0, none⟩) 1 1 _ rfl HL5.out (by unfold maxLen; omega) (by omega) ?_
  intro wv' Y6 ho6 hg6 hb6
  have hul : ∀ b, (Value.slice ua n cu).ownBlock = some b → b < w.heap.size := fun b e => (World.ownsRow.lt HU.out b e).2
  have hvu' : (Value.slice va' (n + 1) cv').ownBlock = none ∨ (Value.slice va' (n + 1) cv').ownBlock ≠ (Value.slice ua n cu).ownBlock := by
    cases e : (Value.slice va' (n + 1) cv').ownBlock with
    | none => exact .inl rfl
    | some b =>
      refine .inr (fun e2 => ?_)
      rcases HBV.out b e with q | q
      · rcases HVU.out with r | r
        · rw [r] at e2; cases e2
        · exact r (e2.symm.trans q.symm)
      · have := hul b e2.symm; omega
  have hbx6 : AC Y6 g hs2 := by
    obtain ⟨t, h2⟩ := HB5.out
    exact ⟨t, by rw [hg6.block g (lt_of_heap h2) (fun e => HGU.out e.symm)]; exact h2⟩
  have hfo6 : Y6.ownsRow Y1.heap.size 63 5 (.slice a5 nv c5) nv (cellsW ps) := World.ownsRow.kept HFI5.out hg6 (by
    cases e : (Value.slice a5 nv c5).ownBlock with
    | none => exact .inl rfl
    | some b => exact .inr (fun e2 => by have := hul b e2.symm; have := (World.ownsRow.lt HFI5.out b e).1; have := HSZ2.out; omega))
  have HFI6 := Lib.hid hfo6
  have HO6 := Lib.hid (World.ownsRow.kept HO5.out hg6 hvu')
  have HB6 := Lib.hid hbx6
  have HW6 := Lib.hid ho6
  have HFR6 := Lib.hid ((HFR2.out.bl HY5.out).grown hg6 (fun i e => .inr (.inr e)))
  have HBU := Lib.hid (fun b (e : wv'.ownBlock = some b) => (hb6 b e).imp_right (fun q => Nat.le_trans (Nat.le_of_lt HSZ2.out) (Nat.le_trans hsz5 q)))
  have hau : ∀ b, (Value.slice a5 nv c5).ownBlock = some b → w2.heap.size ≤ b ∧ b < Y5.heap.size := fun b e => by
    have h1 := World.ownsRow.lt HFI5.out b e
    exact ⟨Nat.le_trans hszA h1.1, h1.2⟩
  have HAU : Hid (∀ b, (Value.slice a5 nv c5).ownBlock = some b → wv'.ownBlock ≠ some b) := Lib.hid (fun b e e2 => by
    have h1 := hau b e
    rcases hb6 b e2 with q | q
    · have := hul b q; have := HSZ2.out; omega
    · omega)
  have HAV : Hid (∀ b, (Value.slice a5 nv c5).ownBlock = some b → (Value.slice va' (n + 1) cv').ownBlock ≠ some b) := Lib.hid (fun b e e2 => by
    have h1 := hau b e
    have := (World.ownsRow.lt HO2.out b e2).2
    omega)
  have HAVU : Hid (wv'.ownBlock = none ∨ wv'.ownBlock ≠ (Value.slice va' (n + 1) cv').ownBlock) := Lib.hid (by
    cases e : wv'.ownBlock with
    | none => exact .inl rfl
    | some b =>
      refine .inr (fun e2 => ?_)
      rcases hb6 b e with q | q
      · rcases hvu' with r | r
        · rw [r] at e2; cases e2
        · exact r (e2.symm.trans q.symm)
      · have := (World.ownsRow.lt HO2.out b e2.symm).2; omega)
  have hwg : wv'.ownBlock ≠ some g := fun e => by
    rcases hb6 g e with q | q
    · exact HGU.out q
    · have := HBX.out.lt; have := HSZ2.out; omega
  have HWG := Lib.hid hwg
  refine ⟨fun _ => hbx6, ?_⟩
  simp only [Act.put, List.setIfInBounds_toArray]
  obtain ⟨wa, wc, hws⟩ := row_shape' ho6
  subst hws
  clear ho6 hg6 hb6 hul hvu' hbx6 hfo6 hau hwg HB5 HO5 HU5 HFI5 HL5 HY5 hsz5 HFR2 HO2 HU2 HX2 HB2
  refine wpAnyP_one (i := 9) (by kernel_rfl) ?_
  intro Y7 hy7
  go_simp
  refine ⟨HB6.out.keep hy7, ?_⟩
  refine wpAnyP_one (i := 10) (by kernel_rfl) ?_
  intro Y8 hy8
  go_simp
  refine ⟨HB6.out.keep (hy7.trans hy8), ?_⟩
  refine wpAnyP_one (i := 11) (by kernel_rfl) ?_
  intro Y9 hy9
  have HY9 := Lib.hid ((hy7.trans hy8).trans hy9)
  clear hy7 hy8 hy9
  have HB9 := Lib.hid (HB6.out.keep HY9.out)
  have c5' := HB9.out.at_ H25.out
  have f5' := HB9.out.frozen 13
  have HB10 := Lib.hid (HB9.out.setc 13 (.slice wa (n + 1) wc))
  have hgs := grown_set' Y9 g 13 (.slice wa (n + 1) wc)
  have HO10 := Lib.hid (World.ownsRow.kept (ownsRow_bl HO6.out HY9.out) hgs (.inr HVG.out))
  have HW10 := Lib.hid (World.ownsRow.kept (ownsRow_bl HW6.out HY9.out) hgs (.inr HWG.out))
  have hug : (Value.slice a5 nv c5).ownBlock ≠ some g := fun e => by
    have h1 := (World.ownsRow.lt HFI6.out g e).1
    have h2 := HBX.out.lt
    have h3 := HSZ2.out
    omega
  have HF10 := Lib.hid (World.ownsRow.kept (ownsRow_bl HFI6.out HY9.out) hgs (.inr hug))
  have HFR10 := Lib.hid ((HFR6.out.bl HY9.out).grown hgs (fun i e => .inl (Option.some.inj e).symm))
  clear hgs hug HO6 HW6 HFI6 HFR6 HB6 HB9 HY9
  go_simp
  clear c5' f5'
  generalize World.setCell _ _ _ = Y10 at *
  refine wpAnyP_done (by kernel_rfl) ?_
  intro Y11 hy11
  have HY := Lib.hid hy11
  clear hy11
  go_wp2_with fail
  go_end0
  have ho11 := ownsRow_bl HF10.out HY.out
  refine ⟨rfl, _, _, _, fun b => (Value.slice a5 nv c5).ownBlock = some b, ?_, ownsRow_bl HO10.out HY.out, ownsRow_bl HW10.out HY.out, ⟨a5, nv, c5, rfl, WW.own ho11 HX.out.len hnv HX.out.ok, fun x off e hp => ?_⟩, fun b e => ⟨(World.ownsRow.lt ho11 b e).2, ?_, HAV.out b e, HAU.out b e⟩, HFR10.out.bl HY.out, fun b e => (HBV.out b e).imp_right (fun q => by have := HBA.out.size; omega), HBU.out, HAVU.out⟩
  · rw [HHS2.out]; exact HB10.out.keep HY.out
  · obtain ⟨_, ⟨e3, h2⟩ | ⟨gi, cap, cur, e3, _⟩⟩ := ho11
    · cases e3; omega
    · simp only [Value.slice.injEq] at e3; rw [e3.1] at e ⊢; cases e; rfl
  · have h1 := (World.ownsRow.lt ho11 b e).1
    have h3 := HSZ2.out
    omega
theorem fullWrites_any (g : Nat) (hs : List Value) (va : Option Addr) (cv : Nat) (v : Value) (w : World) (hbox : AC w g hs) (h4 : hs[12]? = some (.slice va 250 cv)) :
    Calls Tryz.prog 53 #[.pointer (some ⟨g, 0, none⟩), v] w fun e w' => e = .returned (.tuple #[]) ∧ w = w' := by
  have c4 := hbox.at_ h4
  clear hbox h4
  go_enter Tryz.func53, Tryz.ntmps53
  go_wp2_with fail
  go_end0
  exact ⟨rfl, rfl⟩
end Go.Proofs.YtfmabjoindlfeaaGreat
end
