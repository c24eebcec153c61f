import Derived.Test.YtkpikmfijcffiaaGreatQTxnWritesUptoP3
import Derived.Test.YtkpikmfijcffiaaGreatQTxnWritesUptoP4
import Derived.Test.YtkpikmfijcffiaaGreatQTxnWritesUptoP12
import Derived.Test.YtkpikmfijcffiaaGreatQBookSW
import Derived.Deep.DeepCutAuto

/- bedrockbook over Writes: what they read as, their marks, their copies. By an AI agent. -/
section
namespace Go.Proofs.YtkpikmfijcffiaaGreat
open Go.RowKit

/-- an own row reads as what its cells are -/
theorem WW.own {B : Nat} {w : World} {a : Option Addr} {n c : Nat} {ps : List (ByteArray × ActL)} (h : w.ownsRow B 58 5 (.slice a n c) n (cellsW ps)) (hl : ps.length = n) (hn : n ≤ 1000000) (hok : ∀ p ∈ ps, WrOk p) : WW w a n ps := by
  refine ⟨hl, by omega, fun j0 hj0 => ?_, hok⟩
  obtain ⟨h1, ⟨e, h2⟩ | ⟨g, cap, cur, e, hB, hg, hnc, hm, hs, ht⟩⟩ := h
  · cases e; omega
  · simp only [Value.slice.injEq, true_and] at e
    obtain ⟨rfl, rfl⟩ := e
    refine ⟨g, 0, rfl, fun j hj => ?_⟩
    have ho : w.ownsRow B 58 5 (.slice (some ⟨g, 0, none⟩) n c) n (cellsW ps) := ⟨h1, .inr ⟨g, c, cur, rfl, hB, hg, hnc, hm, hs, ht⟩⟩
    have key : ∀ r, r < 5 → w.cell? ⟨g, 0 + j * 5 + r, none⟩ = (writeCs (nthW ps j))[r]? := fun r hr => by
      rw [Nat.zero_add, ho.cellAt (j * 5 + r) (by omega)]
      exact cellsW_get ps j (by omega) r hr
    exact ⟨key 0 (by omega), key 1 (by omega), key 2 (by omega), key 3 (by omega), key 4 (by omega)⟩
theorem WW.sg5 {w : World} {a : Option Addr} {n : Nat} {ps : List (ByteArray × ActL)} (h : WW w a n ps) : SG w 5 a n (cellsW ps) := by
  refine ⟨by rw [cellsW_len, h.len], fun ad e j u hu => ?_, fun e => ?_, fun u hu => ?_⟩
  · have hjl : j < n * 5 := by
      have := (List.getElem?_eq_some_iff.1 hu).1
      rwa [cellsW_len, h.len] at this
    have hi : j / 5 < n := by omega
    obtain ⟨b, off, e', hc⟩ := h.cells (j / 5) hi
    rw [e] at e'
    obtain rfl := Option.some.inj e'
    have hg := cellsW_get ps (j / 5) (by rw [h.len]; exact hi) (j % 5) (by omega)
    rw [show j / 5 * 5 + j % 5 = j by omega, hu] at hg
    have hcc := hc (j / 5) hi
    rw [Addr.add_lit, show off + j = off + j / 5 * 5 + j % 5 by omega]
    have hr : j % 5 < 5 := by omega
    generalize j % 5 = r at hg hr
    match r, hr with
    | 0, _ => rw [Nat.add_zero, hcc.c0]; exact hg.symm
    | 1, _ => rw [hcc.c1]; exact hg.symm
    | 2, _ => rw [hcc.c2]; exact hg.symm
    | 3, _ => rw [hcc.c3]; exact hg.symm
    | 4, _ => rw [hcc.c4]; exact hg.symm
  · subst e
    by_cases hn : 0 < n
    · obtain ⟨b, off, e', _⟩ := h.cells 0 hn
      cases e'
    · omega
  · obtain ⟨p, _, hp⟩ := List.mem_flatMap.1 hu
    simp only [writeCs, List.mem_cons, List.not_mem_nil, or_false] at hp
    rcases hp with rfl | rfl | rfl | rfl | rfl <;> rfl
theorem WW.fr {S : Nat → Prop} {w w' : World} (h : Fr S w w') {a : Option Addr} {n : Nat} {ps : List (ByteArray × ActL)} (hp : WW w a n ps) (hs : ∀ b off, a = some ⟨b, off, none⟩ → 0 < n → ¬ S b) : WW w' a n ps := by
  refine ⟨hp.len, hp.cap, fun j0 hj0 => ?_, hp.ok⟩
  obtain ⟨b, off, e, hc⟩ := hp.cells j0 hj0
  have hS := hs b off e (by omega)
  exact ⟨b, off, e, fun j hj => ⟨h.cell (hc j hj).c0 hS, h.cell (hc j hj).c1 hS, h.cell (hc j hj).c2 hS, h.cell (hc j hj).c3 hS, h.cell (hc j hj).c4 hS⟩⟩
/-- the marks -/
def markW (i f n : Nat) : List (ByteArray × ActL) := (List.range n).map fun k => (nameB i (f + k), ⟨0, 0, 0, ⟨#[]⟩⟩)
def mkW : MK := ⟨5, fun i k => writeCs (nameB i k, ⟨0, 0, 0, ⟨#[]⟩⟩), fun _ _ => rfl, by decide⟩
theorem markW_len (i f n : Nat) : (markW i f n).length = n := by simp [markW]
theorem markW_cells (i f n : Nat) : cellsW (markW i f n) = mkW.row i f n := by
  unfold cellsW markW MK.row
  rw [List.flatMap_map]
  rfl
theorem markW_ok (i f n : Nat) : ∀ p ∈ markW i f n, WrOk p := by
  intro p hp
  simp only [markW, List.mem_map, List.mem_range] at hp
  obtain ⟨k, _, rfl⟩ := hp
  exact ⟨by rw [nameB_size]; decide, (show ActL.Ok ⟨0, 0, 0, ⟨#[]⟩⟩ from ⟨by decide, by decide, by decide, by decide⟩)⟩
theorem mkW_z : mkW.z = 5 := rfl
theorem bookSameWs_anyY (a : Option Addr) (n ca : Nat) (ps : List (ByteArray × ActL)) (b : Option Addr) (cb : Nat) (w : World) (hx : WW w a n ps) (hy : WW w b n ps) :
    Calls Tryz.prog 10 #[.slice a n ca, .slice b n cb] w fun e w' => e = .returned (.bool true) ∧ Bl w w' := by
  have h := bookSameWs_any a n ca ps b n cb ps w hx hy
  rwa [sameWs_refl ps] at h

set_option maxHeartbeats 1000000 in
theorem markWrites_any (i f n : Nat) (w : World) (hi250 : i < 250) (hf : f + n ≤ 100000) :
    Calls Tryz.prog 146 #[.int .i64 i, .int .i64 f, .int .i64 n] w fun e w' => ∃ v, e = .returned v ∧ w'.ownsRow w.heap.size 58 5 v n (mkW.row i f n) ∧ Bl w w' := by
  have hfi : (f : Int) + (n : Int) ≤ 100000 := by omega
  have hsf := store_fl
  go_enter Tryz.func146, Tryz.ntmps146
  go_wp2_with fail
  go_loopw [7, 8] (fun v c wr => ∃ k : Nat, k ≤ n ∧ c = .int .i64 ((f + k : Nat) : Int) ∧ Bl w wr ∧ wr.ownsRow w.heap.size 58 5 v k (mkW.row i f k)) (fun _ c _ => f + n - (intOf c).toNat)
  case atStart => exact ⟨0, Nat.zero_le _, rfl, Bl.refl _, World.ownsRow_nil _ _ _ _⟩
  case round =>
    obtain ⟨k, hk, rfl, hbl, hown⟩ := hrel
    have hbs := hbl.size
    obtain ⟨c, hc⟩ : ∃ c, f + k = c := ⟨_, rfl⟩
    rw [hc]
    by_cases hlt : k < n
    · have hlt2 : (c : Int) < (f : Int) + (n : Int) := by omega
      have hlt3 : c < f + n := by omega
      have hcb : c < 100000 := by omega
      have HC := Lib.hid hc
      clear hc
      go_wp2_with fail
      refine (name_any i c wr hi250 hcb).mono ?_
      rintro e W1 ⟨rfl, hb1⟩
      obtain ⟨nm, hnm⟩ : ∃ x, nameB i c = x := ⟨_, rfl⟩
      have HNM := Lib.hid hnm
      rw [hnm]
      have hbA := hb1.alloc (.cells #[.string nm, .int .i64 0, .float .f64 0, .int .i64 0, .string ⟨#[]⟩] 58)
      have howA := ownsRow_bl hown hbA
      have hsz := hbA.size
      have HBA := Lib.hid (hbl.trans hbA)
      have HOA := Lib.hid howA
      clear hnm hb1 hown howA hbA hbl
      go_wp2_with (at_builtin; refine wpList_appG rfl _ _ _ rfl el_wr w.heap.size _ _ _ rfl HOA.out ?c1 _ 1 1 [.string nm, .int .i64 0, .float .f64 0, .int .i64 0, .string ⟨#[]⟩] rfl (SG.lit (heap_alloc_new _ _) rfl (by simp [Value.oneCell'])) ?c2 ?c3 ?_)
      case c1 => omega
      case c2 => unfold maxLen; omega
      case c3 => omega
      intro v' w1 hown' hgrow
      have HB1 := Lib.hid (HBA.out.ownRow HOA.out (Nat.le_refl _) hgrow)
      have HO1 := Lib.hid (show w1.ownsRow w.heap.size 58 5 v' (k + 1) (mkW.row i f (k + 1)) by
        rw [mkW.row_succ, HC.out]
        show w1.ownsRow w.heap.size 58 5 v' (k + 1) (mkW.row i f k ++ writeCs (nameB i c, ⟨0, 0, 0, ⟨#[]⟩⟩))
        rw [HNM.out]
        exact hown')
      clear hown' hgrow HBA HOA
      go_wp2_with fail
      go_roundw
      case rel => exact ⟨k + 1, by omega, by have := HC.out; go_num, HB1.out, HO1.out⟩
      case measure => simp [intOf]; omega
    · have hge : ¬ ((c : Int) < (f : Int) + (n : Int)) := by omega
      have e1 : k = n := by omega
      subst e1
      go_wp2_with fail
      go_ret
      exact ⟨_, rfl, hown, hbl⟩
end Go.Proofs.YtkpikmfijcffiaaGreat
end

/- values that lie one behind the other. By an AI agent. -/
section
namespace Go.Proofs.YtkpikmfijcffiaaGreat
open Go.RowKit

/-- n values that lie one behind the other -/
def LA (W : World) (a : Option Addr) (n : Nat) (vs : Nat → Value) : Prop := ∀ j, j < n → ∃ b off, a = some ⟨b, off, none⟩ ∧ ∀ j, j < n → W.cell? ⟨b, off + j, none⟩ = some (vs j)
theorem LA.keep {W W' : World} {a : Option Addr} {n : Nat} {vs : Nat → Value} (h : LA W a n vs) (hb : Bl W W') : LA W' a n vs := fun j hj => by
  obtain ⟨b, off, e, hc⟩ := h j hj
  exact ⟨b, off, e, fun j hj => hb.cell (hc j hj)⟩
theorem Fr.la {S : Nat → Prop} {w w' : World} (h : Fr S w w') {a : Option Addr} {n : Nat} {vs : Nat → Value} (hl : LA w a n vs) (hs : ∀ b off, a = some ⟨b, off, none⟩ → ¬ S b) : LA w' a n vs := fun j hj => by
  obtain ⟨b, off, e, hc⟩ := hl j hj
  exact ⟨b, off, e, fun j hj => h.cell (hc j hj) (hs b off e)⟩
theorem Fr.ac {S : Nat → Prop} {w w' : World} (h : Fr S w w') {g : Nat} {cs : List Value} (ha : AC w g cs) (hs : ¬ S g) : AC w' g cs := by
  obtain ⟨t, ha⟩ := ha
  exact ⟨t, by rw [h.block g (lt_of_heap ha) hs]; exact ha⟩
theorem row_la {W : World} {B n : Nat} {E : TypeId} {out : Value} {gs : Nat → Value} (h : W.ownsRow B E 1 out n ((List.range n).map gs)) : ∃ oa oc, out = .slice oa n oc ∧ LA W oa n gs := by
  obtain ⟨h1, ⟨rfl, h2⟩ | ⟨g, cap, cur, rfl, hB, hg, hn, hm, hs, ht⟩⟩ := h
  · subst h2
    exact ⟨none, 0, rfl, fun j hj => absurd hj (Nat.not_lt_zero _)⟩
  · refine ⟨some ⟨g, 0, none⟩, cap, rfl, fun j0 hj0 => ⟨g, 0, rfl, fun j hj => ?_⟩⟩
    have := World.ownsRow.cellAt (w := W) (base := B) (e := E) (size := 1) (g := g) (n := n) (cap := cap) ⟨h1, .inr ⟨g, cap, cur, rfl, hB, hg, hn, hm, hs, ht⟩⟩ j (by omega)
    rw [Nat.zero_add, this]
    simp [hj]
end Go.Proofs.YtkpikmfijcffiaaGreat
end

/- bedrockbook over Writes that are kept: stillWrites, markedWrites. By an AI agent. -/
section
namespace Go.Proofs.YtkpikmfijcffiaaGreat
open Go.RowKit
attribute [local go_sem] eOp eOper eUpon

/-- a list and its copy read alike -/
def TwoW (v u : Value) (W : World) (D : Nat → Prop) : Prop := ∃ (ps : List (ByteArray × ActL)) (a b : Option Addr) (n c d : Nat), v = .slice a n c ∧ u = .slice b n d ∧ WW W a n ps ∧ WW W b n ps ∧ (∀ x off, a = some ⟨x, off, none⟩ → 0 < n → D x) ∧ (∀ x off, b = some ⟨x, off, none⟩ → 0 < n → D x)
theorem TwoW.st {v u : Value} {W W' : World} {S D : Nat → Prop} (hf : Fr S W W') (hd : ∀ b, D b → ¬ S b) (h : TwoW v u W D) : TwoW v u W' D := by
  obtain ⟨ps, a, b, n, c, d, e1, e2, r1, r2, d1, d2⟩ := h
  exact ⟨ps, a, b, n, c, d, e1, e2, r1.fr hf (fun x off e hn => hd x (d1 x off e hn)), r2.fr hf (fun x off e hn => hd x (d2 x off e hn)), d1, d2⟩
theorem stillWrites_any (g : Nat) (va ua : Option Addr) (n cv cu : Nat) (vs us : Nat → Value) (D : Nat → Nat → Prop) (w : World) (hn : n ≤ 250) (hc4 : w.cell? ⟨g, 12, none⟩ = some (.slice va n cv)) (hc5 : w.cell? ⟨g, 13, none⟩ = some (.slice ua n cu))
    (hv : LA w va n vs) (hu : LA w ua n us) (h : ∀ j, j < n → TwoW (vs j) (us j) w (D j)) :
    Calls Tryz.prog 43 #[.pointer (some ⟨g, 0, none⟩)] w fun e w' => e = .returned (.bool true) ∧ Bl w w' := by
  have HC4 := Lib.hid hc4
  have HC5 := Lib.hid hc5
  have HH := Lib.hid h
  clear hc4 hc5 h
  go_enter Tryz.func43, Tryz.ntmps43
  go_wp2_with fail
  go_loopw [3] (fun i w' => ∃ k : Nat, k ≤ n ∧ i = .int .i64 k ∧ Bl w w') (fun i _ => n - (intOf i).toNat)
  case atStart => exact ⟨0, Nat.zero_le _, rfl, Bl.refl _⟩
  case round =>
    obtain ⟨k, hk, rfl, hbl⟩ := hrel
    have c4 := hbl.cell HC4.out
    by_cases hlt : k < n
    · obtain ⟨b, off, rfl, hcv⟩ := hv k hlt
      obtain ⟨b2, off2, rfl, hcu⟩ := hu k hlt
      obtain ⟨ps, a1, a2, n1, c1, c2, e1, e2, I1, I2, -, -⟩ := HH.out k hlt
      have HV := Lib.hid (hcv k hlt)
      have HU := Lib.hid (hcu k hlt)
      rw [e1] at HV
      rw [e2] at HU
      have HS := Lib.hid (fun (W : World) (hb : Bl w W) => bookSameWs_anyY a1 n1 c1 ps a2 c2 W (I1.keep hb) (I2.keep hb))
      clear e1 e2 I1 I2 hcv hcu
      go_upto_region 4 with fail
      refine wp_region_extall (by kernel_rfl) (by kernel_rfl) ?_
      have HBZ := Lib.hid hbl.drew
      generalize World.drew _ = Z at *
      clear c4
      have p0 : ∀ q : Ext Z, _ := fun q => (HBZ.out.trans q.bl).cell HC4.out
      have p1 : ∀ q : Ext Z, _ := fun q => (HBZ.out.trans q.bl).cell HC5.out
      have p2 : ∀ q : Ext Z, _ := fun q => (HBZ.out.trans q.bl).cell HV.out
      have p3 : ∀ q : Ext Z, _ := fun q => (HBZ.out.trans q.bl).cell HU.out
      repeat (refine wpE_step (fun K hK => ?_); go_simp; first | (refine hK _ ?_; clear hK K) | (apply Exists.intro; refine ⟨fun q => ?_, hK _ ?_⟩; (with_reducible exact HS.out _ (HBZ.out.trans q.bl)); clear hK K))
      refine wpE_nil ?_
      intro q9
      have HBX := Lib.hid (HBZ.out.trans q9.bl)
      clear p0 p1 p2 p3 HBZ
      generalize ExtC.at q9 = X at *
      go_wp2_with fail
      go_roundw
      case rel => exact ⟨k + 1, by omega, by go_num, HBX.out⟩
      case measure => simp [intOf]; omega
    · go_wp2_with fail
      go_ret
      exact ⟨rfl, hbl⟩

theorem markedWrites_any (la : Option Addr) (n lc : Nat) (vs : Nat → Value) (ms : Nat → Nat) (B : Nat) (w : World) (hn : n ≤ 250) (hv : LA w la n vs) (h : ∀ j, j < n → w.ownsRow B 58 5 (vs j) (ms j) (mkW.row j 0 (ms j)) ∧ ms j ≤ 100000) :
    Calls Tryz.prog 88 #[.slice la n lc] w fun e w' => e = .returned (.bool true) ∧ Bl w w' := by
  have HH := Lib.hid h
  clear h
  go_enter Tryz.func88, Tryz.ntmps88
  go_wp2_with fail
  go_loopw [3] (fun i w' => ∃ k : Nat, k ≤ n ∧ i = .int .i64 k ∧ Bl w w') (fun i _ => n - (intOf i).toNat)
  case atStart => exact ⟨0, Nat.zero_le _, rfl, Bl.refl _⟩
  case round =>
    obtain ⟨k, hk, rfl, hbl⟩ := hrel
    by_cases hlt : k < n
    · obtain ⟨b, off, rfl, hcv⟩ := hv k hlt
      obtain ⟨ho, hm⟩ := HH.out k hlt
      obtain ⟨a1, c1, e1⟩ := row_shape' ho
      have HV := Lib.hid (hcv k hlt)
      rw [e1] at HV ho
      obtain ⟨n1, hn1⟩ : ∃ n1, ms k = n1 := ⟨_, rfl⟩
      rw [hn1] at HV ho hm
      have HI := Lib.hid (WW.own (by rw [markW_cells]; exact ho) (markW_len k 0 n1) (by omega) (markW_ok k 0 n1))
      clear e1 ho hcv hn1
      go_upto_region 4 with fail
      refine wp_region_idx [0, 1, 2, 3, 4, 5, 6, 7, 8, 9] 3 (Bl w) (fun _ _ h k => h.trans k) hbl.drew (by kernel_rfl) rfl (by kernel_rfl) (by kernel_rfl) ?_
      have HBZ := Lib.hid hbl.drew
      generalize World.drew _ = Z at *
      clear hbl
      haveI : Nonempty (ExtC (Bl w)) := ⟨⟨Z, HBZ.out⟩⟩
      have p2 : ∀ q : ExtC (Bl w), _ := fun q => q.ok.cell HV.out
      repeat (refine wpI_step rfl (fun K hK => ?_); go_simp; first | (refine hK _ ?_; clear hK K) | (apply Exists.intro; refine ⟨fun q => ?_, hK _ ?_⟩; fail; clear hK K))
      refine wpI_nil ?_
      clear p2 this
      refine wpAnyE_one (i := 10) (by kernel_rfl) ?_
      intro X1 hx1
      have HB1 := Lib.hid (HBZ.out.trans hx1)
      clear HBZ hx1
      go_simp
      refine (markWrites_any k 0 n1 X1 (by omega) (by omega)).mono ?_
      rintro e X2 ⟨v, rfl, hf, hb2⟩
      have HB2 := Lib.hid (HB1.out.trans hb2)
      obtain ⟨a2, c2, rfl⟩ := row_shape' hf
      have HI2 := Lib.hid (WW.own (by rw [markW_cells]; exact hf) (markW_len k 0 n1) (by omega) (markW_ok k 0 n1))
      clear HB1 hb2 hf
      go_simp
      refine ⟨HB2.out, ?_⟩
      refine wpAnyE_one (i := 11) (by kernel_rfl) ?_
      intro X3 hx3
      have HB3 := Lib.hid (HB2.out.trans hx3)
      go_simp
      refine (bookSameWs_anyY a1 n1 c1 (markW k 0 n1) a2 c2 X3 (HI.out.keep HB3.out) (HI2.out.keep hx3)).mono ?_
      rintro e X4 ⟨rfl, hb4⟩
      have HB4 := Lib.hid (HB3.out.trans hb4)
      clear HB3 HB2 hx3 hb4 HI2
      go_simp
      refine ⟨HB4.out, ?_⟩
      refine wpAnyE_one (i := 12) (by kernel_rfl) ?_
      intro X5 hx5
      have HB5 := Lib.hid (HB4.out.trans hx5)
      clear HB4 hx5
      go_simp
      refine ⟨HB5.out, ?_⟩
      refine wpAnyE_done (by kernel_rfl) ?_
      intro X6 hx6
      have HB6 := Lib.hid (HB5.out.trans hx6)
      clear HB5 hx6
      go_wp2_with fail
      go_roundw
      case rel => exact ⟨k + 1, by omega, by go_num, HB6.out⟩
      case measure => simp [intOf]; omega
    · go_wp2_with fail
      go_ret
      exact ⟨rfl, hbl⟩
end Go.Proofs.YtkpikmfijcffiaaGreat
end
