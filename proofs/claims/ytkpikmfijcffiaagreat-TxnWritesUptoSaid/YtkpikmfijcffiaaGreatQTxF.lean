import Derived.Test.YtkpikmfijcffiaaGreatQTxnWritesUptoP35
import Derived.Test.YtkpikmfijcffiaaGreatQTxnWritesUptoP23
import Derived.Test.YtkpikmfijcffiaaGreatQTxnWritesUptoP24
import Derived.Maps.OwnRows

/- txn.Fold. By an AI agent. -/
section
set_option linter.unusedVariables false
set_option linter.unusedSimpArgs false
namespace Go.Proofs.YtkpikmfijcffiaaGreat
open Go.RowKit Go.Maps
attribute [local go_sem] eOp eOper eUpon pOp pOper pUpon

theorem zero_int (w : World) : (zeroValue 3).run Tryz.prog w = .ok (.int .i64 0) w := by kernel_rfl
theorem int_wf {m : Nat} (h : m ≤ 140737488351232) : (Lit.int .i64 (m : Int)).wf = true := by
  have h1 : IntKind.i64.min = -9223372036854775808 := by decide
  have h2 : IntKind.i64.max = 9223372036854775807 := by decide
  show (decide (IntKind.i64.min ≤ (m : Int)) && decide ((m : Int) ≤ IntKind.i64.max)) = true
  rw [h1, h2, decide_eq_true (show (-9223372036854775808 : Int) ≤ m by omega), decide_eq_true (show (m : Int) ≤ 9223372036854775807 by omega)]
  rfl
theorem AC.grownM {w w' : World} {g : Nat} {cs : List Value} {row : Option Nat} (h : AC w g cs) (hg : w.grownBy w' row) (hn : some g ≠ row) : AC w' g cs := by
  obtain ⟨t, h⟩ := h
  exact ⟨t, by rw [hg.block g (lt_of_heap h) hn]; exact h⟩
theorem own_kept {w w' : World} {B size n : Nat} {E : TypeId} {v : Value} {cs : List Value} {row : Option Nat} (h : w.ownsRow B E size v n cs) (hg : w.grownBy w' row) (hn : ∀ b, v.ownBlock = some b → some b ≠ row) : w'.ownsRow B E size v n cs := by
  obtain ⟨h1, h2 | ⟨g, cap, cur, hv, hB, hh, r⟩⟩ := h
  · exact ⟨h1, .inl h2⟩
  · exact ⟨h1, .inr ⟨g, cap, cur, hv, hB, by rw [hg.block g (lt_of_heap hh) (hn g (by rw [hv]; rfl))]; exact hh, r⟩⟩
/-- Fold's state: the row and the map of its keys' places -/
structure FoldSt (w W : World) (v : Value) (k : Nat) (out : List (ByteArray × ActL)) : Prop where
  bl : Bl w W
  ow : OWR (w.heap.size + 1) W v out.length out
  nd : (out.map (·.1)).Nodup
  le : out.length ≤ k
  mp : ∃ D : DataW Unit, W.ownsMap Tryz.prog 9 (plainElem Tryz.prog 3) w.heap.size k D ∧ MapOf D out
theorem FoldSt.keep {w W W' : World} {v : Value} {k : Nat} {out : List (ByteArray × ActL)} (h : FoldSt w W v k out) (hb : Bl W W') : FoldSt w W' v k out := by
  obtain ⟨D, hD, hM⟩ := h.mp
  exact ⟨h.bl.trans hb, h.ow.keep hb, h.nd, h.le, D, ownsMap_bl hD hb, hM⟩
theorem FoldSt.lt {w W : World} {v : Value} {k : Nat} {out : List (ByteArray × ActL)} (h : FoldSt w W v k out) : w.heap.size + 1 ≤ W.heap.size := by
  obtain ⟨D, hD, hM⟩ := h.mp
  exact hD.lt
theorem FoldSt.new (w : World) : FoldSt w (w.alloc (.map #[] 0)) (.slice none 0 0) 0 [] :=
  ⟨(Bl.refl w).alloc _, OWR.nil _ _, List.nodup_nil, Nat.le_refl _, .map [], World.ownsMap_made _ _ _ _, MapOf.nil⟩
/-- a key that is new is laid into the map, and its write put behind the others -/
theorem FoldSt.app {w W W' : World} {v v' : Value} {k : Nat} {out : List (ByteArray × ActL)} {p : ByteArray × ActL} {D : DataW Unit} (bl : Bl w W) (ow : OWR (w.heap.size + 1) W v out.length out) (nd : (out.map (·.1)).Nodup) (le : out.length ≤ k)
    (mp : W.ownsMap Tryz.prog 9 (plainElem Tryz.prog 3) w.heap.size (k + 1) D) (mo : MapOf D (out ++ [p])) (hn : p.1 ∉ out.map (·.1))
    (ho : W'.ownsRow (w.heap.size + 1) 58 5 v' (out.length + 1) (cellsW out ++ writeCs p)) (hg : W.grownBy W' v.ownBlock) : FoldSt w W' v' (k + 1) (out ++ [p]) := by
  have e : (out ++ [p]).length = out.length + 1 := by simp
  refine ⟨Bl.ownRow bl ow.2 (Nat.le_succ _) hg, ⟨rfl, by rw [e, cellsW_snoc]; exact ho⟩, ?_, by omega, D, mp.kept hg (fun q => ?_), mo⟩
  · rw [List.map_append]
    exact List.nodup_append.2 ⟨nd, List.nodup_cons.2 ⟨by simp, List.nodup_nil⟩, fun a ha b hb => by simp at hb; subst hb; exact fun e => hn (e ▸ ha)⟩
  · have := (World.ownsRow.lt ow.2 _ q.symm).1
    omega
/-- the act of a place is set anew -/
theorem FoldSt.act {w W : World} {g ca k i : Nat} {out : List (ByteArray × ActL)} {a : ActL} (h : FoldSt w W (.slice (some ⟨g, 0, none⟩) out.length ca) k out) (hi : i < out.length) :
    FoldSt w ((((W.setCell ⟨g, i * 5 + 1, none⟩ (.int .i64 a.k)).setCell ⟨g, i * 5 + 2, none⟩ (.float .f64 a.x)).setCell ⟨g, i * 5 + 3, none⟩ (.int .i64 a.n)).setCell ⟨g, i * 5 + 4, none⟩ (.string a.s)) (.slice (some ⟨g, 0, none⟩) out.length ca) (k + 1) (out.set i ((nthW out i).1, a)) := by
  obtain ⟨D, hD, hM⟩ := h.mp
  have hB : w.heap.size + 1 ≤ g := (World.ownsRow.lt h.ow.2 g rfl).1
  have ek : (out.set i ((nthW out i).1, a)).map (·.1) = out.map (·.1) := by
    rw [List.map_set]
    refine List.ext_getElem (by simp) fun j h1 h2 => ?_
    rw [List.getElem_set]
    split
    · rename_i e; subst e; rw [List.getElem_map, nthW_eq hi]
    · rfl
  have el : (out.set i ((nthW out i).1, a)).length = out.length := List.length_set
  have hbl : ∀ (X : World) o u, Bl w X → Bl w (X.setCell ⟨g, o, none⟩ u) := fun X o u hb => Below.setCell (p := ⟨g, o, none⟩) hb (by show w.heap.size ≤ g; omega) u
  have hmp : ∀ (X : World) o u n, X.ownsMap Tryz.prog 9 (plainElem Tryz.prog 3) w.heap.size n D → (X.setCell ⟨g, o, none⟩ u).ownsMap Tryz.prog 9 (plainElem Tryz.prog 3) w.heap.size n D := fun X o u n hx => hx.setCell (a := ⟨g, o, none⟩) (by show w.heap.size ≠ g; omega) u
  refine ⟨hbl _ _ _ (hbl _ _ _ (hbl _ _ _ (hbl _ _ _ h.bl))), ?_, by rw [ek]; exact h.nd, by rw [el]; have := h.le; omega, D, (hmp _ _ _ _ (hmp _ _ _ _ (hmp _ _ _ _ (hmp _ _ _ _ hD)))).mono (Nat.le_succ _), hM.same ek.symm⟩
  rw [el]
  exact OWR.setAct h.ow hi a
set_option maxHeartbeats 6400000 in
set_option maxRecDepth 100000 in
theorem tfold_any (a : Option Addr) (n c : Nat) (ws : List (ByteArray × ActL)) (w : World) (h : WW w a n ws) :
    Calls Tryz.prog 9 #[.slice a n c] w fun e w' => ∃ v, e = .returned v ∧ OWR w.heap.size w' v (foldW ws).length (foldW ws) ∧ Bl w w' := by
  have hmm := @run_makeMap Tryz.prog
  have hsf := store_float
  have hcap := h.cap
  have HW := Lib.hid h
  have HL := Lib.hid h.len
  have G := FoldSt.new w
  clear h
  go_enter Tryz.func9, Tryz.ntmps9
  go_wp2_with fail
  generalize w.alloc (.map #[] 0) = W at *
  have HG := Lib.hid G
  clear G
  generalize hgm : w.heap.size = gm at *
  have HGM := Lib.hid hgm
  clear hgm
  go_loopw [3, 12] (fun v i wr => ∃ k : Nat, k ≤ n ∧ i = .int .i64 k ∧ FoldSt w wr v k (foldW (ws.take k))) (fun _ i _ => n - (intOf i).toNat)
  case atStart => exact ⟨0, Nat.zero_le _, rfl, HG.out⟩
  case round =>
    clear HG
    obtain ⟨k, hkn, rfl, hb⟩ := hrel
    have HB := Lib.hid hb
    have hle := hb.le
    obtain ⟨va, vc, hve⟩ := OWR.form hb.ow
    subst hve
    clear hb
    by_cases hlt : k < n
    · have hkl : k < ws.length := by rw [HL.out]; exact hlt
      have HST := Lib.hid (foldW_take ws hkl)
      have HOKF := Lib.hid (foldW_okW (ws := ws.take k) (fun p hp => HW.out.ok p (List.mem_of_mem_take hp)))
      have HOK := Lib.hid (HW.out.ok _ (nthW_mem hkl))
      obtain ⟨ba, oa, rfl, _⟩ := HW.out.cells k hlt
      obtain ⟨c0, c1, c2, c3, c4⟩ := HW.out.get HB.out.bl hlt
      clear hkl
      generalize foldW (ws.take k) = out at *
      generalize nthW ws k = p at *
      obtain ⟨pk, ⟨ak, ax, an, az⟩⟩ := p
      dsimp only at c0 c1 c2 c3 c4
      have hkey := key_klit HOK.out.1
      have hgp := AC.new wr _ rfl [.string pk, .int .i64 ak, .float .f64 ax, .int .i64 an, .string az] 58
      have hbp := (Bl.refl wr).alloc (.cells #[.string pk, .int .i64 ak, .float .f64 ax, .int .i64 an, .string az] 58)
      go_upto_region 6 with fail
      clear c0 c1 c2 c3 c4
      generalize wr.alloc _ = V at *
      have HGP := Lib.hid hgp
      have HB1 := Lib.hid (HB.out.keep hbp)
      have HBL := HB
      clear hgp hbp HB
      have HGPN : Hid (w.heap.size < wr.heap.size) := Lib.hid (by have := HBL.out.lt; omega)
      clear HBL
      generalize wr.heap.size = gp at *
      have p0 := HGP.out.cell 0 _ rfl
      obtain ⟨D, hD, hM⟩ := HB1.out.mp
      rw [HGM.out] at hD
      have HM := Lib.hid hM
      clear hM
      go_upto_region 7 with (at_lookup; refine wpList_lookup_own_ok_int _ rfl _ _ 72 rfl 9 3 .i64 str_law Tryz.underlying72 Tryz.underlying3 (zero_int _) gm k _ rfl hD _ _ rfl hkey ?_; intro c hat hwc)
      have HAT := Lib.hid hat
      clear hat hwc
      cases hh : Maps.has D (klit pk)
      · have HNO : Hid (out.any (fun q => decide (q.1 = pk)) = false) := Lib.hid (by rw [← HM.out.has]; exact hh)
        have HPUT := Lib.hid (HM.out.put (pk, ⟨ak, ax, an, az⟩) HNO.out)
        have HST2 : Hid (foldW (ws.take (k + 1)) = out ++ [(pk, ⟨ak, ax, an, az⟩)]) := Lib.hid (by rw [HST.out]; exact addW_fresh HNO.out)
        have hkw : k ≤ 140737488351232 := by omega
        have HNK : Hid (pk ∉ out.map (·.1)) := Lib.hid (fun q => by rw [any_key.2 q] at HNO; exact absurd HNO.out (by decide))
        have HND := Lib.hid HB1.out.nd
        clear HST HM HAT hh
        go_upto_region 9 with (at_mapUpdate; refine wpList_mapUpdate_own _ rfl _ _ _ 72 rfl 9 3 str_law Tryz.underlying72 (plainElem Tryz.prog 3) gm k _ rfl hD (by unfold maxLen; omega) _ _ _ rfl rfl hkey (.lit (.int .i64 out.length)) [] (plainElem_int Tryz.underlying3 (int_wf (by omega))) ?_; intro V2 hD2 hgr2)
        have hbw : w.heap.size + 1 ≤ V.heap.size := HB1.out.lt
        have HB2 : Hid (Bl w V2) := Lib.hid (Below.grown HB1.out.bl hgr2 HB1.out.bl.size (fun j hj => by cases hj; exact Nat.le_of_eq HGM.out))
        have HO2 := Lib.hid (own_kept HB1.out.ow.2 hgr2 (fun b hb e => by have h1 := (World.ownsRow.lt HB1.out.ow.2 b hb).1; have h2 := HGM.out; simp only [Option.some.injEq] at e; omega))
        have HG2 := Lib.hid (HGP.out.grownM hgr2 (fun e => by have h2 := HGM.out; simp only [Option.some.injEq] at e; have := HGPN.out; omega))
        have HD2 := Lib.hid hD2
        clear hgr2 hD2 hD HGP p0 hbw
        have q0 := HG2.out.cell 0 _ rfl
        have q1 := HG2.out.cell 1 _ rfl
        have q2 := HG2.out.cell 2 _ rfl
        have q3 := HG2.out.cell 3 _ rfl
        have q4 := HG2.out.cell 4 _ rfl
        have hlit : (V2.alloc (.cells #[.string pk, .int .i64 ak, .float .f64 ax, .int .i64 an, .string az] 58)).heap[V2.heap.size]? = some (.cells (writeCs (pk, ⟨ak, ax, an, az⟩)).toArray 58 (0, 0)) := heap_alloc_new V2 _
        have hoa : (V2.alloc (.cells #[.string pk, .int .i64 ak, .float .f64 ax, .int .i64 an, .string az] 58)).ownsRow (w.heap.size + 1) 58 5 (.slice va out.length vc) out.length (cellsW out) := ownsRow_bl HO2.out ((Bl.refl V2).alloc _)
        have HS := Lib.hid (SG.lit (size := 5) hlit rfl (by simp [writeCs, Value.oneCell']))
        have HBA := Lib.hid (HB2.out.alloc (.cells #[.string pk, .int .i64 ak, .float .f64 ax, .int .i64 an, .string az] 58))
        have HDA := Lib.hid (HD2.out.alloc (.cells #[.string pk, .int .i64 ak, .float .f64 ax, .int .i64 an, .string az] 58))
        have hBz : w.heap.size + 1 ≤ (V2.alloc (.cells #[.string pk, .int .i64 ak, .float .f64 ax, .int .i64 an, .string az] 58)).heap.size := by have h1 := HDA.out.lt; have h2 := HGM.out; omega
        clear hlit
        go_wp2_with (at_builtin; refine wpList_appG rfl _ _ _ rfl el_wr (w.heap.size + 1) _ out.length _ rfl hoa ?cB (some ⟨V2.heap.size, 0, none⟩) 1 1 _ rfl HS.out ?cM ?cN ?_)
        case cB => exact HB2.out.size
        case cM => unfold maxLen; omega
        case cN => omega
        intro v' V3 ho hgr
        have HF : Hid (FoldSt w V3 v' (k + 1) (out ++ [(pk, ⟨ak, ax, an, az⟩)])) := Lib.hid (FoldSt.app HBA.out ⟨rfl, hoa⟩ HND.out hle (by rw [HGM.out]; exact HDA.out) HPUT.out HNK.out ho hgr)
        clear ho hgr hoa hBz HS HBA HDA q0 q1 q2 q3 q4
        go_wp2_with fail
        go_roundw
        case rel => exact ⟨k + 1, by omega, by go_num, by rw [HST2.out]; exact HF.out⟩
        case measure => simp [intOf]; omega
      · obtain ⟨i, hi, rfl, hik⟩ := HM.out.find hh HAT.out
        obtain ⟨g, gc, hve, hB, cur, E, hcur⟩ := OWR.shape HB1.out.ow (by omega)
        simp only [Value.slice.injEq, true_and] at hve
        obtain ⟨rfl, rfl⟩ := hve
        have HST2 := Lib.hid (HST.out.trans (addW_set hi hik HB1.out.nd))
        have HWI := Lib.hid (HOKF.out _ (nthW_mem hi))
        have HNTH : Hid (nthW out i = nthW out i) := Lib.hid rfl
        have hrow : ∀ r, r < 5 → V.cell? ⟨g, i * 5 + r, none⟩ = (writeCs (nthW out i))[r]? := fun r hr => by
          rw [HB1.out.ow.2.cellAt (i * 5 + r) (by omega), cellsW_get out i hi r hr]
        have h0 := hrow 0 (by decide)
        have h1 := hrow 1 (by decide)
        have h2 := hrow 2 (by decide)
        have h3 := hrow 3 (by decide)
        have h4 := hrow 4 (by decide)
        have HFZ := Lib.hid (fun X hb o => (ownsRow_bl (w' := X) HB1.out.ow.2 hb).frozenAt o)
        have HSET := Lib.hid (fun X hb (a : ActL) => FoldSt.act (a := a) (HB1.out.keep (W' := X) hb) hi)
        have hil : i < 140737488351232 := by omega
        have hlen : out.length < 140737488351232 := by omega
        clear HM HAT hh hD hcur HST p0 hrow HOKF
        generalize hpi : nthW out i = pi at *
        obtain ⟨qk, ⟨bk, bx, bn, bz⟩⟩ := pi
        dsimp only at hik
        subst hik
        simp only [writeCs, List.getElem?_cons_zero, List.getElem?_cons_succ, Nat.add_zero] at h0 h1 h2 h3 h4
        have HQ := Lib.hid hpi
        clear hpi h0
        generalize hon : out.length = on at *
        have HON := Lib.hid hon
        clear hon
        have hi1 : decide (i < on) = true := decide_eq_true hi
        obtain ⟨⟨rk, rx, rn, rs⟩, hR⟩ : ∃ R : ActL, bothL qk ⟨bk, bx, bn, bz⟩ ⟨ak, ax, an, az⟩ = R := ⟨_, rfl⟩
        have HR := Lib.hid hR
        clear hR
        go_upto_region 10 with fail
        refine wp_region_panicsT [0, 1, 2, 3, 4, 5, 6, 7, 8, 9, 10, 11, 12, 13] 1 (Bl V.drew) (fun _ _ h k => h.trans k) (Bl.refl _) [14] (fun c W' => False) ?hR (by kernel_rfl) rfl (by kernel_rfl) (by kernel_rfl) (by kernel_rfl) ?_
        case hR => intro c tt W' h; exact h.elim
        have HBZ := Lib.hid ((Bl.refl V).drew)
        generalize V.drew = Z at *
        haveI : Nonempty (ExtC (Bl Z)) := ⟨⟨Z, Bl.refl _⟩⟩
        have k0 : ∀ q : ExtC (Bl Z), _ := fun q => (HGP.out.keep (HBZ.out.trans q.ok)).cell 0 _ rfl
        have k1 : ∀ q : ExtC (Bl Z), _ := fun q => (HGP.out.keep (HBZ.out.trans q.ok)).cell 1 _ rfl
        have k2 : ∀ q : ExtC (Bl Z), _ := fun q => (HGP.out.keep (HBZ.out.trans q.ok)).cell 2 _ rfl
        have k3 : ∀ q : ExtC (Bl Z), _ := fun q => (HGP.out.keep (HBZ.out.trans q.ok)).cell 3 _ rfl
        have k4 : ∀ q : ExtC (Bl Z), _ := fun q => (HGP.out.keep (HBZ.out.trans q.ok)).cell 4 _ rfl
        have l1 : ∀ q : ExtC (Bl Z), _ := fun q => (HBZ.out.trans q.ok).cell h1
        have l2 : ∀ q : ExtC (Bl Z), _ := fun q => (HBZ.out.trans q.ok).cell h2
        have l3 : ∀ q : ExtC (Bl Z), _ := fun q => (HBZ.out.trans q.ok).cell h3
        have l4 : ∀ q : ExtC (Bl Z), _ := fun q => (HBZ.out.trans q.ok).cell h4
        have HBO := Lib.hid (fun w => both_agg qk bk bx bn bz ak ax an az rk rx rn rs w HR HOK.out.1 (Lib.hid HWI.out.2) (Lib.hid HOK.out.2))
        have H14 := Lib.hid (And.intro h1 (And.intro h2 (And.intro h3 h4)))
        clear h1 h2 h3 h4
        repeat (refine wpI_step rfl (fun K hK => ?_); go_simp; first | (refine hK _ ?_; clear hK K) | (apply Exists.intro; refine ⟨fun q => ?_, hK _ ?_⟩; (with_reducible exact HBO.out _); clear hK K))
        refine wpI_nil ?_
        clear k0 k1 k2 k3 k4 l1 l2 l3 l4 HBO this
        refine wpAnyP_one (i := 14) (by kernel_rfl) ?_
        intro Y1 hy1
        have hby := HBZ.out.trans hy1
        have l1 := hby.cell H14.out.1
        have l2 := hby.cell H14.out.2.1
        have l3 := hby.cell H14.out.2.2.1
        have l4 := hby.cell H14.out.2.2.2
        have fz := HFZ.out Y1 hby
        have HS1 := Lib.hid (HSET.out Y1 hby ⟨rk, rx, rn, rs⟩)
        go_simp
        clear l1 l2 l3 l4 fz hby hy1
        refine wpAnyP_done (by kernel_rfl) ?_
        intro Y2 hy2
        have HS2 := Lib.hid (FoldSt.keep HS1.out hy2)
        have HON2 : Hid ((out.set i ((qk, (⟨bk, bx, bn, bz⟩ : ActL)).1, ⟨rk, rx, rn, rs⟩)).length = on) := Lib.hid (by rw [List.length_set]; exact HON.out)
        have HST3 : Hid (foldW (ws.take (k + 1)) = out.set i ((qk, (⟨bk, bx, bn, bz⟩ : ActL)).1, ⟨rk, rx, rn, rs⟩)) := Lib.hid (by rw [HST2.out, ← HR.out])
        clear HST2 HS1 hy2
        go_wp2_with fail
        go_roundw
        case rel => exact ⟨k + 1, by omega, by go_num, by rw [HST3.out]; exact HS2.out⟩
        case measure => simp [intOf]; omega
    · have hkn2 : k = n := by omega
      subst hkn2
      have e : foldW (ws.take k) = foldW ws := by rw [List.take_of_length_le (by rw [HL.out]; exact Nat.le_refl _)]
      rw [e] at HB ⊢
      clear e
      go_wp2_with fail
      go_ret
      exact ⟨_, rfl, ⟨HB.out.ow.1, own_less HB.out.ow.2 (Nat.le_succ _)⟩, HB.out.bl⟩
end Go.Proofs.YtkpikmfijcffiaaGreat
end
