import Derived.Test.YtkpikmfijcffiaaGreatQTxnWritesUptoP20

/- bedrockbook.Book.Writes: one more list is kept. By an AI agent. -/
section
set_option linter.unusedVariables false
namespace Go.Proofs.YtkpikmfijcffiaaGreat
open Go.RowKit
attribute [local go_sem] eOp eOper eUpon pOp pOper pUpon

theorem copyWrites_any (a : Option Addr) (n c : Nat) (ps : List (ByteArray × ActL)) (w : World) (hx : WW w a n ps) :
    Calls Tryz.prog 36 #[.slice a n c] w fun e w' => ∃ v, e = .returned v ∧ w'.ownsRow w.heap.size 58 5 v n (cellsW ps) ∧ Bl w w' := by
  have hcap := hx.cap
  have HX := Lib.hid hx.sg5
  clear hx
  go_enter Tryz.func36, Tryz.ntmps36
  go_wp2_with (at_builtin; refine wpList_appG rfl _ _ _ rfl el_wr w.heap.size (.slice none 0 0) 0 [] rfl (World.ownsRow_nil _ _ _ _) (Nat.le_refl _) a n c _ rfl HX.out ?cM ?cN ?_)
  case cM => unfold maxLen; omega
  case cN => omega
  intro v w1 ho hg
  have hb : Bl w w1 := (Bl.refl w).ownRow (World.ownsRow_nil w w.heap.size 58 5) (Nat.le_refl _) hg
  have hoi : w1.ownsRow w.heap.size 58 5 v n (cellsW ps) := by simpa using ho
  have HB := Lib.hid hb
  have HO := Lib.hid hoi
  clear ho hg hb hoi
  go_wp2_with fail
  go_ret
  exact ⟨_, rfl, HO.out, HB.out⟩
/-- the copy reads as the list -/
def CpW (ps : List (ByteArray × ActL)) (u : Value) (W : World) (D : Nat → Prop) : Prop := ∃ a n c, u = .slice a n c ∧ WW W a n ps ∧ ∀ x off, a = some ⟨x, off, none⟩ → 0 < n → D x
set_option maxHeartbeats 2000000 in
set_option maxRecDepth 100000 in
theorem regWrites_any (B g n : Nat) (hs : List Value) (vv wv : Value) (vcs ucs : List Value) (a : Option Addr) (nv c : Nat) (ps : List (ByteArray × ActL)) (w : World) (hn : n < 250) (hB : B ≤ w.heap.size) (hbox : AC w g hs) (hhl : hs.length = 30) (h4 : hs[12]? = some vv) (h5 : hs[13]? = some wv)
    (hv : w.ownsRow B 22 1 vv n vcs) (hu : w.ownsRow B 22 1 wv n ucs) (hgv : vv.ownBlock ≠ some g) (hgu : wv.ownBlock ≠ some g) (hvu : wv.ownBlock = none ∨ wv.ownBlock ≠ vv.ownBlock) (hx : WW w a nv ps) (hnv : nv ≤ 1000000)
    (hxg : ∀ b off, a = some ⟨b, off, none⟩ → 0 < nv → ¬ (b = g ∨ vv.ownBlock = some b ∨ wv.ownBlock = some b)) :
    Calls Tryz.prog 18 #[.pointer (some ⟨g, 0, none⟩), .slice a nv c] w fun e w' => e = .returned (.tuple #[]) ∧ ∃ vv' wv' u Dn, RPk 22 12 B (CpW ps) w w' g n hs vv wv vcs ucs (.slice a nv c) vv' wv' u Dn := by
  obtain ⟨va, cv, rfl⟩ := row_shape' hv
  have HBX := Lib.hid hbox
  have HU := Lib.hid hu
  have HV := Lib.hid hv
  have HX := Lib.hid hx
  have HXG := Lib.hid hxg
  have HGV := Lib.hid hgv
  have HGU := Lib.hid hgu
  have HVU := Lib.hid hvu
  have HH4 := Lib.hid h4
  have HH5 := Lib.hid h5
  have HHL := Lib.hid hhl
  have hgl := hbox.lt
  clear hu hv hx hxg hgv hgu hvu hbox h4 h5 hhl
  have c4 := HBX.out.at_ HH4.out
  have hn1 : decide ((n : Int) < 250) = true := decide_eq_true (by omega)
  have hn2 : decide (n < 250) = true := decide_eq_true hn
  go_enter Tryz.func18, Tryz.ntmps18
  have hbA := (Bl.refl w).alloc (.cells #[.slice a nv c] 22)
  have hlit : (w.alloc (.cells #[.slice a nv c] 22)).heap[w.heap.size]? = some (.cells [.slice a nv c].toArray 22 (0, 0)) := heap_alloc_new w _
  have HLT := Lib.hid (SG.lit (size := 1) hlit rfl (by intro u hu; simp at hu; subst hu; rfl))
  have hva := ownsRow_bl HV.out hbA
  have HBA := Lib.hid hbA
  clear hlit hbA
  go_wp2_with (at_builtin; refine wpList_appK rfl _ _ _ rfl el_rowsW B _ _ _ rfl hva ?cB (some ⟨w.heap.size, 0, none⟩) 1 1 _ rfl HLT.out ?cM ?cN ?_)
  case cB => simp; omega
  case cM => unfold maxLen; omega
  case cN => omega
  intro vv' w1 ho hg _ hb
  obtain ⟨va', cv', rfl⟩ := row_shape' ho
  have hfr : Fr (fun b => b = g ∨ (Value.slice va n cv).ownBlock = some b ∨ wv.ownBlock = some b) w w1 := ((Fr.refl _ w).bl HBA.out).grown hg (fun i e => .inr (.inl e))
  have hbx : AC w1 g hs := by
    have h1 := HBX.out.keep HBA.out
    obtain ⟨t, h2⟩ := h1
    exact ⟨t, by rw [hg.block g (lt_of_heap h2) (fun e => HGV.out e.symm)]; exact h2⟩
  have hu1 : w1.ownsRow B 22 1 wv n ucs := World.ownsRow.kept (ownsRow_bl HU.out HBA.out) hg HVU.out
  have c4' := hbx.at_ HH4.out
  have f4 := hbx.frozen 12
  have HFR := Lib.hid hfr
  have HB1 := Lib.hid hbx
  have HU1 := Lib.hid hu1
  have HO := Lib.hid ho
  have HBV := Lib.hid hb
  have HSZ := Lib.hid (show w.heap.size < w1.heap.size from by have := hg.size; simp at this; omega)
  clear c4 ho hg hb hfr hbx hu1 hva hn1 hn2 hgl
  go_upto_region 2 with fail
  have HFR2 := Lib.hid (HFR.out.grown (grown_set' w1 g 12 (.slice va' (n + 1) cv')) (fun i e => .inl (Option.some.inj e).symm))
  have HB2 := Lib.hid (HB1.out.setc 12 (.slice va' (n + 1) cv'))
  have hvg : (Value.slice va' (n + 1) cv').ownBlock ≠ some g := fun e => by
    rcases HBV.out g e with q | q
    · exact HGV.out q
    · have := HBX.out.lt; have := HBA.out.size; omega
  have HVG := Lib.hid hvg
  have HO2 := Lib.hid (World.ownsRow.kept HO.out (grown_set' w1 g 12 (.slice va' (n + 1) cv')) (.inr hvg))
  have HU2 := Lib.hid (World.ownsRow.kept HU1.out (grown_set' w1 g 12 (.slice va' (n + 1) cv')) (.inr HGU.out))
  have HX2 := Lib.hid (HX.out.fr HFR2.out HXG.out)
  have hsz2 : w.heap.size < (w1.setCell ⟨g, 12, none⟩ (.slice va' (n + 1) cv')).heap.size := by simp; exact HSZ.out
  have HSZ2 := Lib.hid hsz2
  obtain ⟨hs2, hhs2⟩ : ∃ x, hs.set 12 (.slice va' (n + 1) cv') = x := ⟨_, rfl⟩
  rw [hhs2] at HB2
  obtain ⟨ua, cu, hwv⟩ := row_shape' HU2.out
  subst hwv
  have H25 := Lib.hid (show hs2[13]? = some (.slice ua n cu) by rw [← hhs2, List.getElem?_set_ne (by decide)]; exact HH5.out)
  have HHS2 := Lib.hid hhs2
  clear hvg hsz2 f4 c4' HFR HB1 HO HU1 HLT hhs2
  generalize w1.setCell _ _ = w2 at *
  refine wp_region_panicsT [0, 1, 2, 3, 4, 5] 6 (HasBox g hs2) HasBox.keep (HB2.out.keep ((Bl.refl w2).drew)) [11] (fun c W' => False) ?hR (by kernel_rfl) rfl (by kernel_rfl) (by kernel_rfl) (by kernel_rfl) ?_
  case hR => intro c tt W' h; exact h.elim
  have HBZ := Lib.hid ((Bl.refl w2).drew)
  generalize w2.drew = Z at *
  have HBXZ := Lib.hid (HB2.out.keep HBZ.out)
  haveI : Nonempty (ExtC (HasBox g hs2)) := ⟨⟨Z, HBXZ.out⟩⟩
  have d5 : ∀ q : ExtC (HasBox g hs2), _ := fun q => AC.at_ q.ok H25.out
  repeat (refine wpI_step rfl (fun K hK => ?_); go_simp; first | (refine hK _ ?_; clear hK K) | (apply Exists.intro; refine ⟨fun q => ?_, hK _ ?_⟩; fail; clear hK K))
  refine wpI_nil ?_
  clear d5 this
  refine wpAnyP_one (i := 6) (by kernel_rfl) ?_
  intro Y1 hy1
  have HY1 := Lib.hid (HBZ.out.trans hy1)
  clear hy1
  go_simp
  refine (copyWrites_any a nv c ps Y1 (HX2.out.keep HY1.out)).mono ?_
  rintro e Y2 ⟨u, rfl, hfi, hb2⟩
  have HY2 := Lib.hid (HY1.out.trans hb2)
  have HFI := Lib.hid hfi
  have hszA := HY1.out.size
  obtain ⟨a5, c5, hu5⟩ := row_shape' hfi
  subst hu5
  clear hb2 hfi
  go_simp
  refine ⟨HB2.out.keep HY2.out, ?_⟩
  refine wpAnyP_one (i := 7) (by kernel_rfl) ?_
  intro Y3 hy3
  go_simp
  have hbl := hy3.alloc (.cells #[.slice a5 nv c5] 22)
  have hlit : (Y3.alloc (.cells #[.slice a5 nv c5] 22)).heap[Y3.heap.size]? = some (.cells [.slice a5 nv c5].toArray 22 (0, 0)) := heap_alloc_new Y3 _
  have HLT := Lib.hid (SG.lit (size := 1) hlit rfl (by intro u hu; simp at hu; subst hu; rfl))
  have HY3 := Lib.hid (HY2.out.trans hbl)
  have HFI3 := Lib.hid (ownsRow_bl HFI.out hbl)
  refine ⟨HB2.out.keep HY3.out, ?_⟩
  clear hlit hbl hy3 HFI HY2
  generalize Y3.alloc _ = Y4 at *
  generalize Y3.heap.size = gl at *
  refine wpAnyP_one (i := 8) (by kernel_rfl) ?_
  intro Y5 hy5
  have HY5 := Lib.hid (HY3.out.trans hy5)
  have HFI5 := Lib.hid (ownsRow_bl HFI3.out hy5)
  have HL5 := Lib.hid (HLT.out.keep hy5)
  have HU5 := Lib.hid (ownsRow_bl HU2.out HY5.out)
  have HB5 := Lib.hid (HB2.out.keep HY5.out)
  have HO5 := Lib.hid (ownsRow_bl HO2.out HY5.out)
  have hsz5 := HY5.out.size
  clear hy5 HFI3 HLT HY3
  refine pOp_appk rfl rfl _ _ _ rfl el_rowsW B (.slice ua n cu) n ucs rfl HU5.out (by have := HSZ2.out; omega) (some ⟨gl, 0, none⟩) 1 1 _ rfl HL5.out (by unfold maxLen; omega) (by omega) ?_
  intro wv' Y6 ho6 hg6 hb6
  have hul : ∀ b, (Value.slice ua n cu).ownBlock = some b → b < w.heap.size := fun b e => (World.ownsRow.lt HU.out b e).2
  have hvu' : (Value.slice va' (n + 1) cv').ownBlock = none ∨ (Value.slice va' (n + 1) cv').ownBlock ≠ (Value.slice ua n cu).ownBlock := by
    cases e : (Value.slice va' (n + 1) cv').ownBlock with
    | none => exact .inl rfl
    | some b =>
      refine .inr (fun e2 => ?_)
      rcases HBV.out b e with q | q
      · rcases HVU.out with r | r
        · rw [r] at e2; cases e2
        · exact r (e2.symm.trans q.symm)
      · have := hul b e2.symm; omega
  have hbx6 : AC Y6 g hs2 := by
    obtain ⟨t, h2⟩ := HB5.out
    exact ⟨t, by rw [hg6.block g (lt_of_heap h2) (fun e => HGU.out e.symm)]; exact h2⟩
  have hfo6 : Y6.ownsRow Y1.heap.size 58 5 (.slice a5 nv c5) nv (cellsW ps) := World.ownsRow.kept HFI5.out hg6 (by
    cases e : (Value.slice a5 nv c5).ownBlock with
    | none => exact .inl rfl
    | some b => exact .inr (fun e2 => by have := hul b e2.symm; have := (World.ownsRow.lt HFI5.out b e).1; have := HSZ2.out; omega))
  have HFI6 := Lib.hid hfo6
  have HO6 := Lib.hid (World.ownsRow.kept HO5.out hg6 hvu')
  have HB6 := Lib.hid hbx6
  have HW6 := Lib.hid ho6
  have HFR6 := Lib.hid ((HFR2.out.bl HY5.out).grown hg6 (fun i e => .inr (.inr e)))
  have HBU := Lib.hid (fun b (e : wv'.ownBlock = some b) => (hb6 b e).imp_right (fun q => Nat.le_trans (Nat.le_of_lt HSZ2.out) (Nat.le_trans hsz5 q)))
  have hau : ∀ b, (Value.slice a5 nv c5).ownBlock = some b → w2.heap.size ≤ b ∧ b < Y5.heap.size := fun b e => by
    have h1 := World.ownsRow.lt HFI5.out b e
    exact ⟨Nat.le_trans hszA h1.1, h1.2⟩
  have HAU : Hid (∀ b, (Value.slice a5 nv c5).ownBlock = some b → wv'.ownBlock ≠ some b) := Lib.hid (fun b e e2 => by
    have h1 := hau b e
    rcases hb6 b e2 with q | q
    · have := hul b q; have := HSZ2.out; omega
    · omega)
  have HAV : Hid (∀ b, (Value.slice a5 nv c5).ownBlock = some b → (Value.slice va' (n + 1) cv').ownBlock ≠ some b) := Lib.hid (fun b e e2 => by
    have h1 := hau b e
    have := (World.ownsRow.lt HO2.out b e2).2
    omega)
  have HAVU : Hid (wv'.ownBlock = none ∨ wv'.ownBlock ≠ (Value.slice va' (n + 1) cv').ownBlock) := Lib.hid (by
    cases e : wv'.ownBlock with
    | none => exact .inl rfl
    | some b =>
      refine .inr (fun e2 => ?_)
      rcases hb6 b e with q | q
      · rcases hvu' with r | r
        · rw [r] at e2; cases e2
        · exact r (e2.symm.trans q.symm)
      · have := (World.ownsRow.lt HO2.out b e2.symm).2; omega)
  have hwg : wv'.ownBlock ≠ some g := fun e => by
    rcases hb6 g e with q | q
    · exact HGU.out q
    · have := HBX.out.lt; have := HSZ2.out; omega
  have HWG := Lib.hid hwg
  refine ⟨fun _ => hbx6, ?_⟩
  simp only [Act.put, List.setIfInBounds_toArray]
  obtain ⟨wa, wc, hws⟩ := row_shape' ho6
  subst hws
  clear ho6 hg6 hb6 hul hvu' hbx6 hfo6 hau hwg HB5 HO5 HU5 HFI5 HL5 HY5 hsz5 HFR2 HO2 HU2 HX2 HB2
  refine wpAnyP_one (i := 9) (by kernel_rfl) ?_
  intro Y7 hy7
  go_simp
  refine ⟨HB6.out.keep hy7, ?_⟩
  refine wpAnyP_one (i := 10) (by kernel_rfl) ?_
  intro Y8 hy8
  go_simp
  refine ⟨HB6.out.keep (hy7.trans hy8), ?_⟩
  refine wpAnyP_one (i := 11) (by kernel_rfl) ?_
  intro Y9 hy9
  have HY9 := Lib.hid ((hy7.trans hy8).trans hy9)
  clear hy7 hy8 hy9
  have HB9 := Lib.hid (HB6.out.keep HY9.out)
  have c5' := HB9.out.at_ H25.out
  have f5' := HB9.out.frozen 13
  have HB10 := Lib.hid (HB9.out.setc 13 (.slice wa (n + 1) wc))
  have hgs := grown_set' Y9 g 13 (.slice wa (n + 1) wc)
  have HO10 := Lib.hid (World.ownsRow.kept (ownsRow_bl HO6.out HY9.out) hgs (.inr HVG.out))
  have HW10 := Lib.hid (World.ownsRow.kept (ownsRow_bl HW6.out HY9.out) hgs (.inr HWG.out))
  have hug : (Value.slice a5 nv c5).ownBlock ≠ some g := fun e => by
    have h1 := (World.ownsRow.lt HFI6.out g e).1
    have h2 := HBX.out.lt
    have h3 := HSZ2.out
    omega
  have HF10 := Lib.hid (World.ownsRow.kept (ownsRow_bl HFI6.out HY9.out) hgs (.inr hug))
  have HFR10 := Lib.hid ((HFR6.out.bl HY9.out).grown hgs (fun i e => .inl (Option.some.inj e).symm))
  clear hgs hug HO6 HW6 HFI6 HFR6 HB6 HB9 HY9
  go_simp
  clear c5' f5'
  generalize World.setCell _ _ _ = Y10 at *
  refine wpAnyP_done (by kernel_rfl) ?_
  intro Y11 hy11
  have HY := Lib.hid hy11
  clear hy11
  go_wp2_with fail
  go_end0
  have ho11 := ownsRow_bl HF10.out HY.out
  refine ⟨rfl, _, _, _, fun b => (Value.slice a5 nv c5).ownBlock = some b, ?_, ownsRow_bl HO10.out HY.out, ownsRow_bl HW10.out HY.out, ⟨a5, nv, c5, rfl, WW.own ho11 HX.out.len hnv HX.out.ok, fun x off e hp => ?_⟩, fun b e => ⟨(World.ownsRow.lt ho11 b e).2, ?_, HAV.out b e, HAU.out b e⟩, HFR10.out.bl HY.out, fun b e => (HBV.out b e).imp_right (fun q => by have := HBA.out.size; omega), HBU.out, HAVU.out⟩
  · rw [HHS2.out]; exact HB10.out.keep HY.out
  · obtain ⟨_, ⟨e3, h2⟩ | ⟨gi, cap, cur, e3, _⟩⟩ := ho11
    · cases e3; omega
    · simp only [Value.slice.injEq] at e3; rw [e3.1] at e ⊢; cases e; rfl
  · have h1 := (World.ownsRow.lt ho11 b e).1
    have h3 := HSZ2.out
    omega
theorem fullWrites_any (g : Nat) (hs : List Value) (va : Option Addr) (cv : Nat) (v : Value) (w : World) (hbox : AC w g hs) (h4 : hs[12]? = some (.slice va 250 cv)) :
    Calls Tryz.prog 18 #[.pointer (some ⟨g, 0, none⟩), v] w fun e w' => e = .returned (.tuple #[]) ∧ w = w' := by
  have c4 := hbox.at_ h4
  clear hbox h4
  go_enter Tryz.func18, Tryz.ntmps18
  go_wp2_with fail
  go_end0
  exact ⟨rfl, rfl⟩
end Go.Proofs.YtkpikmfijcffiaaGreat
end

/- a book of several kinds: from what a call leaves to the state of the book; rows that have grown. By an AI agent. -/
section
set_option linter.unusedVariables false
namespace Go.Proofs.YtkpikmfijcffiaaGreat
open Go.RowKit

section
variable {k : BKd} {B : Nat} {w W : World} {g : Nat} {n : Nat → Nat} {vv wv : Nat → Value} {vs us : Nat → Nat → Value} {ln : Nat → Nat → Nat} {cs : Nat → Nat → List Value} {D : Nat → Nat → Nat → Prop} {T : Nat → Prop}
theorem BookX.vpk {p : Nat} {R : Value → World → (Nat → Prop) → Prop} {v vv' wv' u : Value} {Dn Dv : Nat → Prop} (h : BookX k B w g n vv wv vs us ln cs D T)
    (P : RPk (k.L p) p B R w W g (n p) (hsOf vv wv) (vv p) (wv p) ((List.range (n p)).map (vs p)) ((List.range (n p)).map (us p)) v vv' wv' u Dn)
    (hp : ((hsOf vv wv).set p vv').set (p + 1) wv' = hsOf (upd vv p vv') (upd wv p wv')) (hD : ∀ b, Dv b → b < w.heap.size ∧ ¬ BSt g vv wv b) (hQ : R u W Dn → k.Q p v u W (fun b => Dn b ∨ Dv b)) :
    VPk k B w W g (n p) p vv wv vs us v vv' wv' u Dv (fun b => Dn b ∨ Dv b) := by
  refine ⟨by rw [← hp]; exact P.box, P.rv, P.ru, hQ P.rd, fun b hb => ?_, P.fr, P.bv, P.bu, P.avu⟩
  rcases hb with hb | hb
  · obtain ⟨d1, d2, d3, d4⟩ := P.dn b hb
    exact ⟨d1, .inr d2, d3, d4⟩
  · obtain ⟨e1, e2⟩ := hD b hb
    refine ⟨Nat.lt_of_lt_of_le e1 P.fr.size, .inl hb, fun e => ?_, fun e => ?_⟩
    · rcases P.bv b e with q | q
      · exact e2 (.inr ⟨p, .inl q⟩)
      · omega
    · rcases P.bu b e with q | q
      · exact e2 (.inr ⟨p, .inr q⟩)
      · omega
theorem BookX.bq (h : BookX k B w g n vv wv vs us ln cs D T) : BQ k B w g T := ⟨n, vv, wv, vs, us, ln, cs, D, h⟩
/-- one more list: the state behind the call -/
theorem BookX.reg {p : Nat} {v vv' wv' u : Value} {l : Nat} {ys : List Value} {Dv Dn : Nat → Prop} (h : BookX k B w g n vv wv vs us ln cs D T) (hp : p ∈ k.K) (hn : n p < 250) (hv : w.ownsRow B (k.E p) (k.z p) v l ys) (hl : l ≤ 50000)
    (hT : ∀ b, v.ownBlock = some b → T b) (hD : ∀ b, Dv b → b < w.heap.size ∧ ¬ BSt g vv wv b) (P : VPk k B w W g (n p) p vv wv vs us v vv' wv' u Dv Dn) :
    BQ k B W g (fun b => T b ∧ v.ownBlock ≠ some b) ∧ Fr (fun b => ¬ T b) w W := by
  refine ⟨(h.step hp hn hv hl hT hD P).1.bq, ⟨P.fr.os, P.fr.tape, P.fr.output, P.fr.size, fun b hb ht => P.fr.block b hb (fun q => ?_)⟩⟩
  have hs := (h.t b (Classical.not_not.1 ht)).2.1
  rcases q with q | q | q
  · exact hs (.inl q)
  · exact hs (.inr ⟨p, .inl q⟩)
  · exact hs (.inr ⟨p, .inr q⟩)
end
theorem Fr.wider {S S' : Nat → Prop} {w w' : World} (h : Fr S w w') (hs : ∀ b, S b → S' b) : Fr S' w w' := ⟨h.os, h.tape, h.output, h.size, fun k hk q => h.block k hk (fun q2 => q (hs k q2))⟩
/-! ### rows that have grown -/
structure GRs (E L : Nat) (m : MK) (B b0 n : Nat) (vs : Nat → Value) (ms : Nat → Nat) (W : World) (out : Value) (gs : Nat → Value) : Prop where
  row : W.ownsRow b0 L 1 out n ((List.range n).map gs)
  ogs : ∀ j, j < n → W.ownsRow B E m.z (gs j) (ms j + 72) (m.row j 0 (ms j + 72))
  ovs : ∀ j, j < n → W.ownsRow B E m.z (vs j) (ms j) (m.row j 0 (ms j))
  apg : ∀ j, j < n → ∀ b, (gs j).ownBlock = some b → (vs j).ownBlock = some b ∨ b0 ≤ b
section
variable {E L : Nat} {m : MK} {B b0 n : Nat} {vs : Nat → Value} {ms : Nat → Nat} {W W' : World} {out : Value} {gs : Nat → Value}
theorem GRk.grs {w : World} (h : GRk E L m B n vs ms w W n out gs) : GRs E L m B w.heap.size n vs ms W out gs := ⟨h.row, h.ogs, h.ovs, fun j hj b e => (h.apg j hj b e).imp_right (fun q => q.1)⟩
theorem GRs.fr {S : Nat → Prop} (h : GRs E L m B b0 n vs ms W out gs) (hf : Fr S W W') (h1 : ∀ b, S b → b < b0) (h2 : ∀ j, j < n → ∀ b, (vs j).ownBlock = some b → ¬ S b) : GRs E L m B b0 n vs ms W' out gs := by
  refine ⟨hf.own h.row (fun b e hs => ?_), fun j hj => hf.own (h.ogs j hj) (fun b e hs => ?_), fun j hj => hf.own (h.ovs j hj) (h2 j hj), h.apg⟩
  · have := (World.ownsRow.lt h.row b e).1
    have := h1 b hs; omega
  · rcases h.apg j hj b e with q | q
    · exact h2 j hj b q hs
    · have := h1 b hs; omega
theorem GRs.keep (h : GRs E L m B b0 n vs ms W out gs) (hb : Bl W W') : GRs E L m B b0 n vs ms W' out gs := ⟨ownsRow_bl h.row hb, fun j hj => ownsRow_bl (h.ogs j hj) hb, fun j hj => ownsRow_bl (h.ovs j hj) hb, h.apg⟩
end
/-- own rows of a kind, in a world -/
def OWk (B E z n : Nat) (vs : Nat → Value) (ln : Nat → Nat) (cs : Nat → List Value) (W : World) : Prop := ∀ j, j < n → W.ownsRow B E z (vs j) (ln j) (cs j)
theorem OWk.fr {B E z n : Nat} {vs : Nat → Value} {ln : Nat → Nat} {cs : Nat → List Value} {W W' : World} {S : Nat → Prop} (h : OWk B E z n vs ln cs W) (hf : Fr S W W') (h2 : ∀ b, SBk n vs b → ¬ S b) : OWk B E z n vs ln cs W' := fun j hj => hf.own (h j hj) (fun b e => h2 b ⟨j, hj, e⟩)
theorem OWk.keep {B E z n : Nat} {vs : Nat → Value} {ln : Nat → Nat} {cs : Nat → List Value} {W W' : World} (h : OWk B E z n vs ln cs W) (hb : Bl W W') : OWk B E z n vs ln cs W' := fun j hj => ownsRow_bl (h j hj) hb
section
variable {k : BKd} {B : Nat} {w : World} {g : Nat} {n : Nat → Nat} {vv wv : Nat → Value} {vs us : Nat → Nat → Value} {ln : Nat → Nat → Nat} {cs : Nat → Nat → List Value} {D : Nat → Nat → Nat → Prop} {T : Nat → Prop}
/-- what of a book's state says which blocks lie apart -/
theorem BookX.sb_g (h : BookX k B w g n vv wv vs us ln cs D T) {p : Nat} (hp : p ∈ k.K) : ¬ SBk (n p) (vs p) g := fun ⟨j, hj, e⟩ => h.vap p hp j hj g e (.inl rfl)
theorem BookX.sb_row (h : BookX k B w g n vv wv vs us ln cs D T) {p q : Nat} (hp : p ∈ k.K) {b : Nat} (e : (vv q).ownBlock = some b) : ¬ SBk (n p) (vs p) b := fun ⟨j, hj, e2⟩ => h.vap p hp j hj b e2 (.inr ⟨q, .inl e⟩)
theorem BookX.sb_sb (h : BookX k B w g n vv wv vs us ln cs D T) {p q : Nat} (hp : p ∈ k.K) (hq : q ∈ k.K) (hpq : p ≠ q) {b : Nat} (hb : SBk (n q) (vs q) b) : ¬ SBk (n p) (vs p) b := fun ⟨j, hj, e2⟩ => by
  obtain ⟨i, hi, e1⟩ := hb
  rcases h.avv p q hp hq j i hj hi (.inl hpq) with s | s
  · rw [s] at e2; cases e2
  · exact s (e2.trans e1.symm)
theorem BookX.sb_lt (h : BookX k B w g n vv wv vs us ln cs D T) {p : Nat} (hp : p ∈ k.K) {b : Nat} (hb : SBk (n p) (vs p) b) : b < w.heap.size ∧ B ≤ b ∧ ¬ T b := by
  obtain ⟨j, hj, e⟩ := hb
  have := World.ownsRow.lt (h.own p hp j hj) b e
  exact ⟨this.2, this.1, fun t => (h.t b t).2.2 p hp j hj e⟩
theorem BookX.ap (h : BookX k B w g n vv wv vs us ln cs D T) {p : Nat} (hp : p ∈ k.K) : ∀ i j, i < n p → j < n p → i ≠ j → (vs p i).ownBlock = none ∨ (vs p i).ownBlock ≠ (vs p j).ownBlock := fun i j hi hj hij => h.avv p p hp hp i j hi hj (.inr hij)
end
end Go.Proofs.YtkpikmfijcffiaaGreat
end
