import Derived.Test.YtaplefelfiefaaaGreatQArchiveTellsUptoP34
import Derived.Test.YtaplefelfiefaaaGreatQArchiveTellsUptoP33
import Derived.Test.YtaplefelfiefaaaGreatQArchiveTellsUptoP1
import Derived.Test.YtaplefelfiefaaaGreatQArchiveTellsUptoP6
import Derived.Test.YtaplefelfiefaaaGreatQArchiveTellsUptoP29

/- bedrockbook.Book.Vecs: one more list is kept. By an AI agent. -/
section
set_option linter.unusedVariables false
namespace Go.Proofs.YtaplefelfiefaaaGreat
open Go.RowKit
attribute [local go_sem] eOp eOper eUpon pOp pOper pUpon

/-- the copy reads as the list -/
def CpV (ps : List (Int)) (u : Value) (W : World) (D : Nat → Prop) : Prop := ∃ a n c, u = .slice a n c ∧ IA W a n ps ∧ ∀ x off, a = some ⟨x, off, none⟩ → 0 < n → D x
set_option maxHeartbeats 2000000 in
set_option maxRecDepth 100000 in
theorem regVecs_any (B g n : Nat) (hs : List Value) (vv wv : Value) (vcs ucs : List Value) (a : Option Addr) (nv c : Nat) (ps : List (Int)) (w : World) (hn : n < 250) (hB : B ≤ w.heap.size) (hbox : AC w g hs) (hhl : hs.length = 30) (h4 : hs[4]? = some vv) (h5 : hs[5]? = some wv)
    (hv : w.ownsRow B 22 1 vv n vcs) (hu : w.ownsRow B 22 1 wv n ucs) (hgv : vv.ownBlock ≠ some g) (hgu : wv.ownBlock ≠ some g) (hvu : wv.ownBlock = none ∨ wv.ownBlock ≠ vv.ownBlock) (hx : IA w a nv ps) (hnv : nv ≤ 1000000)
    (hxg : ∀ b off, a = some ⟨b, off, none⟩ → 0 < nv → ¬ (b = g ∨ vv.ownBlock = some b ∨ wv.ownBlock = some b)) :
    Calls Tryz.prog 57 #[.pointer (some ⟨g, 0, none⟩), .slice a nv c] w fun e w' => e = .returned (.tuple #[]) ∧ ∃ vv' wv' u Dn, RPk 22 4 B (CpV ps) w w' g n hs vv wv vcs ucs (.slice a nv c) vv' wv' u Dn := by
  obtain ⟨va, cv, rfl⟩ := row_shape' hv
  have HBX := Lib.hid hbox
  have HU := Lib.hid hu
  have HV := Lib.hid hv
  have HX := Lib.hid hx
  have HXG := Lib.hid hxg
  have HGV := Lib.hid hgv
  have HGU := Lib.hid hgu
  have HVU := Lib.hid hvu
  have HH4 := Lib.hid h4
  have HH5 := Lib.hid h5
  have HHL := Lib.hid hhl
  have hgl := hbox.lt
  clear hu hv hx hxg hgv hgu hvu hbox h4 h5 hhl
  have c4 := HBX.out.at_ HH4.out
  have hn1 : decide ((n : Int) < 250) = true := decide_eq_true (by omega)
  have hn2 : decide (n < 250) = true := decide_eq_true hn
  go_enter Tryz.func57, Tryz.ntmps57
  have hbA := (Bl.refl w).alloc (.cells #[.slice a nv c] 22)
  have hlit : (w.alloc (.cells #[.slice a nv c] 22)).heap[w.heap.size]? = some (.cells [.slice a nv c].toArray 22 (0, 0)) := heap_alloc_new w _
  have HLT := Lib.hid (SG.lit (size := 1) hlit rfl (by intro u hu; simp at hu; subst hu; rfl))
  have hva := ownsRow_bl HV.out hbA
  have HBA := Lib.hid hbA
  clear hlit hbA
  go_wp2_with (at_builtin; refine wpList_appK rfl _ _ _ rfl el_rowsV B _ _ _ rfl hva ?cB (some ⟨w.heap.size, 0, none⟩) 1 1 _ rfl HLT.out ?cM ?cN ?_)
  case cB => simp; omega
  case cM => unfold maxLen; omega
  case cN => omega
  intro vv' w1 ho hg _ hb
  obtain ⟨va', cv', rfl⟩ := row_shape' ho
  have hfr : Fr (fun b => b = g ∨ (Value.slice va n cv).ownBlock = some b ∨ wv.ownBlock = some b) w w1 := ((Fr.refl _ w).bl HBA.out).grown hg (fun i e => .inr (.inl e))
  have hbx : AC w1 g hs := by
    have h1 := HBX.out.keep HBA.out
    obtain ⟨t, h2⟩ := h1
    exact ⟨t, by rw [hg.block g (lt_of_heap h2) (fun e => HGV.out e.symm)]; exact h2⟩
  have hu1 : w1.ownsRow B 22 1 wv n ucs := World.ownsRow.kept (ownsRow_bl HU.out HBA.out) hg HVU.out
  have c4' := hbx.at_ HH4.out
  have f4 := hbx.frozen 4
  have HFR := Lib.hid hfr
  have HB1 := Lib.hid hbx
  have HU1 := Lib.hid hu1
  have HO := Lib.hid ho
  have HBV := Lib.hid hb
  have HSZ := Lib.hid (show w.heap.size < w1.heap.size from by have := hg.size; simp at this; omega)
  clear c4 ho hg hb hfr hbx hu1 hva hn1 hn2 hgl
  go_upto_region 2 with fail
  have HFR2 := Lib.hid (HFR.out.grown (grown_set' w1 g 4 (.slice va' (n + 1) cv')) (fun i e => .inl (Option.some.inj e).symm))
  have HB2 := Lib.hid (HB1.out.setc 4 (.slice va' (n + 1) cv'))
  have hvg : (Value.slice va' (n + 1) cv').ownBlock ≠ some g := fun e => by
    rcases HBV.out g e with q | q
    · exact HGV.out q
    · have := HBX.out.lt; have := HBA.out.size; omega
  have HVG := Lib.hid hvg
  have HO2 := Lib.hid (World.ownsRow.kept HO.out (grown_set' w1 g 4 (.slice va' (n + 1) cv')) (.inr hvg))
  have HU2 := Lib.hid (World.ownsRow.kept HU1.out (grown_set' w1 g 4 (.slice va' (n + 1) cv')) (.inr HGU.out))
  have HX2 := Lib.hid (HX.out.fr HFR2.out HXG.out)
  have hsz2 : w.heap.size < (w1.setCell ⟨g, 4, none⟩ (.slice va' (n + 1) cv')).heap.size := by simp; exact HSZ.out
  have HSZ2 := Lib.hid hsz2
  obtain ⟨hs2, hhs2⟩ : ∃ x, hs.set 4 (.slice va' (n + 1) cv') = x := ⟨_, rfl⟩
  rw [hhs2] at HB2
  obtain ⟨ua, cu, hwv⟩ := row_shape' HU2.out
  subst hwv
  have H25 := Lib.hid (show hs2[5]? = some (.slice ua n cu) by rw [← hhs2, List.getElem?_set_ne (by decide)]; exact HH5.out)
  have HHS2 := Lib.hid hhs2
  clear hvg hsz2 f4 c4' HFR HB1 HO HU1 HLT hhs2
  generalize w1.setCell _ _ = w2 at *
  refine wp_region_panicsT [0, 1, 2, 3, 4, 5] 6 (HasBox g hs2) HasBox.keep (HB2.out.keep ((Bl.refl w2).drew)) [11] (fun c W' => False) ?hR (by kernel_rfl) rfl (by kernel_rfl) (by kernel_rfl) (by kernel_rfl) ?_
  case hR => intro c tt W' h; exact h.elim
  have HBZ := Lib.hid ((Bl.refl w2).drew)
  generalize w2.drew = Z at *
  have HBXZ := Lib.hid (HB2.out.keep HBZ.out)
  haveI : Nonempty (ExtC (HasBox g hs2)) := ⟨⟨Z, HBXZ.out⟩⟩
  have d5 : ∀ q : ExtC (HasBox g hs2), _ := fun q => AC.at_ q.ok H25.out
  repeat (refine wpI_step rfl (fun K hK => ?_); go_simp; first | (refine hK _ ?_; clear hK K) | (apply Exists.intro; refine ⟨fun q => ?_, hK _ ?_⟩; fail; clear hK K))
  refine wpI_nil ?_
  clear d5 this
  refine wpAnyP_one (i := 6) (by kernel_rfl) ?_
  intro Y1 hy1
  have HY1 := Lib.hid (HBZ.out.trans hy1)
  clear hy1
  go_simp
  refine (copyVecsk_any a nv c ps Y1 (HX2.out.keep HY1.out)).mono ?_
  rintro e Y2 ⟨u, rfl, hfi, hb2⟩
  have HY2 := Lib.hid (HY1.out.trans hb2)
  have HFI := Lib.hid hfi
  have hszA := HY1.out.size
  obtain ⟨a5, c5, hu5⟩ := row_shape' hfi
  subst hu5
  clear hb2 hfi
  go_simp
  refine ⟨HB2.out.keep HY2.out, ?_⟩
  refine wpAnyP_one (i := 7) (by kernel_rfl) ?_
  intro Y3 hy3
  go_simp
  have hbl := hy3.alloc (.cells #[.slice a5 nv c5] 22)
  have hlit : (Y3.alloc (.cells #[.slice a5 nv c5] 22)).heap[Y3.heap.size]? = some (.cells [.slice a5 nv c5].toArray 22 (0, 0)) := heap_alloc_new Y3 _
  have HLT := Lib.hid (SG.lit (size := 1) hlit rfl (by intro u hu; simp at hu; subst hu; rfl))
  have HY3 := Lib.hid (HY2.out.trans hbl)
  have HFI3 := Lib.hid (ownsRow_bl HFI.out hbl)
  refine ⟨HB2.out.keep HY3.out, ?_⟩
  clear hlit hbl hy3 HFI HY2
  generalize Y3.alloc _ = Y4 at *
  generalize Y3.heap.size = gl at *
  refine wpAnyP_one (i := 8) (by kernel_rfl) ?_
  intro Y5 hy5
  have HY5 := Lib.hid (HY3.out.trans hy5)
  have HFI5 := Lib.hid (ownsRow_bl HFI3.out hy5)
  have HL5 := Lib.hid (HLT.out.keep hy5)
  have HU5 := Lib.hid (ownsRow_bl HU2.out HY5.out)
  have HB5 := Lib.hid (HB2.out.keep HY5.out)
  have HO5 := Lib.hid (ownsRow_bl HO2.out HY5.out)
  have hsz5 := HY5.out.size
  clear hy5 HFI3 HLT HY3
  refine pOp_appk rfl rfl _ _ _ rfl el_rowsV B (.slice ua n cu) n ucs rfl HU5.out (by have := HSZ2.out; omega) (some ⟨gl, 0, none⟩) 1 1 _ rfl HL5.out (by unfold maxLen; omega) (by omega) ?_
  intro wv' Y6 ho6 hg6 hb6
  have hul : ∀ b, (Value.slice ua n cu).ownBlock = some b → b < w.heap.size := fun b e => (World.ownsRow.lt HU.out b e).2
  have hvu' : (Value.slice va' (n + 1) cv').ownBlock = none ∨ (Value.slice va' (n + 1) cv').ownBlock ≠ (Value.slice ua n cu).ownBlock := by
    cases e : (Value.slice va' (n + 1) cv').ownBlock with
    | none => exact .inl rfl
    | some b =>
      refine .inr (fun e2 => ?_)
      rcases HBV.out b e with q | q
      · rcases HVU.out with r | r
        · rw [r] at e2; cases e2
        · exact r (e2.symm.trans q.symm)
      · have := hul b e2.symm; omega
  have hbx6 : AC Y6 g hs2 := by
    obtain ⟨t, h2⟩ := HB5.out
    exact ⟨t, by rw [hg6.block g (lt_of_heap h2) (fun e => HGU.out e.symm)]; exact h2⟩
  have hfo6 : Y6.ownsRow Y1.heap.size 3 1 (.slice a5 nv c5) nv (ps.map (Value.int .i64)) := World.ownsRow.kept HFI5.out hg6 (by
    cases e : (Value.slice a5 nv c5).ownBlock with
    | none => exact .inl rfl
    | some b => exact .inr (fun e2 => by have := hul b e2.symm; have := (World.ownsRow.lt HFI5.out b e).1; have := HSZ2.out; omega))
  have HFI6 := Lib.hid hfo6
  have HO6 := Lib.hid (World.ownsRow.kept HO5.out hg6 hvu')
  have HB6 := Lib.hid hbx6
  have HW6 := Lib.hid ho6
  have HFR6 := Lib.hid ((HFR2.out.bl HY5.out).grown hg6 (fun i e => .inr (.inr e)))
  have HBU := Lib.hid (fun b (e : wv'.ownBlock = some b) => (hb6 b e).imp_right (fun q => Nat.le_trans (Nat.le_of_lt HSZ2.out) (Nat.le_trans hsz5 q)))
  have hau : ∀ b, (Value.slice a5 nv c5).ownBlock = some b → w2.heap.size ≤ b ∧ b < Y5.heap.size := fun b e => by
    have h1 := World.ownsRow.lt HFI5.out b e
    exact ⟨Nat.le_trans hszA h1.1, h1.2⟩
  have HAU : Hid (∀ b, (Value.slice a5 nv c5).ownBlock = some b → wv'.ownBlock ≠ some b) := Lib.hid (fun b e e2 => by
    have h1 := hau b e
    rcases hb6 b e2 with q | q
    · have := hul b q; have := HSZ2.out; omega
    · omega)
  have HAV : Hid (∀ b, (Value.slice a5 nv c5).ownBlock = some b → (Value.slice va' (n + 1) cv').ownBlock ≠ some b) := Lib.hid (fun b e e2 => by
    have h1 := hau b e
    have := (World.ownsRow.lt HO2.out b e2).2
    omega)
  have HAVU : Hid (wv'.ownBlock = none ∨ wv'.ownBlock ≠ (Value.slice va' (n + 1) cv').ownBlock) := Lib.hid (by
    cases e : wv'.ownBlock with
    | none => exact .inl rfl
    | some b =>
      refine .inr (fun e2 => ?_)
      rcases hb6 b e with q | q
      · rcases hvu' with r | r
        · rw [r] at e2; cases e2
        · exact r (e2.symm.trans q.symm)
      · have := (World.ownsRow.lt HO2.out b e2.symm).2; omega)
  have hwg : wv'.ownBlock ≠ some g := fun e => by
    rcases hb6 g e with q | q
    · exact HGU.out q
    · have := HBX.out.lt; have := HSZ2.out; omega
  have HWG := Lib.hid hwg
  refine ⟨fun _ => hbx6, ?_⟩
  simp only [Act.put, List.setIfInBounds_toArray]
  obtain ⟨wa, wc, hws⟩ := row_shape' ho6
  subst hws
  clear ho6 hg6 hb6 hul hvu' hbx6 hfo6 hau hwg HB5 HO5 HU5 HFI5 HL5 HY5 hsz5 HFR2 HO2 HU2 HX2 HB2
  refine wpAnyP_one (i := 9) (by kernel_rfl) ?_
  intro Y7 hy7
  go_simp
  refine ⟨HB6.out.keep hy7, ?_⟩
  refine wpAnyP_one (i := 10) (by kernel_rfl) ?_
  intro Y8 hy8
  go_simp
  refine ⟨HB6.out.keep (hy7.trans hy8), ?_⟩
  refine wpAnyP_one (i := 11) (by kernel_rfl) ?_
  intro Y9 hy9
  have HY9 := Lib.hid ((hy7.trans hy8).trans hy9)
  clear hy7 hy8 hy9
  have HB9 := Lib.hid (HB6.out.keep HY9.out)
  have c5' := HB9.out.at_ H25.out
  have f5' := HB9.out.frozen 5
  have HB10 := Lib.hid (HB9.out.setc 5 (.slice wa (n + 1) wc))
  have hgs := grown_set' Y9 g 5 (.slice wa (n + 1) wc)
  have HO10 := Lib.hid (World.ownsRow.kept (ownsRow_bl HO6.out HY9.out) hgs (.inr HVG.out))
  have HW10 := Lib.hid (World.ownsRow.kept (ownsRow_bl HW6.out HY9.out) hgs (.inr HWG.out))
  have hug : (Value.slice a5 nv c5).ownBlock ≠ some g := fun e => by
    have h1 := (World.ownsRow.lt HFI6.out g e).1
    have h2 := HBX.out.lt
    have h3 := HSZ2.out
    omega
  have HF10 := Lib.hid (World.ownsRow.kept (ownsRow_bl HFI6.out HY9.out) hgs (.inr hug))
  have HFR10 := Lib.hid ((HFR6.out.bl HY9.out).grown hgs (fun i e => .inl (Option.some.inj e).symm))
  clear hgs hug HO6 HW6 HFI6 HFR6 HB6 HB9 HY9
  go_simp
  clear c5' f5'
  generalize World.setCell _ _ _ = Y10 at *
  refine wpAnyP_done (by kernel_rfl) ?_
  intro Y11 hy11
  have HY := Lib.hid hy11
  clear hy11
  go_wp2_with fail
  go_end0
  have ho11 := ownsRow_bl HF10.out HY.out
  refine ⟨rfl, _, _, _, fun b => (Value.slice a5 nv c5).ownBlock = some b, ?_, ownsRow_bl HO10.out HY.out, ownsRow_bl HW10.out HY.out, ⟨a5, nv, c5, rfl, IA.ofOwn ho11 HX.out.len hnv HX.out.wf, fun x off e hp => ?_⟩, fun b e => ⟨(World.ownsRow.lt ho11 b e).2, ?_, HAV.out b e, HAU.out b e⟩, HFR10.out.bl HY.out, fun b e => (HBV.out b e).imp_right (fun q => by have := HBA.out.size; omega), HBU.out, HAVU.out⟩
  · rw [HHS2.out]; exact HB10.out.keep HY.out
  · obtain ⟨_, ⟨e3, h2⟩ | ⟨gi, cap, cur, e3, _⟩⟩ := ho11
    · cases e3; omega
    · simp only [Value.slice.injEq] at e3; rw [e3.1] at e ⊢; cases e; rfl
  · have h1 := (World.ownsRow.lt ho11 b e).1
    have h3 := HSZ2.out
    omega
theorem fullVecs_any (g : Nat) (hs : List Value) (va : Option Addr) (cv : Nat) (v : Value) (w : World) (hbox : AC w g hs) (h4 : hs[4]? = some (.slice va 250 cv)) :
    Calls Tryz.prog 57 #[.pointer (some ⟨g, 0, none⟩), v] w fun e w' => e = .returned (.tuple #[]) ∧ w = w' := by
  have c4 := hbox.at_ h4
  clear hbox h4
  go_enter Tryz.func57, Tryz.ntmps57
  go_wp2_with fail
  go_end0
  exact ⟨rfl, rfl⟩
end Go.Proofs.YtaplefelfiefaaaGreat
end

/- bedrockbook.name: the name of a mark. By an AI agent. -/
section
set_option linter.unusedVariables false
namespace Go.Proofs.YtaplefelfiefaaaGreat
open Go.RowKit

def nameN (i k : Nat) : List Int := [109, 65 + ((i % 26 : Nat) : Int), 65 + ((i / 26 % 26 : Nat) : Int), 48 + ((k % 10 : Nat) : Int), 48 + ((k / 10 % 10 : Nat) : Int), 48 + ((k / 100 % 10 : Nat) : Int)]
def nameB (i k : Nat) : ByteArray := strOfNums (nameN i k)
theorem nameB_size (i k : Nat) : (nameB i k).size = 6 := by
  unfold nameB
  rw [strOfNums_size]
  rfl
theorem name_any (i k : Nat) (w : World) (hi : i < 250) (hk : k < 100000) :
    Calls Tryz.prog 203 #[.int .i64 i, .int .i64 k] w fun e w' => e = .returned (.string (nameB i k)) ∧ Bl w w' := by
  have t1 : Int.tmod (i : Int) 26 = ((i % 26 : Nat) : Int) := by rw [Int.tmod_eq_emod_of_nonneg (by omega)]; omega
  have t2 : Int.tdiv (i : Int) 26 = ((i / 26 : Nat) : Int) := by rw [Int.tdiv_eq_ediv_of_nonneg (by omega)]; omega
  have t3 : Int.tmod ((i / 26 : Nat) : Int) 26 = ((i / 26 % 26 : Nat) : Int) := by rw [Int.tmod_eq_emod_of_nonneg (by omega)]; omega
  have t4 : Int.tmod (k : Int) 10 = ((k % 10 : Nat) : Int) := by rw [Int.tmod_eq_emod_of_nonneg (by omega)]; omega
  have t5 : Int.tdiv (k : Int) 10 = ((k / 10 : Nat) : Int) := by rw [Int.tdiv_eq_ediv_of_nonneg (by omega)]; omega
  have t6 : Int.tmod ((k / 10 : Nat) : Int) 10 = ((k / 10 % 10 : Nat) : Int) := by rw [Int.tmod_eq_emod_of_nonneg (by omega)]; omega
  have t7 : Int.tdiv (k : Int) 100 = ((k / 100 : Nat) : Int) := by rw [Int.tdiv_eq_ediv_of_nonneg (by omega)]; omega
  have t8 : Int.tmod ((k / 100 : Nat) : Int) 10 = ((k / 100 % 10 : Nat) : Int) := by rw [Int.tmod_eq_emod_of_nonneg (by omega)]; omega
  have b1 : i % 26 < 26 := Nat.mod_lt _ (by decide)
  have b2 : i / 26 % 26 < 26 := Nat.mod_lt _ (by decide)
  have b3 : k % 10 < 10 := Nat.mod_lt _ (by decide)
  have b4 : k / 10 % 10 < 10 := Nat.mod_lt _ (by decide)
  have b5 : k / 100 % 10 < 10 := Nat.mod_lt _ (by decide)
  have d1 : i / 26 < 250 := by omega
  have d2 : k / 10 < 100000 := by omega
  have d3 : k / 100 < 100000 := by omega
  have HN : Hid (nameB i k = strOfNums (nameN i k)) := Lib.hid rfl
  unfold nameN at HN
  generalize i % 26 = n1 at *
  generalize i / 26 % 26 = n2 at *
  generalize k % 10 = n3 at *
  generalize k / 10 % 10 = n4 at *
  generalize k / 100 % 10 = n5 at *
  generalize i / 26 = m1 at *
  generalize k / 10 = m2 at *
  generalize k / 100 = m3 at *
  have w1 : IntKind.u8.wrap (65 + (n1 : Int)) = 65 + (n1 : Int) := by rw [IntKind.wrap_u8]; omega
  have w2 : IntKind.u8.wrap (65 + (n2 : Int)) = 65 + (n2 : Int) := by rw [IntKind.wrap_u8]; omega
  have w3 : IntKind.u8.wrap (48 + (n3 : Int)) = 48 + (n3 : Int) := by rw [IntKind.wrap_u8]; omega
  have w4 : IntKind.u8.wrap (48 + (n4 : Int)) = 48 + (n4 : Int) := by rw [IntKind.wrap_u8]; omega
  have w5 : IntKind.u8.wrap (48 + (n5 : Int)) = 48 + (n5 : Int) := by rw [IntKind.wrap_u8]; omega
  have hab : OB w.heap.size (w.alloc (.cells #[.int .u8 109, .int .u8 (65 + (n1 : Int)), .int .u8 (65 + (n2 : Int)), .int .u8 (48 + (n3 : Int)), .int .u8 (48 + (n4 : Int)), .int .u8 (48 + (n5 : Int))] 5)) (.slice (some ⟨w.heap.size, 0, none⟩) 6 6) [109, 65 + (n1 : Int), 65 + (n2 : Int), 48 + (n3 : Int), 48 + (n4 : Int), 48 + (n5 : Int)] :=
    ⟨by simp, .inr ⟨w.heap.size, 6, #[.int .u8 109, .int .u8 (65 + (n1 : Int)), .int .u8 (65 + (n2 : Int)), .int .u8 (48 + (n3 : Int)), .int .u8 (48 + (n4 : Int)), .int .u8 (48 + (n5 : Int))], rfl, Nat.le_refl _, heap_alloc_new w _, Nat.le_refl _, by decide, by simp, by simp⟩⟩
  have hst := hab.string rfl
  have hbl := (Bl.refl w).alloc (.cells #[.int .u8 109, .int .u8 (65 + (n1 : Int)), .int .u8 (65 + (n2 : Int)), .int .u8 (48 + (n3 : Int)), .int .u8 (48 + (n4 : Int)), .int .u8 (48 + (n5 : Int))] 5)
  clear hab
  go_enter Tryz.func203, Tryz.ntmps203
  go_wp2_with fail
  go_ret
  exact ⟨by rw [HN.out]; rfl, hbl⟩
end Go.Proofs.YtaplefelfiefaaaGreat
end

/- bedrockbook over Pairs: what they read as, their marks, their copies. By an AI agent. -/
section
namespace Go.Proofs.YtaplefelfiefaaaGreat
open Go.RowKit

/-- an own row reads as what its cells are -/
theorem PP.own {B : Nat} {w : World} {a : Option Addr} {n c : Nat} {ps : List (ByteArray × ValL)} (h : w.ownsRow B 58 5 (.slice a n c) n (cellsP ps)) (hl : ps.length = n) (hn : n ≤ 1000000) (hok : ∀ p ∈ ps, PaOk p) : PP w a n ps := by
  refine ⟨hl, by omega, fun j0 hj0 => ?_, hok⟩
  obtain ⟨h1, ⟨e, h2⟩ | ⟨g, cap, cur, e, hB, hg, hnc, hm, hs, ht⟩⟩ := h
  · cases e; omega
  · simp only [Value.slice.injEq, true_and] at e
    obtain ⟨rfl, rfl⟩ := e
    refine ⟨g, 0, rfl, fun j hj => ?_⟩
    have ho : w.ownsRow B 58 5 (.slice (some ⟨g, 0, none⟩) n c) n (cellsP ps) := ⟨h1, .inr ⟨g, c, cur, rfl, hB, hg, hnc, hm, hs, ht⟩⟩
    have key : ∀ r, r < 5 → w.cell? ⟨g, 0 + j * 5 + r, none⟩ = (pairCs (nthQ ps j))[r]? := fun r hr => by
      rw [Nat.zero_add, ho.cellAt (j * 5 + r) (by omega)]
      exact cellsP_get ps j (by omega) r hr
    exact ⟨key 0 (by omega), key 1 (by omega), key 2 (by omega), key 3 (by omega), key 4 (by omega)⟩
theorem PP.sg5 {w : World} {a : Option Addr} {n : Nat} {ps : List (ByteArray × ValL)} (h : PP w a n ps) : SG w 5 a n (cellsP ps) := by
  refine ⟨by rw [cellsP_len, h.len], fun ad e j u hu => ?_, fun e => ?_, fun u hu => ?_⟩
  · have hjl : j < n * 5 := by
      have := (List.getElem?_eq_some_iff.1 hu).1
      rwa [cellsP_len, h.len] at this
    have hi : j / 5 < n := by omega
    obtain ⟨b, off, e', hc⟩ := h.cells (j / 5) hi
    rw [e] at e'
    obtain rfl := Option.some.inj e'
    have hg := cellsP_get ps (j / 5) (by rw [h.len]; exact hi) (j % 5) (by omega)
    rw [show j / 5 * 5 + j % 5 = j by omega, hu] at hg
    have hcc := hc (j / 5) hi
    rw [Addr.add_lit, show off + j = off + j / 5 * 5 + j % 5 by omega]
    have hr : j % 5 < 5 := by omega
    generalize j % 5 = r at hg hr
    match r, hr with
    | 0, _ => rw [Nat.add_zero, hcc.c0]; exact hg.symm
    | 1, _ => rw [hcc.c1]; exact hg.symm
    | 2, _ => rw [hcc.c2]; exact hg.symm
    | 3, _ => rw [hcc.c3]; exact hg.symm
    | 4, _ => rw [hcc.c4]; exact hg.symm
  · subst e
    by_cases hn : 0 < n
    · obtain ⟨b, off, e', _⟩ := h.cells 0 hn
      cases e'
    · omega
  · obtain ⟨p, _, hp⟩ := List.mem_flatMap.1 hu
    simp only [pairCs, List.mem_cons, List.not_mem_nil, or_false] at hp
    rcases hp with rfl | rfl | rfl | rfl | rfl <;> rfl
theorem PP.fr {S : Nat → Prop} {w w' : World} (h : Fr S w w') {a : Option Addr} {n : Nat} {ps : List (ByteArray × ValL)} (hp : PP w a n ps) (hs : ∀ b off, a = some ⟨b, off, none⟩ → 0 < n → ¬ S b) : PP w' a n ps := by
  refine ⟨hp.len, hp.cap, fun j0 hj0 => ?_, hp.ok⟩
  obtain ⟨b, off, e, hc⟩ := hp.cells j0 hj0
  have hS := hs b off e (by omega)
  exact ⟨b, off, e, fun j hj => ⟨h.cell (hc j hj).c0 hS, h.cell (hc j hj).c1 hS, h.cell (hc j hj).c2 hS, h.cell (hc j hj).c3 hS, h.cell (hc j hj).c4 hS⟩⟩
/-- the marks -/
def markP (i f n : Nat) : List (ByteArray × ValL) := (List.range n).map fun k => (nameB i (f + k), ⟨false, 0, 0, ⟨#[]⟩⟩)
def mkP : MK := ⟨5, fun i k => pairCs (nameB i k, ⟨false, 0, 0, ⟨#[]⟩⟩), fun _ _ => rfl, by decide⟩
theorem markP_len (i f n : Nat) : (markP i f n).length = n := by simp [markP]
theorem markP_cells (i f n : Nat) : cellsP (markP i f n) = mkP.row i f n := by
  unfold cellsP markP MK.row
  rw [List.flatMap_map]
  rfl
theorem markP_ok (i f n : Nat) : ∀ p ∈ markP i f n, PaOk p := by
  intro p hp
  simp only [markP, List.mem_map, List.mem_range] at hp
  obtain ⟨k, _, rfl⟩ := hp
  exact ⟨by rw [nameB_size]; decide, (show ValL.Ok ⟨false, 0, 0, ⟨#[]⟩⟩ from ⟨by decide, by decide, by decide⟩)⟩
theorem bookSamePs_anyY (a : Option Addr) (n ca : Nat) (ps : List (ByteArray × ValL)) (b : Option Addr) (cb : Nat) (w : World) (hx : PP w a n ps) (hy : PP w b n ps) :
    Calls Tryz.prog 153 #[.slice a n ca, .slice b n cb] w fun e w' => e = .returned (.bool true) ∧ Bl w w' := by
  exact bookSamePs_self a b n ca cb ps w hx hy

set_option maxHeartbeats 1000000 in
theorem markPairs_any (i f n : Nat) (w : World) (hi250 : i < 250) (hf : f + n ≤ 100000) :
    Calls Tryz.prog 173 #[.int .i64 i, .int .i64 f, .int .i64 n] w fun e w' => ∃ v, e = .returned v ∧ w'.ownsRow w.heap.size 58 5 v n (mkP.row i f n) ∧ Bl w w' := by
  have hfi : (f : Int) + (n : Int) ≤ 100000 := by omega
  have hsf := store_fl
  go_enter Tryz.func173, Tryz.ntmps173
  go_wp2_with fail
  go_loopw [7, 8] (fun v c wr => ∃ k : Nat, k ≤ n ∧ c = .int .i64 ((f + k : Nat) : Int) ∧ Bl w wr ∧ wr.ownsRow w.heap.size 58 5 v k (mkP.row i f k)) (fun _ c _ => f + n - (intOf c).toNat)
  case atStart => exact ⟨0, Nat.zero_le _, rfl, Bl.refl _, World.ownsRow_nil _ _ _ _⟩
  case round =>
    obtain ⟨k, hk, rfl, hbl, hown⟩ := hrel
    have hbs := hbl.size
    obtain ⟨c, hc⟩ : ∃ c, f + k = c := ⟨_, rfl⟩
    rw [hc]
    by_cases hlt : k < n
    · have hlt2 : (c : Int) < (f : Int) + (n : Int) := by omega
      have hlt3 : c < f + n := by omega
      have hcb : c < 100000 := by omega
      have HC := Lib.hid hc
      clear hc
      go_wp2_with fail
      refine (name_any i c wr hi250 hcb).mono ?_
      rintro e W1 ⟨rfl, hb1⟩
      obtain ⟨nm, hnm⟩ : ∃ x, nameB i c = x := ⟨_, rfl⟩
      have HNM := Lib.hid hnm
      rw [hnm]
      have hbA := hb1.alloc (.cells #[.string nm, .bool false, .float .f64 0, .int .i64 0, .string ⟨#[]⟩] 58)
      have howA := ownsRow_bl hown hbA
      have hsz := hbA.size
      have HBA := Lib.hid (hbl.trans hbA)
      have HOA := Lib.hid howA
      clear hnm hb1 hown howA hbA hbl
      go_wp2_with (at_builtin; refine wpList_appG rfl _ _ _ rfl el_pair w.heap.size _ _ _ rfl HOA.out ?c1 _ 1 1 [.string nm, .bool false, .float .f64 0, .int .i64 0, .string ⟨#[]⟩] rfl (SG.lit (heap_alloc_new _ _) rfl (by simp [Value.oneCell'])) ?c2 ?c3 ?_)
      case c1 => omega
      case c2 => unfold maxLen; omega
      case c3 => omega
      intro v' w1 hown' hgrow
      have HB1 := Lib.hid (HBA.out.ownRow HOA.out (Nat.le_refl _) hgrow)
      have HO1 := Lib.hid (show w1.ownsRow w.heap.size 58 5 v' (k + 1) (mkP.row i f (k + 1)) by
        rw [mkP.row_succ, HC.out]
        show w1.ownsRow w.heap.size 58 5 v' (k + 1) (mkP.row i f k ++ pairCs (nameB i c, ⟨false, 0, 0, ⟨#[]⟩⟩))
        rw [HNM.out]
        exact hown')
      clear hown' hgrow HBA HOA
      go_wp2_with fail
      go_roundw
      case rel => exact ⟨k + 1, by omega, by have := HC.out; go_num, HB1.out, HO1.out⟩
      case measure => simp [intOf]; omega
    · have hge : ¬ ((c : Int) < (f : Int) + (n : Int)) := by omega
      have e1 : k = n := by omega
      subst e1
      go_wp2_with fail
      go_ret
      exact ⟨_, rfl, hown, hbl⟩
end Go.Proofs.YtaplefelfiefaaaGreat
end
