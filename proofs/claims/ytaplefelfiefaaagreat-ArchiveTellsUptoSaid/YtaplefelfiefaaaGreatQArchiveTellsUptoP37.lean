import Derived.Test.YtaplefelfiefaaaGreatQArchiveTellsUptoP36
import Derived.Test.YtaplefelfiefaaaGreatQArchiveTellsUptoP33
import Derived.Test.YtaplefelfiefaaaGreatQArchiveTellsUptoP30
import Derived.Test.YtaplefelfiefaaaGreatQArchiveTellsUptoP35
import Derived.Test.YtaplefelfiefaaaGreatQArchiveTellsUptoP34
import Derived.Test.YtaplefelfiefaaaGreatQArchiveTellsUptoP11
import Derived.Test.YtaplefelfiefaaaGreatQArchiveTellsUptoP14

/- bedrockbook.Book.Pairs: one more list is kept. By an AI agent. -/
section
set_option linter.unusedVariables false
namespace Go.Proofs.YtaplefelfiefaaaGreat
open Go.RowKit
attribute [local go_sem] eOp eOper eUpon pOp pOper pUpon

theorem copyPairs_any (a : Option Addr) (n c : Nat) (ps : List (ByteArray × ValL)) (w : World) (hx : PP w a n ps) :
    Calls Tryz.prog 58 #[.slice a n c] w fun e w' => ∃ v, e = .returned v ∧ w'.ownsRow w.heap.size 58 5 v n (cellsP ps) ∧ Bl w w' := by
  have hcap := hx.cap
  have HX := Lib.hid hx.sg5
  clear hx
  go_enter Tryz.func58, Tryz.ntmps58
  go_wp2_with (at_builtin; refine wpList_appG rfl _ _ _ rfl el_pair w.heap.size (.slice none 0 0) 0 [] rfl (World.ownsRow_nil _ _ _ _) (Nat.le_refl _) a n c _ rfl HX.out ?cM ?cN ?_)
  case cM => unfold maxLen; omega
  case cN => omega
  intro v w1 ho hg
  have hb : Bl w w1 := (Bl.refl w).ownRow (World.ownsRow_nil w w.heap.size 58 5) (Nat.le_refl _) hg
  have hoi : w1.ownsRow w.heap.size 58 5 v n (cellsP ps) := by simpa using ho
  have HB := Lib.hid hb
  have HO := Lib.hid hoi
  clear ho hg hb hoi
  go_wp2_with fail
  go_ret
  exact ⟨_, rfl, HO.out, HB.out⟩
/-- the copy reads as the list -/
def CpP (ps : List (ByteArray × ValL)) (u : Value) (W : World) (D : Nat → Prop) : Prop := ∃ a n c, u = .slice a n c ∧ PP W a n ps ∧ ∀ x off, a = some ⟨x, off, none⟩ → 0 < n → D x
set_option maxHeartbeats 2000000 in
set_option maxRecDepth 100000 in
theorem regPairs_any (B g n : Nat) (hs : List Value) (vv wv : Value) (vcs ucs : List Value) (a : Option Addr) (nv c : Nat) (ps : List (ByteArray × ValL)) (w : World) (hn : n < 250) (hB : B ≤ w.heap.size) (hbox : AC w g hs) (hhl : hs.length = 30) (h4 : hs[8]? = some vv) (h5 : hs[9]? = some wv)
    (hv : w.ownsRow B 24 1 vv n vcs) (hu : w.ownsRow B 24 1 wv n ucs) (hgv : vv.ownBlock ≠ some g) (hgu : wv.ownBlock ≠ some g) (hvu : wv.ownBlock = none ∨ wv.ownBlock ≠ vv.ownBlock) (hx : PP w a nv ps) (hnv : nv ≤ 1000000)
    (hxg : ∀ b off, a = some ⟨b, off, none⟩ → 0 < nv → ¬ (b = g ∨ vv.ownBlock = some b ∨ wv.ownBlock = some b)) :
    Calls Tryz.prog 21 #[.pointer (some ⟨g, 0, none⟩), .slice a nv c] w fun e w' => e = .returned (.tuple #[]) ∧ ∃ vv' wv' u Dn, RPk 24 8 B (CpP ps) w w' g n hs vv wv vcs ucs (.slice a nv c) vv' wv' u Dn := by
  obtain ⟨va, cv, rfl⟩ := row_shape' hv
  have HBX := Lib.hid hbox
  have HU := Lib.hid hu
  have HV := Lib.hid hv
  have HX := Lib.hid hx
  have HXG := Lib.hid hxg
  have HGV := Lib.hid hgv
  have HGU := Lib.hid hgu
  have HVU := Lib.hid hvu
  have HH4 := Lib.hid h4
  have HH5 := Lib.hid h5
  have HHL := Lib.hid hhl
  have hgl := hbox.lt
  clear hu hv hx hxg hgv hgu hvu hbox h4 h5 hhl
  have c4 := HBX.out.at_ HH4.out
  have hn1 : decide ((n : Int) < 250) = true := decide_eq_true (by omega)
  have hn2 : decide (n < 250) = true := decide_eq_true hn
  go_enter Tryz.func21, Tryz.ntmps21
  have hbA := (Bl.refl w).alloc (.cells #[.slice a nv c] 24)
  have hlit : (w.alloc (.cells #[.slice a nv c] 24)).heap[w.heap.size]? = some (.cells [.slice a nv c].toArray 24 (0, 0)) := heap_alloc_new w _
  have HLT := Lib.hid (SG.lit (size := 1) hlit rfl (by intro u hu; simp at hu; subst hu; rfl))
  have hva := ownsRow_bl HV.out hbA
  have HBA := Lib.hid hbA
  clear hlit hbA
  go_wp2_with (at_builtin; refine wpList_appK rfl _ _ _ rfl el_rowsP B _ _ _ rfl hva ?cB (some ⟨w.heap.size, 0, none⟩) 1 1 _ rfl HLT.out ?cM ?cN ?_)
  case cB => simp; omega
  case cM => unfold maxLen; omega
  case cN => omega
  intro vv' w1 ho hg _ hb
  obtain ⟨va', cv', rfl⟩ := row_shape' ho
  have hfr : Fr (fun b => b = g ∨ (Value.slice va n cv).ownBlock = some b ∨ wv.ownBlock = some b) w w1 := ((Fr.refl _ w).bl HBA.out).grown hg (fun i e => .inr (.inl e))
  have hbx : AC w1 g hs := by
    have h1 := HBX.out.keep HBA.out
    obtain ⟨t, h2⟩ := h1
    exact ⟨t, by rw [hg.block g (lt_of_heap h2) (fun e => HGV.out e.symm)]; exact h2⟩
  have hu1 : w1.ownsRow B 24 1 wv n ucs := World.ownsRow.kept (ownsRow_bl HU.out HBA.out) hg HVU.out
  have c4' := hbx.at_ HH4.out
  have f4 := hbx.frozen 8
  have HFR := Lib.hid hfr
  have HB1 := Lib.hid hbx
  have HU1 := Lib.hid hu1
  have HO := Lib.hid ho
  have HBV := Lib.hid hb
  have HSZ := Lib.hid (show w.heap.size < w1.heap.size from by have := hg.size; simp at this; omega)
  clear c4 ho hg hb hfr hbx hu1 hva hn1 hn2 hgl
  go_upto_region 2 with fail
  have HFR2 := Lib.hid (HFR.out.grown (grown_set' w1 g 8 (.slice va' (n + 1) cv')) (fun i e => .inl (Option.some.inj e).symm))
  have HB2 := Lib.hid (HB1.out.setc 8 (.slice va' (n + 1) cv'))
  have hvg : (Value.slice va' (n + 1) cv').ownBlock ≠ some g := fun e => by
    rcases HBV.out g e with q | q
    · exact HGV.out q
    · have := HBX.out.lt; have := HBA.out.size; omega
  have HVG := Lib.hid hvg
  have HO2 := Lib.hid (World.ownsRow.kept HO.out (grown_set' w1 g 8 (.slice va' (n + 1) cv')) (.inr hvg))
  have HU2 := Lib.hid (World.ownsRow.kept HU1.out (grown_set' w1 g 8 (.slice va' (n + 1) cv')) (.inr HGU.out))
  have HX2 := Lib.hid (HX.out.fr HFR2.out HXG.out)
  have hsz2 : w.heap.size < (w1.setCell ⟨g, 8, none⟩ (.slice va' (n + 1) cv')).heap.size := by simp; exact HSZ.out
  have HSZ2 := Lib.hid hsz2
  obtain ⟨hs2, hhs2⟩ : ∃ x, hs.set 8 (.slice va' (n + 1) cv') = x := ⟨_, rfl⟩
  rw [hhs2] at HB2
  obtain ⟨ua, cu, hwv⟩ := row_shape' HU2.out
  subst hwv
  have H25 := Lib.hid (show hs2[9]? = some (.slice ua n cu) by rw [← hhs2, List.getElem?_set_ne (by decide)]; exact HH5.out)
  have HHS2 := Lib.hid hhs2
  clear hvg hsz2 f4 c4' HFR HB1 HO HU1 HLT hhs2
  generalize w1.setCell _ _ = w2 at *
  refine wp_region_panicsT [0, 1, 2, 3, 4, 5] 6 (HasBox g hs2) HasBox.keep (HB2.out.keep ((Bl.refl w2).drew)) [11] (fun c W' => False) ?hR (by kernel_rfl) rfl (by kernel_rfl) (by kernel_rfl) (by kernel_rfl) ?_
  case hR => intro c tt W' h; exact h.elim
  have HBZ := Lib.hid ((Bl.refl w2).drew)
  generalize w2.drew = Z at *
  have HBXZ := Lib.hid (HB2.out.keep HBZ.out)
  haveI : Nonempty (ExtC (HasBox g hs2)) := ⟨⟨Z, HBXZ.out⟩⟩
  have d5 : ∀ q : ExtC (HasBox g hs2), _ := fun q => AC.at_ q.ok H25.out
  repeat (refine wpI_step rfl (fun K hK => ?_); go_simp; first | (refine hK _ ?_; clear hK K) | (apply Exists.intro; refine ⟨fun q => ?_, hK _ ?_⟩; fail; clear hK K))
  refine wpI_nil ?_
  clear d5 this
  refine wpAnyP_one (i := 6) (by kernel_rfl) ?_
  intro Y1 hy1
  have HY1 := Lib.hid (HBZ.out.trans hy1)
  clear hy1
  go_simp
  refine (copyPairs_any a nv c ps Y1 (HX2.out.keep HY1.out)).mono ?_
  rintro e Y2 ⟨u, rfl, hfi, hb2⟩
  have HY2 := Lib.hid (HY1.out.trans hb2)
  have HFI := Lib.hid hfi
  have hszA := HY1.out.size
  obtain ⟨a5, c5, hu5⟩ := row_shape' hfi
  subst hu5
  clear hb2 hfi
  go_simp
  refine ⟨HB2.out.keep HY2.out, ?_⟩
  refine wpAnyP_one (i := 7) (by kernel_rfl) ?_
  intro Y3 hy3
  go_simp
  have hbl := hy3.alloc (.cells #[.slice a5 nv c5] 24)
  have hlit : (Y3.alloc (.cells #[.slice a5 nv c5] 24)).heap[Y3.heap.size]? = some (.cells [.slice a5 nv c5].toArray 24 (0, 0)) := heap_alloc_new Y3 _
  have HLT := Lib.hid (SG.lit (size := 1) hlit rfl (by intro u hu; simp at hu; subst hu; rfl))
  have HY3 := Lib.hid (HY2.out.trans hbl)
  have HFI3 := Lib.hid (ownsRow_bl HFI.out hbl)
  refine ⟨HB2.out.keep HY3.out, ?_⟩
  clear hlit hbl hy3 HFI HY2
  generalize Y3.alloc _ = Y4 at *
  generalize Y3.heap.size = gl at *
  refine wpAnyP_one (i := 8) (by kernel_rfl) ?_
  intro Y5 hy5
  have HY5 := Lib.hid (HY3.out.trans hy5)
  have HFI5 := Lib.hid (ownsRow_bl HFI3.out hy5)
  have HL5 := Lib.hid (HLT.out.keep hy5)
  have HU5 := Lib.hid (ownsRow_bl HU2.out HY5.out)
  have HB5 := Lib.hid (HB2.out.keep HY5.out)
  have HO5 := Lib.hid (ownsRow_bl HO2.out HY5.out)
  have hsz5 := HY5.out.size
  clear hy5 HFI3 HLT HY3
  refine pOp_appk rfl rfl _ _ _ rfl el_rowsP B (.slice ua n cu) n ucs rfl HU5.out (by have := HSZ2.out; omega) (some ⟨gl, 0, none⟩) 1 1 _ rfl HL5.out (by unfold maxLen; omega) (by omega) ?_
  intro wv' Y6 ho6 hg6 hb6
  have hul : ∀ b, (Value.slice ua n cu).ownBlock = some b → b < w.heap.size := fun b e => (World.ownsRow.lt HU.out b e).2
  have hvu' : (Value.slice va' (n + 1) cv').ownBlock = none ∨ (Value.slice va' (n + 1) cv').ownBlock ≠ (Value.slice ua n cu).ownBlock := by
    cases e : (Value.slice va' (n + 1) cv').ownBlock with
    | none => exact .inl rfl
    | some b =>
      refine .inr (fun e2 => ?_)
      rcases HBV.out b e with q | q
      · rcases HVU.out with r | r
        · rw [r] at e2; cases e2
        · exact r (e2.symm.trans q.symm)
      · have := hul b e2.symm; omega
  have hbx6 : AC Y6 g hs2 := by
    obtain ⟨t, h2⟩ := HB5.out
    exact ⟨t, by rw [hg6.block g (lt_of_heap h2) (fun e => HGU.out e.symm)]; exact h2⟩
  have hfo6 : Y6.ownsRow Y1.heap.size 58 5 (.slice a5 nv c5) nv (cellsP ps) := World.ownsRow.kept HFI5.out hg6 (by
    cases e : (Value.slice a5 nv c5).ownBlock with
    | none => exact .inl rfl
    | some b => exact .inr (fun e2 => by have := hul b e2.symm; have := (World.ownsRow.lt HFI5.out b e).1; have := HSZ2.out; omega))
  have HFI6 := Lib.hid hfo6
  have HO6 := Lib.hid (World.ownsRow.kept HO5.out hg6 hvu')
  have HB6 := Lib.hid hbx6
  have HW6 := Lib.hid ho6
  have HFR6 := Lib.hid ((HFR2.out.bl HY5.out).grown hg6 (fun i e => .inr (.inr e)))
  have HBU := Lib.hid (fun b (e : wv'.ownBlock = some b) => (hb6 b e).imp_right (fun q => Nat.le_trans (Nat.le_of_lt HSZ2.out) (Nat.le_trans hsz5 q)))
  have hau : ∀ b, (Value.slice a5 nv c5).ownBlock = some b → w2.heap.size ≤ b ∧ b < Y5.heap.size := fun b e => by
    have h1 := World.ownsRow.lt HFI5.out b e
    exact ⟨Nat.le_trans hszA h1.1, h1.2⟩
  have HAU : Hid (∀ b, (Value.slice a5 nv c5).ownBlock = some b → wv'.ownBlock ≠ some b) := Lib.hid (fun b e e2 => by
    have h1 := hau b e
    rcases hb6 b e2 with q | q
    · have := hul b q; have := HSZ2.out; omega
    · omega)
  have HAV : Hid (∀ b, (Value.slice a5 nv c5).ownBlock = some b → (Value.slice va' (n + 1) cv').ownBlock ≠ some b) := Lib.hid (fun b e e2 => by
    have h1 := hau b e
    have := (World.ownsRow.lt HO2.out b e2).2
    omega)
  have HAVU : Hid (wv'.ownBlock = none ∨ wv'.ownBlock ≠ (Value.slice va' (n + 1) cv').ownBlock) := Lib.hid (by
    cases e : wv'.ownBlock with
    | none => exact .inl rfl
    | some b =>
      refine .inr (fun e2 => ?_)
      rcases hb6 b e with q | q
      · rcases hvu' with r | r
        · rw [r] at e2; cases e2
        · exact r (e2.symm.trans q.symm)
      · have := (World.ownsRow.lt HO2.out b e2.symm).2; omega)
  have hwg : wv'.ownBlock ≠ some g := fun e => by
    rcases hb6 g e with q | q
    · exact HGU.out q
    · have := HBX.out.lt; have := HSZ2.out; omega
  have HWG := Lib.hid hwg
  refine ⟨fun _ => hbx6, ?_⟩
  simp only [Act.put, List.setIfInBounds_toArray]
  obtain ⟨wa, wc, hws⟩ := row_shape' ho6
  subst hws
  clear ho6 hg6 hb6 hul hvu' hbx6 hfo6 hau hwg HB5 HO5 HU5 HFI5 HL5 HY5 hsz5 HFR2 HO2 HU2 HX2 HB2
  refine wpAnyP_one (i := 9) (by kernel_rfl) ?_
  intro Y7 hy7
  go_simp
  refine ⟨HB6.out.keep hy7, ?_⟩
  refine wpAnyP_one (i := 10) (by kernel_rfl) ?_
  intro Y8 hy8
  go_simp
  refine ⟨HB6.out.keep (hy7.trans hy8), ?_⟩
  refine wpAnyP_one (i := 11) (by kernel_rfl) ?_
  intro Y9 hy9
  have HY9 := Lib.hid ((hy7.trans hy8).trans hy9)
  clear hy7 hy8 hy9
  have HB9 := Lib.hid (HB6.out.keep HY9.out)
  have c5' := HB9.out.at_ H25.out
  have f5' := HB9.out.frozen 9
  have HB10 := Lib.hid (HB9.out.setc 9 (.slice wa (n + 1) wc))
  have hgs := grown_set' Y9 g 9 (.slice wa (n + 1) wc)
  have HO10 := Lib.hid (World.ownsRow.kept (ownsRow_bl HO6.out HY9.out) hgs (.inr HVG.out))
  have HW10 := Lib.hid (World.ownsRow.kept (ownsRow_bl HW6.out HY9.out) hgs (.inr HWG.out))
  have hug : (Value.slice a5 nv c5).ownBlock ≠ some g := fun e => by
    have h1 := (World.ownsRow.lt HFI6.out g e).1
    have h2 := HBX.out.lt
    have h3 := HSZ2.out
    omega
  have HF10 := Lib.hid (World.ownsRow.kept (ownsRow_bl HFI6.out HY9.out) hgs (.inr hug))
  have HFR10 := Lib.hid ((HFR6.out.bl HY9.out).grown hgs (fun i e => .inl (Option.some.inj e).symm))
  clear hgs hug HO6 HW6 HFI6 HFR6 HB6 HB9 HY9
  go_simp
  clear c5' f5'
  generalize World.setCell _ _ _ = Y10 at *
  refine wpAnyP_done (by kernel_rfl) ?_
  intro Y11 hy11
  have HY := Lib.hid hy11
  clear hy11
  go_wp2_with fail
  go_end0
  have ho11 := ownsRow_bl HF10.out HY.out
  refine ⟨rfl, _, _, _, fun b => (Value.slice a5 nv c5).ownBlock = some b, ?_, ownsRow_bl HO10.out HY.out, ownsRow_bl HW10.out HY.out, ⟨a5, nv, c5, rfl, PP.own ho11 HX.out.len hnv HX.out.ok, fun x off e hp => ?_⟩, fun b e => ⟨(World.ownsRow.lt ho11 b e).2, ?_, HAV.out b e, HAU.out b e⟩, HFR10.out.bl HY.out, fun b e => (HBV.out b e).imp_right (fun q => by have := HBA.out.size; omega), HBU.out, HAVU.out⟩
  · rw [HHS2.out]; exact HB10.out.keep HY.out
  · obtain ⟨_, ⟨e3, h2⟩ | ⟨gi, cap, cur, e3, _⟩⟩ := ho11
    · cases e3; omega
    · simp only [Value.slice.injEq] at e3; rw [e3.1] at e ⊢; cases e; rfl
  · have h1 := (World.ownsRow.lt ho11 b e).1
    have h3 := HSZ2.out
    omega
theorem fullPairs_any (g : Nat) (hs : List Value) (va : Option Addr) (cv : Nat) (v : Value) (w : World) (hbox : AC w g hs) (h4 : hs[8]? = some (.slice va 250 cv)) :
    Calls Tryz.prog 21 #[.pointer (some ⟨g, 0, none⟩), v] w fun e w' => e = .returned (.tuple #[]) ∧ w = w' := by
  have c4 := hbox.at_ h4
  clear hbox h4
  go_enter Tryz.func21, Tryz.ntmps21
  go_wp2_with fail
  go_end0
  exact ⟨rfl, rfl⟩
end Go.Proofs.YtaplefelfiefaaaGreat
end

/- a book that keeps Vecs, Pairs: Apart, and what is kept. By an AI agent. -/
section
set_option linter.unusedVariables false
namespace Go.Proofs.YtaplefelfiefaaaGreat
open Go.RowKit

/-- the kinds that are kept -/
def bkVP : BKd := ⟨[4, 8], fun p => if p = 4 then 3 else 58, fun p => if p = 4 then 22 else 24, fun p => if p = 4 then 1 else 5, fun p v u W D => (p = 4 → TwoV v u W D) ∧ (p = 8 → TwoP v u W D), fun hf hd h => ⟨fun e => (h.1 e).st hf hd, fun e => (h.2 e).st hf hd⟩⟩
set_option maxHeartbeats 4000000 in
set_option maxRecDepth 100000 in
theorem apartVP_any (B g : Nat) (n : Nat → Nat) (vv wv : Nat → Value) (vs us : Nat → Nat → Value) (ln : Nat → Nat → Nat) (cs : Nat → Nat → List Value) (D : Nat → Nat → Nat → Prop) (T : Nat → Prop) (w : World) (hB : B ≤ w.heap.size) (hk : Hid (BookX bkVP B w g n vv wv vs us ln cs D T)) :
    Calls Tryz.prog 22 #[.pointer (some ⟨g, 0, none⟩)] w fun e w' => e = .returned (.bool true) ∧ Fr (fun b => B ≤ b ∧ ¬ T b) w w' := by
  have hm4 : 4 ∈ bkVP.K := by simp [bkVP]
  obtain ⟨va4, cv4, e4, la4⟩ := row_la (hk.out.rv 4 hm4)
  obtain ⟨ua4, cu4, f4, lu4⟩ := row_la (hk.out.ru 4 hm4)
  have hm8 : 8 ∈ bkVP.K := by simp [bkVP]
  obtain ⟨va8, cv8, e8, la8⟩ := row_la (hk.out.rv 8 hm8)
  obtain ⟨ua8, cu8, f8, lu8⟩ := row_la (hk.out.ru 8 hm8)
  have HA0 : Hid (AC w g [.slice none 0 0, .slice none 0 0, .slice none 0 0, .slice none 0 0, .slice va4 (n 4) cv4, .slice ua4 (n 4) cu4, .slice none 0 0, .slice none 0 0, .slice va8 (n 8) cv8, .slice ua8 (n 8) cu8, .slice none 0 0, .slice none 0 0, .slice none 0 0, .slice none 0 0, .slice none 0 0, .slice none 0 0, .slice none 0 0, .slice none 0 0, .slice none 0 0, .slice none 0 0, .slice none 0 0, .slice none 0 0, .slice none 0 0, .slice none 0 0, .slice none 0 0, .slice none 0 0, .slice none 0 0, .slice none 0 0, .slice none 0 0, .slice none 0 0]) := Lib.hid (by
    have h := hk.out.box
    unfold hsOf at h
    rw [(hk.out.emp 0 (by simp [bkVP])).1, (hk.out.emp 0 (by simp [bkVP])).2] at h
    rw [(hk.out.emp 2 (by simp [bkVP])).1, (hk.out.emp 2 (by simp [bkVP])).2] at h
    rw [e4, f4] at h
    rw [(hk.out.emp 6 (by simp [bkVP])).1, (hk.out.emp 6 (by simp [bkVP])).2] at h
    rw [e8, f8] at h
    rw [(hk.out.emp 10 (by simp [bkVP])).1, (hk.out.emp 10 (by simp [bkVP])).2] at h
    rw [(hk.out.emp 12 (by simp [bkVP])).1, (hk.out.emp 12 (by simp [bkVP])).2] at h
    rw [(hk.out.emp 14 (by simp [bkVP])).1, (hk.out.emp 14 (by simp [bkVP])).2] at h
    rw [(hk.out.emp 16 (by simp [bkVP])).1, (hk.out.emp 16 (by simp [bkVP])).2] at h
    rw [(hk.out.emp 18 (by simp [bkVP])).1, (hk.out.emp 18 (by simp [bkVP])).2] at h
    rw [(hk.out.emp 20 (by simp [bkVP])).1, (hk.out.emp 20 (by simp [bkVP])).2] at h
    rw [(hk.out.emp 22 (by simp [bkVP])).1, (hk.out.emp 22 (by simp [bkVP])).2] at h
    rw [(hk.out.emp 24 (by simp [bkVP])).1, (hk.out.emp 24 (by simp [bkVP])).2] at h
    rw [(hk.out.emp 26 (by simp [bkVP])).1, (hk.out.emp 26 (by simp [bkVP])).2] at h
    rw [(hk.out.emp 28 (by simp [bkVP])).1, (hk.out.emp 28 (by simp [bkVP])).2] at h
    exact h)
  have HV4 := Lib.hid la4
  have HU4 := Lib.hid lu4
  have HQ4 := Lib.hid (fun j (hj : j < n 4) => ((hk.out.q 4 hm4 j hj).1 rfl : TwoV (vs 4 j) (us 4 j) w (D 4 j)))
  have HO4 : Hid (OWk B 3 1 (n 4) (vs 4) (ln 4) (cs 4) w) := Lib.hid (hk.out.own 4 hm4)
  have few4 := hk.out.few 4
  have HS4 := Lib.hid (hk.out.small 4 hm4)
  have HP4 := Lib.hid (hk.out.ap hm4)
  have HG4 := Lib.hid (hk.out.sb_g hm4)
  have HL4 := Lib.hid (fun b => hk.out.sb_lt hm4 (b := b))
  have HR4_4 := Lib.hid (fun (b off : Nat) (h : va4 = some ⟨b, off, none⟩) => hk.out.sb_row hm4 (q := 4) (b := b) (by rw [e4, h]; rfl))
  have HR4_8 := Lib.hid (fun (b off : Nat) (h : va8 = some ⟨b, off, none⟩) => hk.out.sb_row hm4 (q := 8) (b := b) (by rw [e8, h]; rfl))
  have HX4_8 := Lib.hid (fun b => hk.out.sb_sb hm4 hm8 (by decide) (b := b))
  have HV8 := Lib.hid la8
  have HU8 := Lib.hid lu8
  have HQ8 := Lib.hid (fun j (hj : j < n 8) => ((hk.out.q 8 hm8 j hj).2 rfl : TwoP (vs 8 j) (us 8 j) w (D 8 j)))
  have HO8 : Hid (OWk B 58 5 (n 8) (vs 8) (ln 8) (cs 8) w) := Lib.hid (hk.out.own 8 hm8)
  have few8 := hk.out.few 8
  have HS8 := Lib.hid (hk.out.small 8 hm8)
  have HP8 := Lib.hid (hk.out.ap hm8)
  have HG8 := Lib.hid (hk.out.sb_g hm8)
  have HL8 := Lib.hid (fun b => hk.out.sb_lt hm8 (b := b))
  have HR8_4 := Lib.hid (fun (b off : Nat) (h : va4 = some ⟨b, off, none⟩) => hk.out.sb_row hm8 (q := 4) (b := b) (by rw [e4, h]; rfl))
  have HX8_4 := Lib.hid (fun b => hk.out.sb_sb hm8 hm4 (by decide) (b := b))
  have HR8_8 := Lib.hid (fun (b off : Nat) (h : va8 = some ⟨b, off, none⟩) => hk.out.sb_row hm8 (q := 8) (b := b) (by rw [e8, h]; rfl))
  clear e4 f4 la4 lu4 hm4
  clear e8 f8 la8 lu8 hm8
  obtain ⟨xs4, hxs4⟩ := pick_ints (fun j hj => HQ4.out j hj) (fun j hj => HO4.out j hj)
  have HO4x : Hid (OWk B 3 1 (n 4) (vs 4) (fun j => (xs4 j).length) (fun j => (xs4 j).map (Value.int .i64)) w) := Lib.hid (fun j hj => by have h := HO4.out j hj; rw [(hxs4 j hj).2, ← (hxs4 j hj).1] at h; exact h)
  have HS4x : Hid (∀ j, j < n 4 → (xs4 j).length ≤ 50000) := Lib.hid (fun j hj => by rw [(hxs4 j hj).1]; exact HS4.out j hj)
  clear hxs4 HO4 HS4
  have HO4 := HO4x
  have HS4 := HS4x
  clear HO4x HS4x
  clear hk
  generalize n 4 = n4 at *
  generalize vs 4 = v4 at *
  generalize us 4 = u4 at *
  generalize ln 4 = l4 at *
  generalize cs 4 = c4 at *
  generalize D 4 = d4 at *
  generalize n 8 = n8 at *
  generalize vs 8 = v8 at *
  generalize us 8 = u8 at *
  generalize ln 8 = l8 at *
  generalize cs 8 = c8 at *
  generalize D 8 = d8 at *
  clear n vv wv vs us ln cs D
  have HF0 := Lib.hid (Fr.refl (fun b => B ≤ b ∧ ¬ T b) w)
  go_enter Tryz.func22, Tryz.ntmps22
  go_wp2_with fail
  refine (stillTexts_none g _ (HA0.out.cell 0 _ rfl)).mono ?_
  rintro e w' ⟨rfl, rfl⟩
  go_wp2_with fail
  refine (stillInts_none g _ (HA0.out.cell 2 _ rfl)).mono ?_
  rintro e w' ⟨rfl, rfl⟩
  go_wp2_with fail
  refine (stillVecsk_any g va4 ua4 n4 cv4 cu4 v4 u4 d4 _ few4 (HA0.out.cell 4 _ rfl) (HA0.out.cell 5 _ rfl) HV4.out HU4.out HQ4.out).mono ?_
  rintro e W4 ⟨rfl, hb⟩
  clear HQ4 HU4
  have K1 := Lib.hid (HA0.out.keep hb)
  clear HA0
  have K2 := Lib.hid (HF0.out.bl hb)
  clear HF0
  have K3 := Lib.hid (HV4.out.keep hb)
  clear HV4
  have K4 := Lib.hid (HO4.out.keep hb)
  clear HO4
  have K5 := Lib.hid (HV8.out.keep hb)
  clear HV8
  have K6 := Lib.hid (HU8.out.keep hb)
  clear HU8
  have K7 := Lib.hid (HO8.out.keep hb)
  clear HO8
  have K8 := Lib.hid (fun j hj => (HQ8.out j hj).st ((Fr.refl (fun _ => False) _).bl hb) (fun _ _ h => h))
  clear HQ8
  clear hb
  go_wp2_with fail
  refine (stillKeys_none g _ (K1.out.cell 6 _ rfl)).mono ?_
  rintro e w' ⟨rfl, rfl⟩
  go_wp2_with fail
  refine (stillPairs_any g va8 ua8 n8 cv8 cu8 v8 u8 d8 _ few8 (K1.out.cell 8 _ rfl) (K1.out.cell 9 _ rfl) K5.out K6.out K8.out).mono ?_
  rintro e W8 ⟨rfl, hb⟩
  clear K8 K6
  have K9 := Lib.hid (K1.out.keep hb)
  clear K1
  have K10 := Lib.hid (K2.out.bl hb)
  clear K2
  have K11 := Lib.hid (K3.out.keep hb)
  clear K3
  have K12 := Lib.hid (K4.out.keep hb)
  clear K4
  have K13 := Lib.hid (K5.out.keep hb)
  clear K5
  have K14 := Lib.hid (K7.out.keep hb)
  clear K7
  clear hb
  go_wp2_with fail
  refine (stillVersions_none g _ (K9.out.cell 10 _ rfl)).mono ?_
  rintro e w' ⟨rfl, rfl⟩
  go_wp2_with fail
  refine (stillWrites_none g _ (K9.out.cell 12 _ rfl)).mono ?_
  rintro e w' ⟨rfl, rfl⟩
  go_wp2_with fail
  refine (stillTxns_none g _ (K9.out.cell 14 _ rfl)).mono ?_
  rintro e w' ⟨rfl, rfl⟩
  go_wp2_with fail
  refine (stillFiles_none g _ (K9.out.cell 16 _ rfl)).mono ?_
  rintro e w' ⟨rfl, rfl⟩
  go_wp2_with fail
  refine (stillNotes_none g _ (K9.out.cell 18 _ rfl)).mono ?_
  rintro e w' ⟨rfl, rfl⟩
  go_wp2_with fail
  refine (stillLeases_none g _ (K9.out.cell 20 _ rfl)).mono ?_
  rintro e w' ⟨rfl, rfl⟩
  go_wp2_with fail
  refine (stillLetters_none g _ (K9.out.cell 22 _ rfl)).mono ?_
  rintro e w' ⟨rfl, rfl⟩
  go_wp2_with fail
  refine (stillSteps_none g _ (K9.out.cell 24 _ rfl)).mono ?_
  rintro e w' ⟨rfl, rfl⟩
  go_wp2_with fail
  refine (stillReals_none g _ (K9.out.cell 26 _ rfl)).mono ?_
  rintro e w' ⟨rfl, rfl⟩
  go_wp2_with fail
  refine (stillLists_none g _ (K9.out.cell 28 _ rfl)).mono ?_
  rintro e w' ⟨rfl, rfl⟩
  go_wp2_with fail
  refine (putVersions_none g _ (K9.out.cell 10 _ rfl)).mono ?_
  rintro e w' ⟨rfl, rfl⟩
  go_wp2_with fail
  refine (putTxns_none g _ (K9.out.cell 14 _ rfl)).mono ?_
  rintro e w' ⟨rfl, rfl⟩
  go_wp2_with fail
  refine (putLeases_none g _ (K9.out.cell 20 _ rfl)).mono ?_
  rintro e w' ⟨rfl, rfl⟩
  go_wp2_with fail
  refine (putSteps_none g _ (K9.out.cell 24 _ rfl)).mono ?_
  rintro e w' ⟨rfl, rfl⟩
  go_wp2_with fail
  refine (putLists_none g _ (K9.out.cell 28 _ rfl)).mono ?_
  rintro e w' ⟨rfl, rfl⟩
  go_wp2_with fail
  refine (putTexts_none g _ (K9.out.cell 0 _ rfl)).mono ?_
  rintro e w' ⟨rfl, rfl⟩
  go_wp2_with fail
  refine (putInts_none g _ (K9.out.cell 2 _ rfl)).mono ?_
  rintro e w' ⟨rfl, rfl⟩
  go_wp2_with fail
  refine (putVecsk_any B g va4 n4 cv4 v4 xs4 _ few4 (K9.out.cell 4 _ rfl) K11.out (fun j hj => ⟨K12.out j hj, Nat.le_trans (HS4.out j hj) (by decide)⟩) HP4.out HG4.out HR4_4.out).mono ?_
  rintro e P4 ⟨rfl, hf, ho⟩
  clear K12
  have HM4 := Lib.hid (show OWk B 3 1 n4 v4 (fun j => (xs4 j).length) (fun j => mkV.row j 0 ((fun j => (xs4 j).length) j)) P4 from ho)
  have K15 := Lib.hid (hf.ac K9.out HG4.out)
  clear K9
  have K16 := Lib.hid (K10.out.trans (hf.wider (fun b q => (HL4.out b q).2)))
  clear K10
  have K17 := Lib.hid (hf.la K11.out HR4_4.out)
  clear K11
  have K18 := Lib.hid (hf.la K13.out HR4_8.out)
  clear K13
  have K19 := Lib.hid (K14.out.fr hf HX4_8.out)
  clear K14
  clear hf ho
  go_wp2_with fail
  refine (putKeys_none g _ (K15.out.cell 6 _ rfl)).mono ?_
  rintro e w' ⟨rfl, rfl⟩
  go_wp2_with fail
  refine (putPairs_any B g va8 n8 cv8 v8 l8 c8 _ few8 (K15.out.cell 8 _ rfl) K18.out (fun j hj => ⟨K19.out j hj, Nat.le_trans (HS8.out j hj) (by decide)⟩) HP8.out HG8.out HR8_8.out).mono ?_
  rintro e P8 ⟨rfl, hf, ho⟩
  clear K19
  have HM8 := Lib.hid (show OWk B 58 5 n8 v8 l8 (fun j => mkP.row j 0 (l8 j)) P8 from ho)
  have K20 := Lib.hid (hf.ac K15.out HG8.out)
  clear K15
  have K21 := Lib.hid (K16.out.trans (hf.wider (fun b q => (HL8.out b q).2)))
  clear K16
  have K22 := Lib.hid (hf.la K17.out HR8_4.out)
  clear K17
  have K23 := Lib.hid (HM4.out.fr hf HX8_4.out)
  clear HM4
  have K24 := Lib.hid (hf.la K18.out HR8_8.out)
  clear K18
  clear hf ho
  go_wp2_with fail
  refine (putWrites_none g _ (K20.out.cell 12 _ rfl)).mono ?_
  rintro e w' ⟨rfl, rfl⟩
  go_wp2_with fail
  refine (putFiles_none g _ (K20.out.cell 16 _ rfl)).mono ?_
  rintro e w' ⟨rfl, rfl⟩
  go_wp2_with fail
  refine (putNotes_none g _ (K20.out.cell 18 _ rfl)).mono ?_
  rintro e w' ⟨rfl, rfl⟩
  go_wp2_with fail
  refine (putLetters_none g _ (K20.out.cell 22 _ rfl)).mono ?_
  rintro e w' ⟨rfl, rfl⟩
  go_wp2_with fail
  refine (putReals_none g _ (K20.out.cell 26 _ rfl)).mono ?_
  rintro e w' ⟨rfl, rfl⟩
  go_wp2_with fail
  refine (growTexts_none g _ (K20.out.cell 0 _ rfl)).mono ?_
  rintro e w' ⟨rfl, rfl⟩
  go_wp2_with fail
  refine (growInts_none g _ (K20.out.cell 2 _ rfl)).mono ?_
  rintro e w' ⟨rfl, rfl⟩
  go_wp2_with fail
  have hz4 := Nat.le_trans hB K21.out.size
  have hy4 := K21.out.size
  refine (growVecsk_any B g va4 n4 cv4 v4 (fun j => (xs4 j).length) _ few4 hz4 (K20.out.cell 4 _ rfl) K22.out (fun j hj => ⟨K23.out j hj, HS4.out j hj⟩) HP4.out HG4.out HR4_4.out).mono ?_
  rintro e G4 ⟨out4, g4, rfl, hgr⟩
  obtain ⟨oa4, oc4, rfl, -⟩ := row_la hgr.row
  have hf := hgr.fr
  have HGS4 := Lib.hid hgr.grs
  clear K23
  have K25 := Lib.hid (hf.ac K20.out HG4.out)
  clear K20
  have K26 := Lib.hid (K21.out.trans (hf.wider (fun b q => (HL4.out b q).2)))
  clear K21
  have K27 := Lib.hid (hf.la K22.out HR4_4.out)
  clear K22
  have K28 := Lib.hid (hf.la K24.out HR4_8.out)
  clear K24
  have K29 := Lib.hid (HM8.out.fr hf HX4_8.out)
  clear HM8
  clear hf hgr hz4
  go_wp2_with fail
  refine (growKeys_none g _ (K25.out.cell 6 _ rfl)).mono ?_
  rintro e w' ⟨rfl, rfl⟩
  go_wp2_with fail
  have hz8 := Nat.le_trans hB K26.out.size
  have hy8 := K26.out.size
  refine (growPairs_any B g va8 n8 cv8 v8 l8 _ few8 hz8 (K25.out.cell 8 _ rfl) K28.out (fun j hj => ⟨K29.out j hj, HS8.out j hj⟩) HP8.out HG8.out HR8_8.out).mono ?_
  rintro e G8 ⟨out8, g8, rfl, hgr⟩
  obtain ⟨oa8, oc8, rfl, -⟩ := row_la hgr.row
  have hf := hgr.fr
  have HGS8 := Lib.hid hgr.grs
  clear K29
  have K30 := Lib.hid (hf.ac K25.out HG8.out)
  clear K25
  have K31 := Lib.hid (K26.out.trans (hf.wider (fun b q => (HL8.out b q).2)))
  clear K26
  have K32 := Lib.hid (hf.la K27.out HR8_4.out)
  clear K27
  have K33 := Lib.hid (HGS4.out.fr hf (fun b h => Nat.lt_of_lt_of_le (HL8.out b h).1 hy4) (fun j hj b h => HX8_4.out b ⟨j, hj, h⟩))
  clear HGS4
  have K34 := Lib.hid (hf.la K28.out HR8_8.out)
  clear K28
  clear hf hgr hz8
  go_wp2_with fail
  refine (growVersions_none g _ (K30.out.cell 10 _ rfl)).mono ?_
  rintro e w' ⟨rfl, rfl⟩
  go_wp2_with fail
  refine (growWrites_none g _ (K30.out.cell 12 _ rfl)).mono ?_
  rintro e w' ⟨rfl, rfl⟩
  go_wp2_with fail
  refine (growTxns_none g _ (K30.out.cell 14 _ rfl)).mono ?_
  rintro e w' ⟨rfl, rfl⟩
  go_wp2_with fail
  refine (growFiles_none g _ (K30.out.cell 16 _ rfl)).mono ?_
  rintro e w' ⟨rfl, rfl⟩
  go_wp2_with fail
  refine (growNotes_none g _ (K30.out.cell 18 _ rfl)).mono ?_
  rintro e w' ⟨rfl, rfl⟩
  go_wp2_with fail
  refine (growLeases_none g _ (K30.out.cell 20 _ rfl)).mono ?_
  rintro e w' ⟨rfl, rfl⟩
  go_wp2_with fail
  refine (growLetters_none g _ (K30.out.cell 22 _ rfl)).mono ?_
  rintro e w' ⟨rfl, rfl⟩
  go_wp2_with fail
  refine (growSteps_none g _ (K30.out.cell 24 _ rfl)).mono ?_
  rintro e w' ⟨rfl, rfl⟩
  go_wp2_with fail
  refine (growReals_none g _ (K30.out.cell 26 _ rfl)).mono ?_
  rintro e w' ⟨rfl, rfl⟩
  go_wp2_with fail
  refine (growLists_none g _ (K30.out.cell 28 _ rfl)).mono ?_
  rintro e w' ⟨rfl, rfl⟩
  go_wp2_with fail
  refine (markedTexts_none _).mono ?_
  rintro e w' ⟨rfl, rfl⟩
  have q0 := K30.out.cell 0 _ rfl
  go_wp2_with fail
  refine (markedTexts_none _).mono ?_
  rintro e w' ⟨rfl, rfl⟩
  clear q0
  go_wp2_with fail
  refine (markedInts_none _).mono ?_
  rintro e w' ⟨rfl, rfl⟩
  have q2 := K30.out.cell 2 _ rfl
  go_wp2_with fail
  refine (markedInts_none _).mono ?_
  rintro e w' ⟨rfl, rfl⟩
  clear q2
  go_wp2_with fail
  obtain ⟨_, _, ee, hlo⟩ := row_la K33.out.row
  cases ee
  refine (markedVecsk_any oa4 n4 oc4 g4 (fun j => (fun j => (xs4 j).length) j + 72) B _ few4 hlo (fun j hj => ⟨K33.out.ogs j hj, by have := HS4.out j hj; (try dsimp only); omega⟩)).mono ?_
  rintro e M4 ⟨rfl, hb⟩
  clear hlo
  have K35 := Lib.hid (K30.out.keep hb)
  clear K30
  have K36 := Lib.hid (K31.out.bl hb)
  clear K31
  have K37 := Lib.hid (K32.out.keep hb)
  clear K32
  have K38 := Lib.hid (K33.out.keep hb)
  clear K33
  have K39 := Lib.hid (K34.out.keep hb)
  clear K34
  have K40 := Lib.hid (HGS8.out.keep hb)
  clear HGS8
  clear hb
  have q4 := K35.out.cell 4 _ rfl
  go_wp2_with fail
  refine (markedVecsk_any va4 n4 cv4 v4 (fun j => (xs4 j).length) B _ few4 K37.out (fun j hj => ⟨K38.out.ovs j hj, by have := HS4.out j hj; (try dsimp only); omega⟩)).mono ?_
  rintro e N4 ⟨rfl, hb⟩
  clear q4
  have K41 := Lib.hid (K35.out.keep hb)
  clear K35
  have K42 := Lib.hid (K36.out.bl hb)
  clear K36
  have K43 := Lib.hid (K37.out.keep hb)
  clear K37
  have K44 := Lib.hid (K38.out.keep hb)
  clear K38
  have K45 := Lib.hid (K39.out.keep hb)
  clear K39
  have K46 := Lib.hid (K40.out.keep hb)
  clear K40
  clear hb
  go_wp2_with fail
  refine (markedKeys_none _).mono ?_
  rintro e w' ⟨rfl, rfl⟩
  have q6 := K41.out.cell 6 _ rfl
  go_wp2_with fail
  refine (markedKeys_none _).mono ?_
  rintro e w' ⟨rfl, rfl⟩
  clear q6
  go_wp2_with fail
  obtain ⟨_, _, ee, hlo⟩ := row_la K46.out.row
  cases ee
  refine (markedPairs_any oa8 n8 oc8 g8 (fun j => l8 j + 72) B _ few8 hlo (fun j hj => ⟨K46.out.ogs j hj, by have := HS8.out j hj; (try dsimp only); omega⟩)).mono ?_
  rintro e M8 ⟨rfl, hb⟩
  clear hlo
  have K47 := Lib.hid (K41.out.keep hb)
  clear K41
  have K48 := Lib.hid (K42.out.bl hb)
  clear K42
  have K49 := Lib.hid (K43.out.keep hb)
  clear K43
  have K50 := Lib.hid (K44.out.keep hb)
  clear K44
  have K51 := Lib.hid (K45.out.keep hb)
  clear K45
  have K52 := Lib.hid (K46.out.keep hb)
  clear K46
  clear hb
  have q8 := K47.out.cell 8 _ rfl
  go_wp2_with fail
  refine (markedPairs_any va8 n8 cv8 v8 l8 B _ few8 K51.out (fun j hj => ⟨K52.out.ovs j hj, by have := HS8.out j hj; (try dsimp only); omega⟩)).mono ?_
  rintro e N8 ⟨rfl, hb⟩
  clear q8
  have K53 := Lib.hid (K47.out.keep hb)
  clear K47
  have K54 := Lib.hid (K48.out.bl hb)
  clear K48
  have K55 := Lib.hid (K49.out.keep hb)
  clear K49
  have K56 := Lib.hid (K50.out.keep hb)
  clear K50
  have K57 := Lib.hid (K51.out.keep hb)
  clear K51
  have K58 := Lib.hid (K52.out.keep hb)
  clear K52
  clear hb
  go_wp2_with fail
  refine (markedVersions_none _).mono ?_
  rintro e w' ⟨rfl, rfl⟩
  have q10 := K53.out.cell 10 _ rfl
  go_wp2_with fail
  refine (markedVersions_none _).mono ?_
  rintro e w' ⟨rfl, rfl⟩
  clear q10
  go_wp2_with fail
  refine (markedWrites_none _).mono ?_
  rintro e w' ⟨rfl, rfl⟩
  have q12 := K53.out.cell 12 _ rfl
  go_wp2_with fail
  refine (markedWrites_none _).mono ?_
  rintro e w' ⟨rfl, rfl⟩
  clear q12
  go_wp2_with fail
  refine (markedTxns_none _).mono ?_
  rintro e w' ⟨rfl, rfl⟩
  have q14 := K53.out.cell 14 _ rfl
  go_wp2_with fail
  refine (markedTxns_none _).mono ?_
  rintro e w' ⟨rfl, rfl⟩
  clear q14
  go_wp2_with fail
  refine (markedFiles_none _).mono ?_
  rintro e w' ⟨rfl, rfl⟩
  have q16 := K53.out.cell 16 _ rfl
  go_wp2_with fail
  refine (markedFiles_none _).mono ?_
  rintro e w' ⟨rfl, rfl⟩
  clear q16
  go_wp2_with fail
  refine (markedNotes_none _).mono ?_
  rintro e w' ⟨rfl, rfl⟩
  have q18 := K53.out.cell 18 _ rfl
  go_wp2_with fail
  refine (markedNotes_none _).mono ?_
  rintro e w' ⟨rfl, rfl⟩
  clear q18
  go_wp2_with fail
  refine (markedLeases_none _).mono ?_
  rintro e w' ⟨rfl, rfl⟩
  have q20 := K53.out.cell 20 _ rfl
  go_wp2_with fail
  refine (markedLeases_none _).mono ?_
  rintro e w' ⟨rfl, rfl⟩
  clear q20
  go_wp2_with fail
  refine (markedLetters_none _).mono ?_
  rintro e w' ⟨rfl, rfl⟩
  have q22 := K53.out.cell 22 _ rfl
  go_wp2_with fail
  refine (markedLetters_none _).mono ?_
  rintro e w' ⟨rfl, rfl⟩
  clear q22
  go_wp2_with fail
  refine (markedSteps_none _).mono ?_
  rintro e w' ⟨rfl, rfl⟩
  have q24 := K53.out.cell 24 _ rfl
  go_wp2_with fail
  refine (markedSteps_none _).mono ?_
  rintro e w' ⟨rfl, rfl⟩
  clear q24
  go_wp2_with fail
  refine (markedReals_none _).mono ?_
  rintro e w' ⟨rfl, rfl⟩
  have q26 := K53.out.cell 26 _ rfl
  go_wp2_with fail
  refine (markedReals_none _).mono ?_
  rintro e w' ⟨rfl, rfl⟩
  clear q26
  go_wp2_with fail
  refine (markedLists_none _).mono ?_
  rintro e w' ⟨rfl, rfl⟩
  have q28 := K53.out.cell 28 _ rfl
  go_wp2_with fail
  refine (markedLists_none _).mono ?_
  rintro e w' ⟨rfl, rfl⟩
  clear q28
  go_wp2_with fail
  go_ret
  exact ⟨rfl, K54.out⟩
theorem bqVP_apart (B g : Nat) (T : Nat → Prop) (w : World) (hB : B ≤ w.heap.size) (h : BQ bkVP B w g T) :
    Calls Tryz.prog 22 #[.pointer (some ⟨g, 0, none⟩)] w fun e w' => e = .returned (.bool true) ∧ Fr (fun b => B ≤ b ∧ ¬ T b) w w' := by
  obtain ⟨n, vv, wv, vs, us, ln, cs, D, h⟩ := h
  exact apartVP_any B g n vv wv vs us ln cs D T w hB (Lib.hid h)
theorem bqVP_Vecs (B g : Nat) (a : Option Addr) (nv c : Nat) (ps : List Int) (T : Nat → Prop) (w : World) (hB : B ≤ w.heap.size) (h : BQ bkVP B w g T) (ho : w.ownsRow B 3 1 (.slice a nv c) nv (ps.map (Value.int .i64))) (hl : ps.length = nv) (hn : nv ≤ 50000) (hok : ∀ x ∈ ps, -9223372036854775808 ≤ x ∧ x ≤ 9223372036854775807) (hT : ∀ b, (Value.slice a nv c).ownBlock = some b → T b) :
    Calls Tryz.prog 57 #[.pointer (some ⟨g, 0, none⟩), .slice a nv c] w fun e w' => e = .returned (.tuple #[]) ∧ BQ bkVP B w' g (fun b => T b ∧ (Value.slice a nv c).ownBlock ≠ some b) ∧ Fr (fun b => ¬ T b) w w' := by
  obtain ⟨n, vv, wv, vs, us, ln, cs, D, h⟩ := h
  have hm : 4 ∈ bkVP.K := by simp [bkVP]
  have hr : IA w a nv ps := IA.ofOwn ho hl (by omega) hok
  have hblk : ∀ b off, a = some ⟨b, off, none⟩ → 0 < nv → (Value.slice a nv c).ownBlock = some b := fun b off e _ => by subst e; rfl
  by_cases hf : n 4 < 250
  · refine (regVecs_any B g (n 4) (hsOf vv wv) (vv 4) (wv 4) _ _ a nv c ps w hf hB h.box rfl rfl rfl (h.rv 4 hm) (h.ru 4 hm) (h.gv 4).1 (h.gv 4).2 (h.hwv 4 4) hr (by omega) (fun b off e hp q => ?_)).mono ?_
    · have hb := (h.t b (hT b (hblk b off e hp))).2.1
      rcases q with q | q | q
      · exact hb (.inl q)
      · exact hb (.inr ⟨4, .inl q⟩)
      · exact hb (.inr ⟨4, .inr q⟩)
    · rintro e w' ⟨rfl, vv', wv', u, Dn, P⟩
      have hD : ∀ b, (Value.slice a nv c).ownBlock = some b → b < w.heap.size ∧ ¬ BSt g vv wv b := fun b q => ⟨(h.t b (hT b q)).1, (h.t b (hT b q)).2.1⟩
      have hst : ¬ BSt g vv wv g → False := fun q => q (.inl rfl)
      have Q := h.vpk (p := 4) (Dv := fun b => (Value.slice a nv c).ownBlock = some b) P (by rfl) hD (fun hc => ?_)
      · exact ⟨rfl, h.reg hm hf ho hn hT hD Q⟩
      · obtain ⟨a2, n2, c2, rfl, hr2, hd2⟩ := hc
        have hn2 : n2 = nv := by rw [← hr2.len, hl]
        subst hn2
        have two : TwoV (.slice a n2 c) (.slice a2 n2 c2) w' (fun b => Dn b ∨ (Value.slice a n2 c).ownBlock = some b) := ⟨ps, a, a2, n2, c, c2, rfl, rfl, hr.fr P.fr (fun b off e hp q => ?_), hr2, fun x off e hp => .inr (hblk x off e hp), fun x off e hp => .inl (hd2 x off e hp)⟩
        · exact ⟨fun _ => two, fun e => absurd e (by decide)⟩
        · have hb := (h.t b (hT b (hblk b off e hp))).2.1
          rcases q with q | q | q
          · exact hb (.inl q)
          · exact hb (.inr ⟨4, .inl q⟩)
          · exact hb (.inr ⟨4, .inr q⟩)
  · have h250 : n 4 = 250 := by have := h.few 4; omega
    obtain ⟨va, cv, ev⟩ := row_shape' (h.rv 4 hm)
    rw [h250] at ev
    refine (fullVecs_any g (hsOf vv wv) va cv (.slice a nv c) w h.box (by rw [← ev]; rfl)).mono ?_
    rintro e w' ⟨rfl, rfl⟩
    exact ⟨rfl, (h.less (fun b hb => hb.1)).bq, Fr.refl _ _⟩
theorem bqVP_Pairs (B g : Nat) (a : Option Addr) (nv c : Nat) (ps : List (ByteArray × ValL)) (T : Nat → Prop) (w : World) (hB : B ≤ w.heap.size) (h : BQ bkVP B w g T) (ho : w.ownsRow B 58 5 (.slice a nv c) nv (cellsP ps)) (hl : ps.length = nv) (hn : nv ≤ 50000) (hok : ∀ p ∈ ps, PaOk p) (hT : ∀ b, (Value.slice a nv c).ownBlock = some b → T b) :
    Calls Tryz.prog 21 #[.pointer (some ⟨g, 0, none⟩), .slice a nv c] w fun e w' => e = .returned (.tuple #[]) ∧ BQ bkVP B w' g (fun b => T b ∧ (Value.slice a nv c).ownBlock ≠ some b) ∧ Fr (fun b => ¬ T b) w w' := by
  obtain ⟨n, vv, wv, vs, us, ln, cs, D, h⟩ := h
  have hm : 8 ∈ bkVP.K := by simp [bkVP]
  have hr : PP w a nv ps := PP.own ho hl (by omega) hok
  have hblk : ∀ b off, a = some ⟨b, off, none⟩ → 0 < nv → (Value.slice a nv c).ownBlock = some b := fun b off e _ => by subst e; rfl
  by_cases hf : n 8 < 250
  · refine (regPairs_any B g (n 8) (hsOf vv wv) (vv 8) (wv 8) _ _ a nv c ps w hf hB h.box rfl rfl rfl (h.rv 8 hm) (h.ru 8 hm) (h.gv 8).1 (h.gv 8).2 (h.hwv 8 8) hr (by omega) (fun b off e hp q => ?_)).mono ?_
    · have hb := (h.t b (hT b (hblk b off e hp))).2.1
      rcases q with q | q | q
      · exact hb (.inl q)
      · exact hb (.inr ⟨8, .inl q⟩)
      · exact hb (.inr ⟨8, .inr q⟩)
    · rintro e w' ⟨rfl, vv', wv', u, Dn, P⟩
      have hD : ∀ b, (Value.slice a nv c).ownBlock = some b → b < w.heap.size ∧ ¬ BSt g vv wv b := fun b q => ⟨(h.t b (hT b q)).1, (h.t b (hT b q)).2.1⟩
      have hst : ¬ BSt g vv wv g → False := fun q => q (.inl rfl)
      have Q := h.vpk (p := 8) (Dv := fun b => (Value.slice a nv c).ownBlock = some b) P (by rfl) hD (fun hc => ?_)
      · exact ⟨rfl, h.reg hm hf ho hn hT hD Q⟩
      · obtain ⟨a2, n2, c2, rfl, hr2, hd2⟩ := hc
        have hn2 : n2 = nv := by rw [← hr2.len, hl]
        subst hn2
        have two : TwoP (.slice a n2 c) (.slice a2 n2 c2) w' (fun b => Dn b ∨ (Value.slice a n2 c).ownBlock = some b) := ⟨ps, a, a2, n2, c, c2, rfl, rfl, hr.fr P.fr (fun b off e hp q => ?_), hr2, fun x off e hp => .inr (hblk x off e hp), fun x off e hp => .inl (hd2 x off e hp)⟩
        · exact ⟨fun e => absurd e (by decide), fun _ => two⟩
        · have hb := (h.t b (hT b (hblk b off e hp))).2.1
          rcases q with q | q | q
          · exact hb (.inl q)
          · exact hb (.inr ⟨8, .inl q⟩)
          · exact hb (.inr ⟨8, .inr q⟩)
  · have h250 : n 8 = 250 := by have := h.few 8; omega
    obtain ⟨va, cv, ev⟩ := row_shape' (h.rv 8 hm)
    rw [h250] at ev
    refine (fullPairs_any g (hsOf vv wv) va cv (.slice a nv c) w h.box (by rw [← ev]; rfl)).mono ?_
    rintro e w' ⟨rfl, rfl⟩
    exact ⟨rfl, (h.less (fun b hb => hb.1)).bq, Fr.refl _ _⟩
end Go.Proofs.YtaplefelfiefaaaGreat
end

/- a vector and a list of pairs laid into a book one behind the other. By an AI agent. -/
section
set_option linter.unusedVariables false
namespace Go.Proofs.YtaplefelfiefaaaGreat
open Go.RowKit

theorem Bl.frV {w0 w w' : World} {S : Nat → Prop} (h : Bl w0 w) (k : Fr S w w') (hs : ∀ b, S b → w0.heap.size ≤ b) : Bl w0 w' := Below.trans h (k.below h.size hs)
theorem FI.wider {B B' : Nat} {w : World} {v : Value} {xs : List Int} (h : FI B w v xs) (hb : B' ≤ B) : FI B' w v xs := ⟨own_mono' h.own hb, h.cap, h.wf⟩
theorem OPR.wider {B B' : Nat} {w : World} {v : Value} {k : Nat} {ps : List (ByteArray × ValL)} (h : OPR B w v k ps) (hb : B' ≤ B) : OPR B' w v k ps := ⟨h.1, own_mono' h.2 hb⟩
theorem vp_apart {A B : Nat} {W : World} {u v : Value} {n : Nat} {xs : List Int} {ps : List (ByteArray × ValL)} (hx : FI A W u xs) (hp : OPR B W v n ps) : u.ownBlock = none ∨ u.ownBlock ≠ v.ownBlock := by
  obtain ⟨_, ⟨e, _⟩ | ⟨g, cap, cur, e, hB, hg, _⟩⟩ := hx.own
  · subst e; exact .inl rfl
  · subst e
    refine .inr (fun e2 => ?_)
    obtain ⟨_, ⟨e3, _⟩ | ⟨g2, cap2, cur2, e3, hB2, hg2, _⟩⟩ := hp.2
    · subst e3; cases e2
    · subst e3
      have e4 : g = g2 := Option.some.inj e2
      subst e4
      rw [hg] at hg2
      simp only [Option.some.injEq, Obj.cells.injEq] at hg2
      exact absurd hg2.2.1 (by decide)
end Go.Proofs.YtaplefelfiefaaaGreat
end

/- a vector and a list of pairs laid into a book that is not the newest block: what lies beside it stays. By an AI agent. -/
section
set_option linter.unusedVariables false
namespace Go.Proofs.YtaplefelfiefaaaGreat
open Go.RowKit

/-- blocks of W2 beside the book's own -/
def Bes (W2 : World) (g b : Nat) : Prop := b < W2.heap.size ∧ b ≠ g
theorem Fr.beside {W2 W W' : World} {g : Nat} {T : Nat → Prop} (h : Fr (fun b => b = g) W2 W) (k : Fr (fun b => ¬ T b) W W') (ht : ∀ b, Bes W2 g b → T b) : Fr (fun b => b = g) W2 W' :=
  ⟨k.os.trans h.os, k.tape.trans h.tape, k.output.trans h.output, Nat.le_trans h.size k.size, fun i hi hs => (k.block i (Nat.lt_of_lt_of_le hi h.size) (not_not_intro (ht i ⟨hi, hs⟩))).trans (h.block i hi hs)⟩
structure VQm (W2 W : World) (g : Nat) (v : Value) (xs : List Int) (q : Value) (k : Nat) (ps : List (ByteArray × ValL)) (gy : Nat) (cs : List Value) : Prop where
  fr : Fr (fun b => b = g) W2 W
  lt : g < W2.heap.size
  bq : BQ bkVP g W g (fun b => Bes W2 g b ∨ v.ownBlock = some b ∨ q.ownBlock = some b ∨ b = gy)
  hv : FI W2.heap.size W v xs
  hq : OPR W2.heap.size W q k ps
  box : AC W gy cs
  ly : W2.heap.size ≤ gy
  lv : v.ownBlock ≠ some gy
  lq : q.ownBlock ≠ some gy
theorem VQm.new {W2 wr wa wy W : World} {g : Nat} {v : Value} {xs : List Int} {q : Value} {k : Nat} {ps : List (ByteArray × ValL)} {gy : Nat} {cs : List Value} (hf : Fr (fun b => b = g) W2 wr) (hlt : g < W2.heap.size) (hq : BQ bkVP g wr g (Bes W2 g)) (ha : Bl wr wa) (hay : Bl wa wy) (hW : Bl wy W)
    (h1 : FI wa.heap.size wy v xs) (h2 : OPR wa.heap.size wy q k ps) (hg : wy.heap.size = gy) (box : AC W gy cs) : VQm W2 W g v xs q k ps gy cs := by
  have l1 := hf.size
  have l2 := ha.size
  have l3 := hay.size
  have l4 := box.lt
  refine ⟨hf.bl (ha.trans (hay.trans hW)), hlt, (hq.more (ha.trans (hay.trans hW))).less (fun b hb => ?_), (h1.keep hW).wider (by omega), (h2.keep hW).wider (by omega), box, by omega, fun e => ?_, fun e => ?_⟩
  · rcases hb with e | e | e | e
    · exact .inl e
    · have := World.ownsRow.lt (h1.keep hW).own b e
      exact .inr ⟨by omega, this.2⟩
    · have := World.ownsRow.lt (h2.keep hW).2 b e
      exact .inr ⟨by omega, this.2⟩
    · exact .inr ⟨by omega, by omega⟩
  · have := World.ownsRow.lt h1.own gy e; omega
  · have := World.ownsRow.lt h2.2 gy e; omega
/-- behind the vector -/
structure VQo (W2 W : World) (g : Nat) (q : Value) (k : Nat) (ps : List (ByteArray × ValL)) (gy : Nat) (cs : List Value) : Prop where
  fr : Fr (fun b => b = g) W2 W
  lt : g < W2.heap.size
  bq : BQ bkVP g W g (fun b => Bes W2 g b ∨ q.ownBlock = some b ∨ b = gy)
  hq : OPR W2.heap.size W q k ps
  box : AC W gy cs
theorem vq_first (W2 W : World) (g g' : Nat) (v : Value) (xs : List Int) (q : Value) (k : Nat) (ps : List (ByteArray × ValL)) (gy : Nat) (cs : List Value) (h : VQm W2 W g v xs q k ps gy cs) (hn : xs.length ≤ 50000) (hg : g = g') :
    Calls Tryz.prog 20 #[.pointer (some ⟨g', 0, none⟩), v] W fun e W' => e = .returned (.tuple #[]) ∧ VQo W2 W' g q k ps gy cs := by
  subst hg
  obtain ⟨a, c, e⟩ := row_shape' h.hv.own
  subst e
  have hsz : g ≤ W.heap.size := by have := h.fr.size; have := h.lt; omega
  have H := Lib.hid (bqVP_Vecs g g a xs.length c xs _ W hsz h.bq (own_mono' h.hv.own (Nat.le_of_lt h.lt)) rfl hn h.hv.wf (fun b hb => .inr (.inl hb)))
  have HM := Lib.hid h
  clear h hn hsz
  go_enter Tryz.func20, Tryz.ntmps20
  go_wp2_with fail
  refine H.out.mono ?_
  rintro e W' ⟨rfl, hq, hf⟩
  have HQ := Lib.hid hq
  have HF := Lib.hid hf
  clear hq hf H
  go_wp2_with fail
  go_end0
  have hno : ∀ b, q.ownBlock = some b → (Value.slice a xs.length c).ownBlock ≠ some b := fun b e e2 => by
    rcases vp_apart HM.out.hv HM.out.hq with s | s
    · rw [s] at e2; cases e2
    · exact s (e2.trans e.symm)
  refine ⟨rfl, HM.out.fr.beside HF.out (fun b hb => .inl hb), HM.out.lt, HQ.out.less (fun b hb => ?_), ⟨HM.out.hq.1, HF.out.own HM.out.hq.2 (fun b e => not_not_intro (.inr (.inr (.inl e))))⟩, HF.out.ac HM.out.box (not_not_intro (.inr (.inr (.inr rfl))))⟩
  rcases hb with s | s | s
  · exact ⟨.inl s, fun e => by have := World.ownsRow.lt HM.out.hv.own b e; have := s.1; omega⟩
  · exact ⟨.inr (.inr (.inl s)), hno b s⟩
  · exact ⟨.inr (.inr (.inr s)), by rw [s]; exact HM.out.lv⟩
theorem vq_last (W2 W : World) (g g' : Nat) (q : Value) (k : Nat) (ps : List (ByteArray × ValL)) (gy : Nat) (cs : List Value) (h : VQo W2 W g q k ps gy cs) (hn : k ≤ 50000) (hok : ∀ p ∈ ps, PaOk p) (hg : g = g') :
    Calls Tryz.prog 21 #[.pointer (some ⟨g', 0, none⟩), q] W fun e W' => e = .returned (.tuple #[]) ∧ Fr (fun b => b = g) W2 W' ∧ BQ bkVP g W' g (Bes W2 g) := by
  subst hg
  obtain ⟨a, c, e⟩ := h.hq.form
  subst e
  have hsz : g ≤ W.heap.size := by have := h.fr.size; have := h.lt; omega
  refine (bqVP_Pairs g g a k c ps _ W hsz h.bq (own_mono' h.hq.2 (Nat.le_of_lt h.lt)) h.hq.1 hn hok (fun b hb => .inr (.inl hb))).mono ?_
  rintro e W' ⟨rfl, hq, hf⟩
  exact ⟨rfl, h.fr.beside hf (fun b hb => .inl hb), hq.less (fun b hb => ⟨.inl hb, fun e => by have := World.ownsRow.lt h.hq.2 b e; have := hb.1; omega⟩)⟩
end Go.Proofs.YtaplefelfiefaaaGreat
end
