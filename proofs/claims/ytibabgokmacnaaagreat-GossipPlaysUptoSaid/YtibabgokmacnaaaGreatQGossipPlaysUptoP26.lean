import Derived.Test.YtibabgokmacnaaaGreatQGossipPlaysUptoP24
import Derived.Test.YtibabgokmacnaaaGreatQGossipPlaysUptoP25

/- bedrockbook.Book.Vecs: one more vector is kept. By an AI agent. -/
section
set_option linter.unusedVariables false
namespace Go.Proofs.YtibabgokmacnaaaGreat
open Go.RowKit
attribute [local go_sem] eOp eOper eUpon pOp pOper pUpon

theorem own_mono {W : World} {B B' n z : Nat} {E : TypeId} {v : Value} {cs : List Value} (h : W.ownsRow B E z v n cs) (hb : B' ≤ B) : W.ownsRow B' E z v n cs := by
  obtain ⟨h1, h2 | ⟨g, cap, cur, hv, hB, r⟩⟩ := h
  · exact ⟨h1, .inl h2⟩
  · exact ⟨h1, .inr ⟨g, cap, cur, hv, Nat.le_trans hb hB, r⟩⟩
theorem row_shape {W : World} {B n z : Nat} {E : TypeId} {v : Value} {cs : List Value} (h : W.ownsRow B E z v n cs) : ∃ a c, v = .slice a n c := by
  obtain ⟨_, ⟨rfl, h2⟩ | ⟨g, cap, cur, rfl, _⟩⟩ := h
  · subst h2; exact ⟨none, 0, rfl⟩
  · exact ⟨_, _, rfl⟩
/-- what Vecs leaves -/
structure VP (B : Nat) (w W : World) (g n : Nat) (vv wv : Value) (vcs ucs : List Value) (v : Value) (ys : List Int) (vv' wv' u : Value) : Prop where
  box : AC W g (bookCs vv' wv')
  rv : W.ownsRow B 22 1 vv' (n + 1) (vcs ++ [v])
  ru : W.ownsRow B 22 1 wv' (n + 1) (ucs ++ [u])
  fi : FI w.heap.size W u ys
  fr : Fr (fun b => b = g ∨ vv.ownBlock = some b ∨ wv.ownBlock = some b) w W
  bv : ∀ b, vv'.ownBlock = some b → vv.ownBlock = some b ∨ w.heap.size ≤ b
  bu : ∀ b, wv'.ownBlock = some b → wv.ownBlock = some b ∨ w.heap.size ≤ b
  av : u.ownBlock = none ∨ u.ownBlock ≠ vv'.ownBlock
  au : u.ownBlock = none ∨ u.ownBlock ≠ wv'.ownBlock
  avu : wv'.ownBlock = none ∨ wv'.ownBlock ≠ vv'.ownBlock
theorem grown_set (w : World) (g j : Nat) (u : Value) : w.grownBy (w.setCell ⟨g, j, none⟩ u) (some g) := ⟨rfl, rfl, rfl, by simp, fun k hk hne => Below.heap_setCell _ _ _ _ (fun e => hne (by rw [e]))⟩
theorem AC.setb {w : World} {g : Nat} {cs : List Value} (h : AC w g cs) (j : Nat) (v : Value) : AC (w.setCell ⟨g, j, none⟩ v) g (cs.set j v) := by
  obtain ⟨t, h⟩ := h
  exact ⟨t, by rw [heap_setCell_same w g j _ t v h]; simp⟩
theorem pOp_appK {ops : Array Oper} {R : List PanicEntry → World → Prop} {i : Nat} {o : Oper} {a : Act} {w : World} {K : Act → World → Prop} (ho' : ops[i]? = some o) (hgd : o.guard = none) (s x : Operand) (T : TypeId)
    (ho : o.op = .call { callee := .builtin .append, args := #[s, x], argTypes := #[T, T] }) {E : TypeId} {size bytes : Nat} (hT : EL T E size bytes) (B : Nat) (v : Value) (n : Nat) (xs : List Value) (hs : a.eval s = v) (hown : w.ownsRow B E size v n xs) (hB : B ≤ w.heap.size)
    (ad : Option Addr) (m c : Nat) (news : List Value) (hx : a.eval x = .slice ad m c) (hsc : SG w size ad m news) (h63 : n + m ≤ maxLen) (hbytes : (n + m) * bytes ≤ 140737488355328)
    (h : ∀ v' w', w'.ownsRow B E size v' (n + m) (xs ++ news) → w.grownBy w' v.ownBlock → (∀ b, v'.ownBlock = some b → v.ownBlock = some b ∨ w.heap.size ≤ b) → K (a.put o.dst v') w') : pOp Tryz.prog R ops i K a w := by
  obtain ⟨v', w', hr, h2, h3, h4, h5⟩ := run_appK hT o.type v n xs hown ad m c news hsc h63 hbytes hB
  unfold pOp
  simp only [ho']
  rw [if_pos (by simp [Region.wanted, hgd])]
  unfold pOper execOp
  simp only [ho, resolve, invoke, builtin, Sem.run_bind, Sem.run_pure, Result.andThen_ok, List.map_toArray, List.map_cons, List.map_nil, hs, hx, hr, pUpon]
  exact h v' w' h2 h3 h5
set_option maxHeartbeats 1000000 in
theorem vecs_any (B g n : Nat) (vv wv : Value) (vcs ucs : List Value) (a : Option Addr) (nv c : Nat) (ys : List Int) (w : World) (hn : n < 250) (hB : B ≤ w.heap.size) (hBg : B ≤ g) (hbox : AC w g (bookCs vv wv))
    (hv : w.ownsRow B 22 1 vv n vcs) (hu : w.ownsRow B 22 1 wv n ucs) (hgv : vv.ownBlock ≠ some g) (hgu : wv.ownBlock ≠ some g) (hvu : wv.ownBlock = none ∨ wv.ownBlock ≠ vv.ownBlock) (hx : IA w a nv ys)
    (hxg : ∀ b off, a = some ⟨b, off, none⟩ → ¬ (b = g ∨ vv.ownBlock = some b ∨ wv.ownBlock = some b)) :
    Calls Tryz.prog 76 #[.pointer (some ⟨g, 0, none⟩), .slice a nv c] w fun e w' => e = .returned (.tuple #[]) ∧ ∃ vv' wv' u, VP B w w' g n vv wv vcs ucs (.slice a nv c) ys vv' wv' u := by
  obtain ⟨va, cv, rfl⟩ := row_shape hv
  have HBX := Lib.hid hbox
  have HU := Lib.hid hu
  have HV := Lib.hid hv
  have HX := Lib.hid hx
  have HXG := Lib.hid hxg
  have HGV := Lib.hid hgv
  have HGU := Lib.hid hgu
  have HVU := Lib.hid hvu
  have hgl := hbox.lt
  clear hu hv hx hxg hgv hgu hvu hbox
  have c4 := HBX.out.cell 4 _ rfl
  have hn1 : decide ((n : Int) < 250) = true := decide_eq_true (by omega)
  have hn2 : decide (n < 250) = true := decide_eq_true hn
  go_enter Tryz.func76, Tryz.ntmps76
  have hbA := (Bl.refl w).alloc (.cells #[.slice a nv c] 22)
  have hlit : (w.alloc (.cells #[.slice a nv c] 22)).heap[w.heap.size]? = some (.cells [.slice a nv c].toArray 22 (0, 0)) := heap_alloc_new w _
  have HLT := Lib.hid (SG.lit (size := 1) hlit rfl (by intro u hu; simp at hu; subst hu; rfl))
  have hva := ownsRow_bl HV.out hbA
  have HBA := Lib.hid hbA
  clear hlit hbA
  go_wp2_with (at_builtin; refine wpList_appK rfl _ _ _ rfl el_rows B _ _ _ rfl hva ?cB (some ⟨w.heap.size, 0, none⟩) 1 1 _ rfl HLT.out ?cM ?cN ?_)
  case cB => simp; omega
  case cM => unfold maxLen; omega
  case cN => omega
  intro vv' w1 ho hg _ hb
  obtain ⟨va', cv', rfl⟩ := row_shape ho
  have hfr : Fr (fun b => b = g ∨ (Value.slice va n cv).ownBlock = some b ∨ wv.ownBlock = some b) w w1 := ((Fr.refl _ w).bl HBA.out).grown hg (fun i e => .inr (.inl e))
  have hbx : AC w1 g (bookCs (.slice va n cv) wv) := by
    have h1 := HBX.out.keep HBA.out
    obtain ⟨t, h2⟩ := h1
    exact ⟨t, by rw [hg.block g (lt_of_heap h2) (fun e => HGV.out e.symm)]; exact h2⟩
  have hu1 : w1.ownsRow B 22 1 wv n ucs := World.ownsRow.kept (ownsRow_bl HU.out HBA.out) hg HVU.out
  have c4' := hbx.cell 4 _ rfl
  have f4 := hbx.frozen 4
  have HFR := Lib.hid hfr
  have HB1 := Lib.hid hbx
  have HU1 := Lib.hid hu1
  have HO := Lib.hid ho
  have HBV := Lib.hid hb
  have HSZ := Lib.hid (show w.heap.size < w1.heap.size from by have := hg.size; simp at this; omega)
  clear c4 ho hg hb hfr hbx hu1 hva hn1 hn2 hBg hgl
  go_upto_region 2 with fail
  have HFR2 := Lib.hid (HFR.out.grown (grown_set w1 g 4 (.slice va' (n + 1) cv')) (fun i e => .inl (Option.some.inj e).symm))
  have HB2 := Lib.hid (show AC (w1.setCell ⟨g, 4, none⟩ (.slice va' (n + 1) cv')) g (bookCs (.slice va' (n + 1) cv') wv) from HB1.out.setb 4 _)
  have hvg : (Value.slice va' (n + 1) cv').ownBlock ≠ some g := fun e => by
    rcases HBV.out g e with q | q
    · exact HGV.out q
    · have := HBX.out.lt; have := HBA.out.size; omega
  have HVG := Lib.hid hvg
  have HO2 := Lib.hid (World.ownsRow.kept HO.out (grown_set w1 g 4 (.slice va' (n + 1) cv')) (.inr hvg))
  have HU2 := Lib.hid (World.ownsRow.kept HU1.out (grown_set w1 g 4 (.slice va' (n + 1) cv')) (.inr HGU.out))
  have HX2 := Lib.hid (HFR2.out.ia HX.out HXG.out)
  have hsz2 : w.heap.size < (w1.setCell ⟨g, 4, none⟩ (.slice va' (n + 1) cv')).heap.size := by simp; exact HSZ.out
  have HSZ2 := Lib.hid hsz2
  clear hvg hsz2 f4 c4' HFR HB1 HO HU1 HLT
  generalize w1.setCell _ _ = w2 at *
  obtain ⟨ua, cu, hwv⟩ := row_shape HU2.out
  subst hwv
  refine wp_region_panicsT [0, 1, 2, 3, 4, 5] 6 (HasBox g (bookCs (.slice va' (n + 1) cv') (.slice ua n cu))) HasBox.keep (HB2.out.keep ((Bl.refl w2).drew)) [11] (fun c W' => False) ?hR (by kernel_rfl) rfl (by kernel_rfl) (by kernel_rfl) (by kernel_rfl) ?_
  case hR => intro c tt W' h; exact h.elim
  have HBZ := Lib.hid ((Bl.refl w2).drew)
  generalize w2.drew = Z at *
  have HBXZ := Lib.hid (HB2.out.keep HBZ.out)
  haveI : Nonempty (ExtC (HasBox g (bookCs (.slice va' (n + 1) cv') (.slice ua n cu)))) := ⟨⟨Z, HBXZ.out⟩⟩
  have d5 : ∀ q : ExtC (HasBox g (bookCs (.slice va' (n + 1) cv') (.slice ua n cu))), _ := fun q => AC.cell q.ok 5 _ rfl
  repeat (refine wpI_step rfl (fun K hK => ?_); go_simp; first | (refine hK _ ?_; clear hK K) | (apply Exists.intro; refine ⟨fun q => ?_, hK _ ?_⟩; fail; clear hK K))
  refine wpI_nil ?_
  clear d5 this
  refine wpAnyP_one (i := 6) (by kernel_rfl) ?_
  intro Y1 hy1
  have HY1 := Lib.hid (HBZ.out.trans hy1)
  clear hy1
  go_simp
  refine (copyVecs_any a nv c ys Y1 (HX2.out.keep HY1.out)).mono ?_
  rintro e Y2 ⟨u, rfl, hfi, hb2⟩
  have HY2 := Lib.hid (HY1.out.trans hb2)
  have HFI := Lib.hid hfi
  have hszA := HY1.out.size
  have hfo := hfi.own
  obtain ⟨a5, c5, hu5, _⟩ := hfo.shape
  rw [HX.out.len] at hu5
  subst hu5
  clear hb2 hfi hfo
  go_simp
  refine ⟨HB2.out.keep HY2.out, ?_⟩
  refine wpAnyP_one (i := 7) (by kernel_rfl) ?_
  intro Y3 hy3
  go_simp
  have hbl := hy3.alloc (.cells #[.slice a5 nv c5] 22)
  have hlit : (Y3.alloc (.cells #[.slice a5 nv c5] 22)).heap[Y3.heap.size]? = some (.cells [.slice a5 nv c5].toArray 22 (0, 0)) := heap_alloc_new Y3 _
  have HLT := Lib.hid (SG.lit (size := 1) hlit rfl (by intro u hu; simp at hu; subst hu; rfl))
  have HY3 := Lib.hid (HY2.out.trans hbl)
  have HFI3 := Lib.hid (HFI.out.keep hbl)
  refine ⟨HB2.out.keep HY3.out, ?_⟩
  clear hlit hbl hy3 HFI HY2
  generalize Y3.alloc _ = Y4 at *
  generalize Y3.heap.size = gl at *
  refine wpAnyP_one (i := 8) (by kernel_rfl) ?_
  intro Y5 hy5
  have HY5 := Lib.hid (HY3.out.trans hy5)
  have HFI5 := Lib.hid (HFI3.out.keep hy5)
  have HL5 := Lib.hid (HLT.out.keep hy5)
  have HU5 := Lib.hid (ownsRow_bl HU2.out HY5.out)
  have HB5 := Lib.hid (HB2.out.keep HY5.out)
  have HO5 := Lib.hid (ownsRow_bl HO2.out HY5.out)
  have hsz5 := HY5.out.size
  clear hy5 HFI3 HLT HY3
  refine pOp_appK rfl rfl _ _ _ rfl el_rows B (.slice ua n cu) n ucs rfl HU5.out (by have := HSZ2.out; omega) (some ⟨gl, 0, none⟩) 1 1 _ rfl HL5.out (by unfold maxLen; omega) (by omega) ?_
  intro wv' Y6 ho6 hg6 hb6
  have hul : ∀ b, (Value.slice ua n cu).ownBlock = some b → b < w.heap.size := fun b e => (World.ownsRow.lt HU.out b e).2
  have hvu' : (Value.slice va' (n + 1) cv').ownBlock = none ∨ (Value.slice va' (n + 1) cv').ownBlock ≠ (Value.slice ua n cu).ownBlock := by
    cases e : (Value.slice va' (n + 1) cv').ownBlock with
    | none => exact .inl rfl
    | some b =>
      refine .inr (fun e2 => ?_)
      rcases HBV.out b e with q | q
      · rcases HVU.out with r | r
        · rw [r] at e2; cases e2
        · exact r (e2.symm.trans q.symm)
      · have := hul b e2.symm; omega
  have hbx6 : AC Y6 g (bookCs (.slice va' (n + 1) cv') (.slice ua n cu)) := by
    obtain ⟨t, h2⟩ := HB5.out
    exact ⟨t, by rw [hg6.block g (lt_of_heap h2) (fun e => HGU.out e.symm)]; exact h2⟩
  have hfo6 : OI Y1.heap.size Y6 (.slice a5 nv c5) ys := World.ownsRow.kept HFI5.out.own hg6 (by
    cases e : (Value.slice a5 nv c5).ownBlock with
    | none => exact .inl rfl
    | some b => exact .inr (fun e2 => by have := hul b e2.symm; have := (World.ownsRow.lt HFI5.out.own b e).1; have := HSZ2.out; omega))
  have HFI6 : Hid (FI w.heap.size Y6 (.slice a5 nv c5) ys) := Lib.hid ⟨own_mono hfo6 (by have := HSZ2.out; omega), HFI5.out.cap, HFI5.out.wf⟩
  have HO6 := Lib.hid (World.ownsRow.kept HO5.out hg6 hvu')
  have HB6 := Lib.hid hbx6
  have HW6 := Lib.hid ho6
  have HFR6 := Lib.hid ((HFR2.out.bl HY5.out).grown hg6 (fun i e => .inr (.inr e)))
  have HBU := Lib.hid (fun b (e : wv'.ownBlock = some b) => (hb6 b e).imp_right (fun q => Nat.le_trans (Nat.le_of_lt HSZ2.out) (Nat.le_trans hsz5 q)))
  have hau : ∀ b, (Value.slice a5 nv c5).ownBlock = some b → w2.heap.size ≤ b ∧ b < Y5.heap.size := fun b e => by
    have h1 := World.ownsRow.lt HFI5.out.own b e
    exact ⟨Nat.le_trans hszA h1.1, h1.2⟩
  have HAU : Hid ((Value.slice a5 nv c5).ownBlock = none ∨ (Value.slice a5 nv c5).ownBlock ≠ wv'.ownBlock) := Lib.hid (by
    cases e : (Value.slice a5 nv c5).ownBlock with
    | none => exact .inl rfl
    | some b =>
      refine .inr (fun e2 => ?_)
      have h1 := hau b e
      rcases hb6 b e2.symm with q | q
      · have := hul b q; have := HSZ2.out; omega
      · omega)
  have HAV : Hid ((Value.slice a5 nv c5).ownBlock = none ∨ (Value.slice a5 nv c5).ownBlock ≠ (Value.slice va' (n + 1) cv').ownBlock) := Lib.hid (by
    cases e : (Value.slice a5 nv c5).ownBlock with
    | none => exact .inl rfl
    | some b =>
      refine .inr (fun e2 => ?_)
      have h1 := hau b e
      have := (World.ownsRow.lt HO2.out b e2.symm).2
      omega)
  have HAVU : Hid (wv'.ownBlock = none ∨ wv'.ownBlock ≠ (Value.slice va' (n + 1) cv').ownBlock) := Lib.hid (by
    cases e : wv'.ownBlock with
    | none => exact .inl rfl
    | some b =>
      refine .inr (fun e2 => ?_)
      rcases hb6 b e with q | q
      · rcases hvu' with r | r
        · rw [r] at e2; cases e2
        · exact r (e2.symm.trans q.symm)
      · have := (World.ownsRow.lt HO2.out b e2.symm).2; omega)
  have hwg : wv'.ownBlock ≠ some g := fun e => by
    rcases hb6 g e with q | q
    · exact HGU.out q
    · have := HBX.out.lt; have := HSZ2.out; omega
  have HWG := Lib.hid hwg
  refine ⟨fun _ => hbx6, ?_⟩
  simp only [Act.put, List.setIfInBounds_toArray]
  obtain ⟨wa, wc, hws⟩ := row_shape ho6
  subst hws
  clear ho6 hg6 hb6 hul hvu' hbx6 hfo6 hau hwg HB5 HO5 HU5 HFI5 HL5 HY5 hsz5 HFR2 HO2 HU2 HX2 HB2
  refine wpAnyP_one (i := 9) (by kernel_rfl) ?_
  intro Y7 hy7
  go_simp
  refine ⟨HB6.out.keep hy7, ?_⟩
  refine wpAnyP_one (i := 10) (by kernel_rfl) ?_
  intro Y8 hy8
  go_simp
  refine ⟨HB6.out.keep (hy7.trans hy8), ?_⟩
  refine wpAnyP_one (i := 11) (by kernel_rfl) ?_
  intro Y9 hy9
  have HY9 := Lib.hid ((hy7.trans hy8).trans hy9)
  clear hy7 hy8 hy9
  have HB9 := Lib.hid (HB6.out.keep HY9.out)
  have c5' := HB9.out.cell 5 _ rfl
  have f5' := HB9.out.frozen 5
  have HB10 := Lib.hid (show AC (Y9.setCell ⟨g, 5, none⟩ (.slice wa (n + 1) wc)) g (bookCs (.slice va' (n + 1) cv') (.slice wa (n + 1) wc)) from HB9.out.setb 5 _)
  have hgs := grown_set Y9 g 5 (.slice wa (n + 1) wc)
  have HO10 := Lib.hid (World.ownsRow.kept (ownsRow_bl HO6.out HY9.out) hgs (.inr HVG.out))
  have HW10 := Lib.hid (World.ownsRow.kept (ownsRow_bl HW6.out HY9.out) hgs (.inr HWG.out))
  have hug : (Value.slice a5 nv c5).ownBlock ≠ some g := fun e => by
    have h1 := (World.ownsRow.lt HFI6.out.own g e).1
    have h2 := HBX.out.lt
    omega
  have HF10 : Hid (FI w.heap.size (Y9.setCell ⟨g, 5, none⟩ (.slice wa (n + 1) wc)) (.slice a5 nv c5) ys) := Lib.hid ⟨World.ownsRow.kept (ownsRow_bl HFI6.out.own HY9.out) hgs (.inr hug), HFI6.out.cap, HFI6.out.wf⟩
  have HFR10 := Lib.hid ((HFR6.out.bl HY9.out).grown hgs (fun i e => .inl (Option.some.inj e).symm))
  clear hgs hug HO6 HW6 HFI6 HFR6 HB6 HB9 HY9
  go_simp
  clear c5' f5'
  generalize World.setCell _ _ _ = Y10 at *
  refine wpAnyP_done (by kernel_rfl) ?_
  intro Y11 hy11
  have HY := Lib.hid hy11
  clear hy11
  go_wp2_with fail
  go_end0
  exact ⟨rfl, _, _, _, HB10.out.keep HY.out, ownsRow_bl HO10.out HY.out, ownsRow_bl HW10.out HY.out, HF10.out.keep HY.out, HFR10.out.bl HY.out, fun b e => (HBV.out b e).imp_right (fun q => by omega), HBU.out, HAV.out, HAU.out, HAVU.out⟩
end Go.Proofs.YtibabgokmacnaaaGreat
end

/- bedrockbook.Book.Vec, and the state of a book that is still written on. By an AI agent. -/
section
set_option linter.unusedVariables false
namespace Go.Proofs.YtibabgokmacnaaaGreat
open Go.RowKit

/-- a book of vectors that is still written on -/
structure BO (B : Nat) (W : World) (g n : Nat) (vv wv : Value) (vs us : Nat → Value) (xs : Nat → List Int) : Prop where
  few : n ≤ 250
  base : B ≤ g
  box : AC W g (bookCs vv wv)
  rv : W.ownsRow B 22 1 vv n ((List.range n).map vs)
  ru : W.ownsRow B 22 1 wv n ((List.range n).map us)
  fv : ∀ j, j < n → FI B W (vs j) (xs j)
  fu : ∀ j, j < n → FI B W (us j) (xs j)
  small : ∀ j, j < n → (xs j).length ≤ 50000
  gv : vv.ownBlock ≠ some g
  gu : wv.ownBlock ≠ some g
  vu : wv.ownBlock = none ∨ wv.ownBlock ≠ vv.ownBlock
  avg : ∀ j, j < n → ∀ b, (vs j).ownBlock = some b → ¬ (b = g ∨ vv.ownBlock = some b ∨ wv.ownBlock = some b)
  aug : ∀ j, j < n → ∀ b, (us j).ownBlock = some b → ¬ (b = g ∨ vv.ownBlock = some b ∨ wv.ownBlock = some b)
  avv : ∀ i j, i < n → j < n → i ≠ j → (vs i).ownBlock = none ∨ (vs i).ownBlock ≠ (vs j).ownBlock
theorem BO.keep {B : Nat} {W W' : World} {g n : Nat} {vv wv : Value} {vs us : Nat → Value} {xs : Nat → List Int} (h : BO B W g n vv wv vs us xs) (hb : Bl W W') : BO B W' g n vv wv vs us xs :=
  ⟨h.few, h.base, h.box.keep hb, ownsRow_bl h.rv hb, ownsRow_bl h.ru hb, fun j hj => (h.fv j hj).keep hb, fun j hj => (h.fu j hj).keep hb, h.small, h.gv, h.gu, h.vu, h.avg, h.aug, h.avv⟩
theorem BO.new {B : Nat} {W : World} {g : Nat} (hB : B ≤ g) (h : AC W g (bookCs (.slice none 0 0) (.slice none 0 0))) : BO B W g 0 (.slice none 0 0) (.slice none 0 0) (fun _ => undef) (fun _ => undef) (fun _ => []) :=
  ⟨by omega, hB, h, World.ownsRow_nil _ _ _ _, World.ownsRow_nil _ _ _ _, fun j hj => absurd hj (Nat.not_lt_zero _), fun j hj => absurd hj (Nat.not_lt_zero _), fun j hj => absurd hj (Nat.not_lt_zero _), (fun e => by cases e), (fun e => by cases e), .inl rfl, fun j hj => absurd hj (Nat.not_lt_zero _), fun j hj => absurd hj (Nat.not_lt_zero _), fun i j hi => absurd hi (Nat.not_lt_zero _)⟩
theorem BO.bk {B : Nat} {W : World} {g n : Nat} {vv wv : Value} {vs us : Nat → Value} {xs : Nat → List Int} (h : BO B W g n vv wv vs us xs) : ∃ va ua cv cu, BK B W g va ua n cv cu vs us xs := by
  obtain ⟨va, cv, rfl, hva⟩ := row_la h.rv
  obtain ⟨ua, cu, rfl, hua⟩ := row_la h.ru
  refine ⟨va, ua, cv, cu, h.box, h.few, hva, hua, fun j hj => (h.fv j hj).own, h.small, fun j hj => ⟨(h.fv j hj).si, (h.fu j hj).si⟩, h.avv, ?_, fun b off e => ?_⟩
  · rintro ⟨j, hj, e⟩
    exact h.avg j hj g e (.inl rfl)
  · rintro ⟨j, hj, e2⟩
    subst e
    exact h.avg j hj b e2 (.inr (.inl rfl))
theorem FI.fr {S : Nat → Prop} {B : Nat} {w w' : World} {v : Value} {xs : List Int} (h : FI B w v xs) (hf : Fr S w w') (hs : ∀ b, v.ownBlock = some b → ¬ S b) : FI B w' v xs := ⟨hf.own h.own hs, h.cap, h.wf⟩
theorem BO.step {B : Nat} {w W : World} {g n : Nat} {vv wv vv' wv' v u : Value} {vs us : Nat → Value} {xs : Nat → List Int} {ys : List Int} (h : BO B w g n vv wv vs us xs) (hn : n < 250) (hB : B ≤ w.heap.size) (hv : FI B w v ys) (hl : ys.length ≤ 50000)
    (hav : ∀ b, v.ownBlock = some b → ¬ (b = g ∨ vv.ownBlock = some b ∨ wv.ownBlock = some b)) (hvs : ∀ j, j < n → v.ownBlock = none ∨ v.ownBlock ≠ (vs j).ownBlock)
    (p : VP B w W g n vv wv ((List.range n).map vs) ((List.range n).map us) v ys vv' wv' u) :
    BO B W g (n + 1) vv' wv' (fun j => if j = n then v else vs j) (fun j => if j = n then u else us j) (fun j => if j = n then ys else xs j) := by
  have hgl := h.box.lt
  have row : ∀ (f : Nat → Value) (x : Value), (List.range (n + 1)).map (fun j => if j = n then x else f j) = (List.range n).map f ++ [x] := fun f x => by
    rw [List.range_succ, List.map_append]
    congr 1
    · exact List.map_congr_left (fun j hj => if_neg (by have := List.mem_range.1 hj; omega))
    · simp
  have old : ∀ b, b < w.heap.size → ¬ (b = g ∨ vv.ownBlock = some b ∨ wv.ownBlock = some b) → ¬ (b = g ∨ vv'.ownBlock = some b ∨ wv'.ownBlock = some b) := fun b hb hs hq => by
    rcases hq with q | q | q
    · exact hs (.inl q)
    · rcases p.bv b q with r | r
      · exact hs (.inr (.inl r))
      · omega
    · rcases p.bu b q with r | r
      · exact hs (.inr (.inr r))
      · omega
  refine ⟨by omega, h.base, p.box, by rw [row]; exact p.rv, by rw [row]; exact p.ru, fun j hj => ?_, fun j hj => ?_, fun j hj => ?_, fun e => ?_, fun e => ?_, p.avu, fun j hj b e => ?_, fun j hj b e => ?_, fun i j hi hj hij => ?_⟩
  · by_cases e : j = n
    · subst e; rw [if_pos rfl, if_pos rfl]; exact hv.fr p.fr hav
    · rw [if_neg e, if_neg e]; exact (h.fv j (by omega)).fr p.fr (h.avg j (by omega))
  · by_cases e : j = n
    · subst e; rw [if_pos rfl, if_pos rfl]; exact ⟨own_mono p.fi.own hB, p.fi.cap, p.fi.wf⟩
    · rw [if_neg e, if_neg e]; exact (h.fu j (by omega)).fr p.fr (h.aug j (by omega))
  · by_cases e : j = n
    · subst e; rw [if_pos rfl]; exact hl
    · rw [if_neg e]; exact h.small j (by omega)
  · rcases p.bv g e with q | q
    · exact h.gv q
    · omega
  · rcases p.bu g e with q | q
    · exact h.gu q
    · omega
  · by_cases e1 : j = n
    · subst e1; rw [if_pos rfl] at e
      exact old b (World.ownsRow.lt hv.own b e).2 (hav b e)
    · rw [if_neg e1] at e
      exact old b (World.ownsRow.lt (h.fv j (by omega)).own b e).2 (h.avg j (by omega) b e)
  · by_cases e1 : j = n
    · subst e1; rw [if_pos rfl] at e
      have hb := (World.ownsRow.lt p.fi.own b e).1
      rintro (q | q | q)
      · omega
      · rcases p.av with r | r
        · rw [r] at e; cases e
        · exact r (e.trans q.symm)
      · rcases p.au with r | r
        · rw [r] at e; cases e
        · exact r (e.trans q.symm)
    · rw [if_neg e1] at e
      exact old b (World.ownsRow.lt (h.fu j (by omega)).own b e).2 (h.aug j (by omega) b e)
  · by_cases e1 : i = n
    · subst e1
      rw [if_pos rfl, if_neg (by omega)]
      exact hvs j (by omega)
    · rw [if_neg e1]
      by_cases e2 : j = n
      · subst e2
        rw [if_pos rfl]
        rcases hvs i (by omega) with q | q
        · cases hq : (vs i).ownBlock with
          | none => exact .inl rfl
          | some b => exact .inr (by rw [q]; exact fun h => by cases h)
        · exact .inr (fun h => q h.symm)
      · rw [if_neg e2]
        exact h.avv i j (by omega) (by omega) hij
theorem bookVec_any (B g n : Nat) (vv wv : Value) (vcs ucs : List Value) (a : Option Addr) (nv c : Nat) (ys : List Int) (w : World) (hn : n < 250) (hB : B ≤ w.heap.size) (hBg : B ≤ g) (hbox : AC w g (bookCs vv wv))
    (hv : w.ownsRow B 22 1 vv n vcs) (hu : w.ownsRow B 22 1 wv n ucs) (hgv : vv.ownBlock ≠ some g) (hgu : wv.ownBlock ≠ some g) (hvu : wv.ownBlock = none ∨ wv.ownBlock ≠ vv.ownBlock) (hx : IA w a nv ys)
    (hxg : ∀ b off, a = some ⟨b, off, none⟩ → ¬ (b = g ∨ vv.ownBlock = some b ∨ wv.ownBlock = some b)) :
    Calls Tryz.prog 30 #[.pointer (some ⟨g, 0, none⟩), .slice a nv c] w fun e w' => e = .returned (.tuple #[]) ∧ ∃ vv' wv' u, VP B w w' g n vv wv vcs ucs (.slice a nv c) ys vv' wv' u := by
  have HC := Lib.hid (vecs_any B g n vv wv vcs ucs a nv c ys w hn hB hBg hbox hv hu hgv hgu hvu hx hxg)
  clear hn hB hBg hbox hv hu hgv hgu hvu hx hxg
  go_enter Tryz.func30, Tryz.ntmps30
  go_wp2_with fail
  refine HC.out.mono ?_
  rintro e w1 ⟨rfl, vv', wv', u, hp⟩
  have HP := Lib.hid hp
  clear hp
  go_wp2_with fail
  go_end0
  exact ⟨rfl, vv', wv', u, HP.out⟩
/-- a book that is full keeps nothing more -/
theorem vecs_full (g : Nat) (va : Option Addr) (cv : Nat) (wv v : Value) (w : World) (hbox : AC w g (bookCs (.slice va 250 cv) wv)) :
    Calls Tryz.prog 76 #[.pointer (some ⟨g, 0, none⟩), v] w fun e w' => e = .returned (.tuple #[]) ∧ w = w' := by
  have c4 := hbox.cell 4 _ rfl
  clear hbox
  go_enter Tryz.func76, Tryz.ntmps76
  go_wp2_with fail
  go_end0
  exact ⟨rfl, rfl⟩
theorem bookVec_full (g : Nat) (va : Option Addr) (cv : Nat) (wv v : Value) (w : World) (hbox : AC w g (bookCs (.slice va 250 cv) wv)) :
    Calls Tryz.prog 30 #[.pointer (some ⟨g, 0, none⟩), v] w fun e w' => e = .returned (.tuple #[]) ∧ w = w' := by
  have HC := Lib.hid (vecs_full g va cv wv v w hbox)
  clear hbox
  go_enter Tryz.func30, Tryz.ntmps30
  go_wp2_with fail
  refine HC.out.mono ?_
  rintro e w1 ⟨rfl, rfl⟩
  go_wp2_with fail
  go_end0
  exact ⟨rfl, rfl⟩
end Go.Proofs.YtibabgokmacnaaaGreat
end
