import Derived.Test.YtkpikmfijcffiaaGreatQTxn2
import Derived.Test.YtkpikmfijcffiaaGreatQTxnWritesUptoP23
import Derived.Test.YtkpikmfijcffiaaGreatQTxnWritesUptoP16
import Derived.Test.YtkpikmfijcffiaaGreatQTxnWritesUptoP12
import Derived.Test.YtkpikmfijcffiaaGreatQTxnWritesUptoP3

/- how many versions txn.Versions tells. By an AI agent. -/
section
set_option linter.unusedVariables false
set_option linter.unusedSimpArgs false
namespace Go.Proofs.YtkpikmfijcffiaaGreat
open Go.RowKit
attribute [local go_sem] eOp eOper eUpon pOp pOper pUpon

theorem el_ver : EL 69 132 8 96 := el_of Tryz.underlying69 (by kernel_rfl) (by decide)
/-- some row of so many versions -/
def OVN (B : Nat) (w : World) (v : Value) (k : Nat) : Prop := ∃ cs, w.ownsRow B 132 8 v k cs
theorem OVN.keep {B : Nat} {w w' : World} {v : Value} {k : Nat} (h : OVN B w v k) (hb : Bl w w') : OVN B w' v k := by
  obtain ⟨cs, h⟩ := h; exact ⟨cs, ownsRow_bl h hb⟩
theorem OVN.form {B : Nat} {w : World} {v : Value} {k : Nat} (h : OVN B w v k) : ∃ a c, v = .slice a k c := by
  obtain ⟨cs, h1, ⟨rfl, rfl⟩ | ⟨g, cap, cur, rfl, r⟩⟩ := h
  · exact ⟨_, _, rfl⟩
  · exact ⟨_, _, rfl⟩
set_option maxHeartbeats 6400000 in
set_option maxRecDepth 100000 in
theorem txVers_any (t : TxnL) (s : TxAt) (w : World) (h : TX w s t) (hwn : s.wn ≤ 1000000) :
    Calls Tryz.prog 24 #[txV t s] w fun e w' => ∃ a c, e = .returned (.slice a (if validT t = true then s.wn else 0) c) ∧ Bl w w' := by
  obtain ⟨R, hR⟩ : ∃ R, validT t = R := ⟨_, rfl⟩
  rw [hR]
  have HR := Lib.hid hR
  obtain ⟨o, num, prev, ds, xs, ws⟩ := t
  obtain ⟨da, dn, dc, aa, an, ac, wa, wn, wc⟩ := s
  obtain ⟨hd, hx, hw, _, _, _⟩ := h
  have hsf := store_float
  have HD := Lib.hid hd
  have HX := Lib.hid hx
  have HW := Lib.hid hw
  have hg := AC.new w _ rfl [.int .i64 o, .int .i64 num, .int .i64 prev, .slice da dn dc, .slice aa an ac, .slice wa wn wc] 62
  have hb := (Bl.refl w).alloc (.cells [Value.int .i64 o, .int .i64 num, .int .i64 prev, .slice da dn dc, .slice aa an ac, .slice wa wn wc].toArray 62)
  unfold txV
  clear hd hx hw hR
  dsimp only at *
  have c0 := hg.cell 0 _ rfl
  have c1 := hg.cell 1 _ rfl
  have c2 := hg.cell 2 _ rfl
  have c3 := hg.cell 3 _ rfl
  have c4 := hg.cell 4 _ rfl
  have c5 := hg.cell 5 _ rfl
  go_enter Tryz.func24, Tryz.ntmps24
  go_wp2_with fail
  generalize w.alloc _ = W at *
  have HG := Lib.hid hg
  have HB := Lib.hid hb
  clear hg hb
  refine (txValid_hid o num prev da dn dc ds aa an ac xs wa wn wc ws _ (HD.out.keep HB.out) (HX.out.keep HB.out) (HW.out.keep HB.out) R HR).mono ?_
  rintro e W1 ⟨rfl, hb1⟩
  have HG1 := Lib.hid (HG.out.keep hb1)
  have HB1 := Lib.hid (HB.out.trans hb1)
  clear hb1 HG HB c0 c1 c2 c3 c4 c5
  cases R
  · go_wp2_with fail
    go_ret
    exact ⟨⟨_, _, rfl⟩, HB1.out⟩
  have c5 := HG1.out.cell 5 _ rfl
  go_wp2_with fail
  clear c5
  go_loopw [3, 12] (fun v i wr => ∃ k : Nat, k ≤ wn ∧ i = .int .i64 k ∧ Bl W1 wr ∧ OVN W1.heap.size wr v k) (fun _ i _ => wn - (intOf i).toNat)
  case atStart => exact ⟨0, Nat.zero_le _, rfl, Bl.refl _, ⟨[], World.ownsRow_nil _ _ _ _⟩⟩
  case round =>
    obtain ⟨k, hk, rfl, hbl, hov⟩ := hrel
    have HBL := Lib.hid hbl
    have HOV := Lib.hid hov
    obtain ⟨va, vc, hve⟩ := hov.form
    subst hve
    clear hbl hov
    by_cases hlt : k < wn
    · obtain ⟨ba, oa, rfl, _⟩ := HW.out.cells k hlt
      obtain ⟨c0, c1, c2, c3, c4⟩ := HW.out.get (HB1.out.trans HBL.out) hlt
      generalize nthW ws k = p at *
      obtain ⟨pk, ⟨ak, ax, a2, az⟩⟩ := p
      dsimp only at c0 c1 c2 c3 c4
      have hgp := AC.new wr _ rfl [.string pk, .int .i64 ak, .float .f64 ax, .int .i64 a2, .string az] 58
      have hbp := (Bl.refl wr).alloc (.cells #[.string pk, .int .i64 ak, .float .f64 ax, .int .i64 a2, .string az] 58)
      go_upto_region 7 with fail
      clear c0 c1 c2 c3 c4
      generalize wr.alloc _ = V at *
      generalize wr.heap.size = gp at *
      have HGP := Lib.hid (hgp.keep (Bl.refl V).drew)
      have HBP := Lib.hid (HBL.out.trans (hbp.drew))
      have HOV2 := Lib.hid ((HOV.out.keep hbp).keep (Bl.refl V).drew)
      clear hgp hbp HBL HOV
      refine wp_region_panicsT [0, 1, 2, 3, 4, 6, 7, 8, 9, 10, 11] 5 (Bl V.drew) (fun _ _ h k => h.trans k) (Bl.refl _) [14, 15] (fun c W' => False) ?hR (by kernel_rfl) rfl (by kernel_rfl) (by kernel_rfl) (by kernel_rfl) ?_
      case hR => intro c tt W' h; exact h.elim
      generalize V.drew = Z at *
      haveI : Nonempty (ExtC (Bl Z)) := ⟨⟨Z, Bl.refl _⟩⟩
      have k0 : ∀ q : ExtC (Bl Z), _ := fun q => (HGP.out.keep q.ok).cell 0 _ rfl
      have k1 : ∀ q : ExtC (Bl Z), _ := fun q => (HGP.out.keep q.ok).cell 1 _ rfl
      have k2 : ∀ q : ExtC (Bl Z), _ := fun q => (HGP.out.keep q.ok).cell 2 _ rfl
      have k3 : ∀ q : ExtC (Bl Z), _ := fun q => (HGP.out.keep q.ok).cell 3 _ rfl
      have k4 : ∀ q : ExtC (Bl Z), _ := fun q => (HGP.out.keep q.ok).cell 4 _ rfl
      have l0 : ∀ q : ExtC (Bl Z), _ := fun q => (HG1.out.keep (HBP.out.trans q.ok)).cell 0 _ rfl
      have l1 : ∀ q : ExtC (Bl Z), _ := fun q => (HG1.out.keep (HBP.out.trans q.ok)).cell 1 _ rfl
      have l4 : ∀ q : ExtC (Bl Z), _ := fun q => (HG1.out.keep (HBP.out.trans q.ok)).cell 4 _ rfl
      repeat (refine wpI_step rfl (fun K hK => ?_); go_simp; first | (refine hK _ ?_; clear hK K) | (apply Exists.intro; refine ⟨fun q => ?_, hK _ ?_⟩; (fail); clear hK K))
      refine wpI_nil ?_
      clear k0 k1 k2 k3 k4 l0 l1 l4 this
      refine wpAnyP_one (i := 5) (by kernel_rfl) ?_
      intro Y1 hy1
      go_simp
      refine (vclone_any aa an ac xs Y1 (HX.out.keep (HB1.out.trans (HBP.out.trans hy1)))).mono ?_
      rintro e Y2 ⟨v, rfl, hv, hb2⟩
      obtain ⟨xa, xn, xc, rfl, hI⟩ := hv.si
      have HY2 := Lib.hid (hy1.trans hb2)
      clear hy1 hb2 hv hI
      go_simp
      refine ⟨HY2.out, ?_⟩
      refine wpAnyP_one (i := 12) (by kernel_rfl) ?_
      intro Y3 hy3
      go_simp
      refine ⟨HY2.out.trans hy3, ?_⟩
      refine wpAnyP_one (i := 13) (by kernel_rfl) ?_
      intro Y4 hy4
      go_simp
      have hlit : (Y4.alloc (.cells #[.string pk, .slice xa xn xc, .int .i64 o, .int .i64 num, .int .i64 ak, .float .f64 ax, .int .i64 a2, .string az] 132)).heap[Y4.heap.size]? = some (.cells ([Value.string pk, .slice xa xn xc, .int .i64 o, .int .i64 num, .int .i64 ak, .float .f64 ax, .int .i64 a2, .string az]).toArray 132 (0, 0)) := heap_alloc_new Y4 _
      have hbl := (Bl.refl Y4).alloc (.cells #[.string pk, .slice xa xn xc, .int .i64 o, .int .i64 num, .int .i64 ak, .float .f64 ax, .int .i64 a2, .string az] 132)
      have HS := Lib.hid (SG.lit (size := 8) hlit rfl (by simp [Value.oneCell']))
      have HY5 := Lib.hid (HY2.out.trans (hy3.trans (hy4.trans hbl)))
      clear hlit hbl hy3 hy4 HY2
      generalize Y4.alloc _ = Y5 at *
      generalize Y4.heap.size = gl at *
      refine ⟨HY5.out, ?_⟩
      refine wpAnyP_one (i := 14) (by kernel_rfl) ?_
      intro Y6 hy6
      have HS6 := Lib.hid (HS.out.keep hy6)
      have HZ6 := Lib.hid (HY5.out.trans hy6)
      obtain ⟨cs, hcs⟩ := HOV2.out.keep (HY5.out.trans hy6)
      have HCS := Lib.hid hcs
      clear hy6 hcs HS HY5
      refine pOp_appG rfl rfl _ _ _ rfl el_ver W1.heap.size (.slice va k vc) k cs rfl HCS.out (HBP.out.trans HZ6.out).size (some ⟨gl, 0, none⟩) 1 1 _ rfl HS6.out (by unfold maxLen; omega) (by omega) ?_
      intro v' Y7 ho hgr
      have HO : Hid (OVN W1.heap.size Y7 v' (k + 1)) := Lib.hid ⟨_, ho⟩
      have HBY : Hid (Bl W1 Y7) := Lib.hid (Bl.ownRow (HBP.out.trans HZ6.out) HCS.out (Nat.le_refl _) hgr)
      obtain ⟨va', vc', rfl⟩ := HO.out.form
      clear ho hgr HS6 HZ6 HCS HBP
      simp only [Act.put, List.setIfInBounds_toArray]
      refine ⟨fun h => absurd h (by decide), ?_⟩
      refine wpAnyP_one (i := 15) (by kernel_rfl) ?_
      intro Y8 hy8
      go_simp
      refine wpAnyP_done (by kernel_rfl) ?_
      intro Y9 hy9
      have HBN := Lib.hid (HBY.out.trans (hy8.trans hy9))
      have HON := Lib.hid (HO.out.keep (hy8.trans hy9))
      go_wp2_with fail
      go_roundw
      case rel => exact ⟨k + 1, by omega, by go_num, HBN.out, HON.out⟩
      case measure => simp [intOf]; omega
    · obtain rfl : k = wn := by omega
      go_wp2_with fail
      go_ret
      exact ⟨⟨_, _, rfl⟩, HB1.out.trans HBL.out⟩
end Go.Proofs.YtkpikmfijcffiaaGreat
end

/- what txn.Fold keeps: its map, its row. By an AI agent. -/
section
set_option linter.unusedVariables false
set_option linter.unusedSimpArgs false
namespace Go.Proofs.YtkpikmfijcffiaaGreat
open Go.RowKit Go.Maps

theorem klit_inj {a b : ByteArray} (h : klit a = klit b) : a = b := by
  simp only [klit, Lit.string.injEq] at h
  exact toList_inj (by rw [ByteArray.toList_eq, ByteArray.toList_eq]; exact h)
/-- the map of the places of keys -/
structure MapOf (D : DataW Unit) (out : List (ByteArray × ActL)) : Prop where
  is : Maps.IsMap D
  has : ∀ key, Maps.has D (klit key) = out.any (fun q => decide (q.1 = key))
  at_ : ∀ i, i < out.length → ∀ z, D.atKey (klit (nthW out i).1) z = .lit (.int .i64 i)
theorem MapOf.nil : MapOf (.map []) [] := ⟨⟨[], rfl⟩, fun key => rfl, fun i h => absurd h (Nat.not_lt_zero _)⟩
theorem nthW_app {out : List (ByteArray × ActL)} {p : ByteArray × ActL} {i : Nat} (h : i < out.length) : nthW (out ++ [p]) i = nthW out i := by
  rw [nthW_eq (by simp; omega), nthW_eq h, List.getElem_append_left h]
theorem nthW_last (out : List (ByteArray × ActL)) (p : ByteArray × ActL) : nthW (out ++ [p]) out.length = p := by
  rw [nthW_eq (by simp)]; simp
theorem MapOf.put {D : DataW Unit} {out : List (ByteArray × ActL)} (h : MapOf D out) (p : ByteArray × ActL) (hn : out.any (fun q => decide (q.1 = p.1)) = false) :
    MapOf (D.put (klit p.1) (.lit (.int .i64 out.length))) (out ++ [p]) := by
  have hk : WideAt.IsKeyLit (klit p.1) := trivial
  refine ⟨h.is.put _ _, fun key => ?_, fun i hi z => ?_⟩
  · by_cases e : key = p.1
    · subst e
      rw [has_put_same h.is hk, List.any_append]
      simp
    · rw [has_put_other (fun q => e (klit_inj q)), h.has, List.any_append]
      simp [Ne.symm e]
  · rw [List.length_append, List.length_singleton] at hi
    by_cases e : i < out.length
    · have hne : (nthW out i).1 ≠ p.1 := fun q => by
        have h1 := List.any_eq_false.1 hn _ (nthW_mem e)
        simp [q] at h1
      rw [nthW_app e, atKey_put_other (fun q => hne (klit_inj q)), h.at_ i e]
    · obtain rfl : i = out.length := by omega
      rw [nthW_last, atKey_put_same h.is hk]
theorem any_keys (out : List (ByteArray × ActL)) (key : ByteArray) : out.any (fun q => decide (q.1 = key)) = (out.map (·.1)).any (fun q => decide (q = key)) := by
  rw [List.any_map]; rfl
theorem nthW_key {a b : List (ByteArray × ActL)} (h : a.map (·.1) = b.map (·.1)) {i : Nat} (hi : i < a.length) : (nthW a i).1 = (nthW b i).1 := by
  have hl := congrArg List.length h
  rw [List.length_map, List.length_map] at hl
  have := List.getElem_of_eq h (i := i) (by simpa using hi)
  rw [nthW_eq hi, nthW_eq (by omega)]
  simpa using this
theorem MapOf.same {D : DataW Unit} {a b : List (ByteArray × ActL)} (h : MapOf D a) (e : a.map (·.1) = b.map (·.1)) : MapOf D b := by
  refine ⟨h.is, fun key => by rw [h.has, any_keys, any_keys, e], fun i hi z => ?_⟩
  have hl := congrArg List.length e
  rw [List.length_map, List.length_map] at hl
  rw [← nthW_key e (by omega)]
  exact h.at_ i (by omega) z
/-- the place of a key that is there -/
theorem MapOf.find {D : DataW Unit} {out : List (ByteArray × ActL)} (h : MapOf D out) {key : ByteArray} (hh : Maps.has D (klit key) = true) {c : Int} {z : DataW Unit} (hc : D.atKey (klit key) z = .lit (.int .i64 c)) :
    ∃ i : Nat, i < out.length ∧ c = (i : Int) ∧ (nthW out i).1 = key := by
  rw [h.has] at hh
  obtain ⟨q, hq, e⟩ := List.any_eq_true.1 hh
  obtain ⟨i, hi, rfl⟩ := List.getElem_of_mem hq
  have e' : (nthW out i).1 = key := by rw [nthW_eq hi]; simpa using e
  have := h.at_ i hi z
  rw [e', hc] at this
  simp only [DataW.lit.injEq, Lit.int.injEq, true_and] at this
  exact ⟨i, hi, this, e'⟩
theorem addW_set {out : List (ByteArray × ActL)} {p : ByteArray × ActL} {i : Nat} (hi : i < out.length) (e : (nthW out i).1 = p.1) (hd : (out.map (·.1)).Nodup) : addW out p = out.set i (p.1, bothL p.1 (nthW out i).2 p.2) := by
  have hm : p.1 ∈ out.map (·.1) := List.mem_map.2 ⟨nthW out i, nthW_mem hi, e⟩
  rw [addW_old hm]
  refine List.ext_getElem (by simp) fun j h1 h2 => ?_
  rw [List.getElem_map, List.getElem_set]
  rw [List.length_map] at h1
  by_cases ej : i = j
  · subst ej
    have e2 := nthW_eq hi
    rw [e2] at e
    rw [if_pos e, if_pos rfl, e2, e]
  · rw [if_neg ej]
    refine if_neg (fun q => ?_)
    rw [nthW_eq hi] at e
    have hp := List.pairwise_iff_getElem.1 hd
    rcases Nat.lt_or_gt_of_ne ej with h | h
    · exact hp i j (by simpa using hi) (by simpa using h1) h (by simpa using e.trans q.symm)
    · exact hp j i (by simpa using h1) (by simpa using hi) h (by simpa using q.trans e.symm)
theorem addW_fresh {out : List (ByteArray × ActL)} {p : ByteArray × ActL} (h : out.any (fun q => decide (q.1 = p.1)) = false) : addW out p = out ++ [p] := by
  unfold addW
  rw [h]; rfl
theorem foldW_take (ws : List (ByteArray × ActL)) {k : Nat} (hk : k < ws.length) : foldW (ws.take (k + 1)) = addW (foldW (ws.take k)) (nthW ws k) := by
  rw [List.take_succ_eq_append_getElem hk, foldW_snoc, ← nthW_eq hk]
/-- a row of writes, with its block in sight -/
theorem OWR.shape {B : Nat} {w : World} {v : Value} {k : Nat} {ps : List (ByteArray × ActL)} (h : OWR B w v k ps) (hk : 0 < k) : ∃ g ca, v = .slice (some ⟨g, 0, none⟩) k ca ∧ B ≤ g ∧ ∃ cur E, w.heap[g]? = some (.cells cur E (0, 0)) := by
  obtain ⟨h1, ⟨rfl, h2⟩ | ⟨g, cap, cur, rfl, hB, hg, r⟩⟩ := h.2
  · omega
  · exact ⟨g, cap, rfl, hB, cur, _, hg⟩
theorem cellsW_set (ps : List (ByteArray × ActL)) {i : Nat} (hi : i < ps.length) (a : ActL) :
    ((((cellsW ps).set (i * 5 + 1) (.int .i64 a.k)).set (i * 5 + 2) (.float .f64 a.x)).set (i * 5 + 3) (.int .i64 a.n)).set (i * 5 + 4) (.string a.s) = cellsW (ps.set i ((nthW ps i).1, a)) := by
  induction ps generalizing i with
  | nil => simp at hi
  | cons p ps ih =>
    have e1 : cellsW (p :: ps) = writeCs p ++ cellsW ps := by simp [cellsW]
    cases i with
    | zero =>
      rw [e1]
      show _ = cellsW ((p.1, a) :: ps)
      have e2 : cellsW ((p.1, a) :: ps) = writeCs (p.1, a) ++ cellsW ps := by simp [cellsW]
      rw [e2]
      simp [writeCs]
    | succ i =>
      have hi' : i < ps.length := by simpa using hi
      have e3 : nthW (p :: ps) (i + 1) = nthW ps i := by unfold nthW; simp
      have e4 : cellsW ((p :: ps).set (i + 1) ((nthW (p :: ps) (i + 1)).1, a)) = writeCs p ++ cellsW (ps.set i ((nthW ps i).1, a)) := by rw [e3]; simp [cellsW]
      rw [e4, ← ih hi', e1]
      have hl : (writeCs p).length = 5 := rfl
      have key : ∀ (cs : List Value) r u, (writeCs p ++ cs).set ((i + 1) * 5 + r) u = writeCs p ++ cs.set (i * 5 + r) u := fun cs r u => by
        rw [List.set_append_right _ _ (by rw [hl]; omega), hl, show (i + 1) * 5 + r - 5 = i * 5 + r by omega]
      rw [key, key, key, key]
/-- the cells of a place's act, and a new act there -/
theorem OWR.setAct {B : Nat} {w : World} {g k ca : Nat} {ps : List (ByteArray × ActL)} (h : OWR B w (.slice (some ⟨g, 0, none⟩) k ca) k ps) {i : Nat} (hi : i < k) (a : ActL) :
    OWR B ((((w.setCell ⟨g, i * 5 + 1, none⟩ (.int .i64 a.k)).setCell ⟨g, i * 5 + 2, none⟩ (.float .f64 a.x)).setCell ⟨g, i * 5 + 3, none⟩ (.int .i64 a.n)).setCell ⟨g, i * 5 + 4, none⟩ (.string a.s)) (.slice (some ⟨g, 0, none⟩) k ca) k (ps.set i ((nthW ps i).1, a)) := by
  have h1 := (World.ownsRow.stored h.2 (i * 5 + 1) (.int .i64 a.k)).1
  have h2 := (World.ownsRow.stored h1 (i * 5 + 2) (.float .f64 a.x)).1
  have h3 := (World.ownsRow.stored h2 (i * 5 + 3) (.int .i64 a.n)).1
  have h4 := (World.ownsRow.stored h3 (i * 5 + 4) (.string a.s)).1
  refine ⟨by rw [List.length_set]; exact h.1, ?_⟩
  rw [← cellsW_set ps (by rw [h.1]; exact hi)]
  exact h4
/-- the store of an act, its cells and what is frozen -/
structure ActPl (w : World) (g o : Nat) : Prop where
  k : ∃ v, w.cell? ⟨g, o, none⟩ = some v
  x : ∃ v, w.cell? ⟨g, o + 1, none⟩ = some v
  n : ∃ v, w.cell? ⟨g, o + 2, none⟩ = some v
  s : ∃ v, w.cell? ⟨g, o + 3, none⟩ = some v
end Go.Proofs.YtkpikmfijcffiaaGreat
end
