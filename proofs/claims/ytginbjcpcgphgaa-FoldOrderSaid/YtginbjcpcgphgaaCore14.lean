import Derived.Test.YtginbjcpcgphgaaCore7
import Derived.Test.YtginbjcpcgphgaaCore13

/- versions in order, each stamp once: plain laws. By an AI agent. -/
section
set_option linter.unusedVariables false
set_option linter.unusedSimpArgs false
namespace Go.Proofs.Ytginbjcpcgphgaa
open Go.RowKit

section
variable {α : Type}
/-- what is left behind p where neighbours that are alike are struck -/
def cptGo (eq : α → α → Bool) : α → List α → List α
  | _, [] => []
  | p, y :: l => if eq y p then cptGo eq y l else y :: cptGo eq y l
def cpt (eq : α → α → Bool) : List α → List α
  | [] => []
  | x :: l => x :: cptGo eq x l
theorem cptGo_sub (eq : α → α → Bool) : ∀ (l : List α) (p : α), (cptGo eq p l).Sublist l
  | [], p => List.Sublist.refl _
  | y :: l, p => by
    unfold cptGo
    split
    · exact (cptGo_sub eq l y).cons _
    · exact (cptGo_sub eq l y).cons_cons _
theorem cpt_sub (eq : α → α → Bool) (l : List α) : (cpt eq l).Sublist l := by
  cases l with
  | nil => exact List.Sublist.refl _
  | cons x l => exact (cptGo_sub eq l x).cons_cons _
end
def eqV (a b : VerL) : Bool := decide (orderL a b = 0)
theorem eqV_iff {a b : VerL} : eqV a b = true ↔ AlV a b := by unfold eqV; rw [decide_eq_true_iff, orderL_zero]
theorem cptGo_strict : ∀ (l : List VerL) (p : VerL), Srt leV (p :: l) → (p :: cptGo eqV p l).Pairwise LtV
  | [], p, _ => List.pairwise_singleton _ _
  | y :: l, p, h => by
    obtain ⟨h1, h2⟩ := List.pairwise_cons.1 h
    have ih := cptGo_strict l y h2
    obtain ⟨i1, i2⟩ := List.pairwise_cons.1 ih
    unfold cptGo
    cases e : eqV y p with
    | true =>
      rw [if_pos rfl]
      have ha := eqV_iff.1 e
      exact List.pairwise_cons.2 ⟨fun z hz => ha.symm.lt (i1 z hz), i2⟩
    | false =>
      rw [if_neg (by decide)]
      have hl := leV_iff.1 (h1 y (by simp))
      have hy : LtV p y := by
        rcases ltV_total p y with q | q | q
        · exact q
        · rw [eqV_iff.2 q.symm] at e; cases e
        · exact absurd q hl
      refine List.pairwise_cons.2 ⟨fun z hz => ?_, ih⟩
      rcases List.mem_cons.1 hz with q | q
      · subst q; exact hy
      · exact hy.trans (i1 z q)
theorem cptGo_cover : ∀ (l : List VerL) (p v : VerL), v ∈ p :: l → ∃ o ∈ p :: cptGo eqV p l, AlV o v
  | [], p, v, h => ⟨p, by simp, by rw [List.mem_singleton.1 h]; exact AlV.refl _⟩
  | y :: l, p, v, h => by
    unfold cptGo
    rcases List.mem_cons.1 h with q | q
    · subst q
      refine ⟨v, ?_, AlV.refl _⟩
      split <;> simp
    · obtain ⟨o, ho, ha⟩ := cptGo_cover l y v q
      cases e : eqV y p with
      | true =>
        rw [if_pos rfl]
        rcases List.mem_cons.1 ho with r | r
        · subst r
          exact ⟨p, by simp, (eqV_iff.1 e).symm.trans ha⟩
        · exact ⟨o, by simp [r], ha⟩
      | false =>
        rw [if_neg (by decide)]
        exact ⟨o, by simp [ho], ha⟩
/-- versions by their stamps, each stamp once -/
def orderOf (l : List VerL) : List VerL := cpt eqV (srt leV l)
theorem order_strict (l : List VerL) : (orderOf l).Pairwise LtV := by
  unfold orderOf
  have h := srt_sorted leV_pre l
  cases e : srt leV l with
  | nil => exact List.Pairwise.nil
  | cons p m => rw [e] at h; exact cptGo_strict m p h
theorem order_mem {l : List VerL} {o : VerL} (h : o ∈ orderOf l) : o ∈ l := (srt_perm l).mem_iff.1 ((cpt_sub eqV _).subset h)
theorem order_len (l : List VerL) : (orderOf l).length ≤ l.length := by
  rw [← srt_len (le := leV) l]; exact (cpt_sub eqV _).length_le
theorem order_cover {l : List VerL} {v : VerL} (h : v ∈ l) : ∃ o ∈ orderOf l, AlV o v := by
  unfold orderOf
  have hm := (srt_perm (le := leV) l).mem_iff.2 h
  cases e : srt leV l with
  | nil => rw [e] at hm; cases hm
  | cons p m => rw [e] at hm; exact cptGo_cover m p v hm
/-- two strict lists of the same stamps stand place by place -/
theorem strict_same : ∀ (xs ys : List VerL), xs.Pairwise LtV → ys.Pairwise LtV → (∀ x ∈ xs, ∃ y ∈ ys, AlV x y) → (∀ y ∈ ys, ∃ x ∈ xs, AlV x y) → xs.length = ys.length ∧ ∀ j (h : j < xs.length) (k : j < ys.length), AlV xs[j] ys[j]
  | [], [], _, _, _, _ => ⟨rfl, fun j h => by simp at h⟩
  | [], y :: ys, _, _, _, h => by obtain ⟨x, hx, _⟩ := h y (by simp); cases hx
  | x :: xs, [], _, _, h, _ => by obtain ⟨y, hy, _⟩ := h x (by simp); cases hy
  | x :: xs, y :: ys, h1, h2, h3, h4 => by
    obtain ⟨p1, p2⟩ := List.pairwise_cons.1 h1
    obtain ⟨q1, q2⟩ := List.pairwise_cons.1 h2
    have hh : AlV x y := by
      obtain ⟨a, ha, e1⟩ := h3 x (by simp)
      obtain ⟨b, hb, e2⟩ := h4 y (by simp)
      rcases List.mem_cons.1 ha with r | r
      · subst r; exact e1
      · rcases List.mem_cons.1 hb with s | s
        · subst s; exact e2
        · have l1 : LtV y x := (q1 a r).al e1.symm
          have l2 : LtV x y := (p1 b s).al e2
          exact absurd (l1.trans l2) LtV.irrefl
    have ih := strict_same xs ys p2 q2 (fun u hu => ?_) (fun u hu => ?_)
    · refine ⟨by simp [ih.1], fun j h k => ?_⟩
      cases j with
      | zero => exact hh
      | succ j => exact ih.2 j (by simpa using h) (by simpa using k)
    · obtain ⟨a, ha, e⟩ := h3 u (by simp [hu])
      rcases List.mem_cons.1 ha with r | r
      · subst r
        exact absurd ((p1 u hu).al (e.trans hh.symm)) LtV.irrefl
      · exact ⟨a, r, e⟩
    · obtain ⟨a, ha, e⟩ := h4 u (by simp [hu])
      rcases List.mem_cons.1 ha with r | r
      · subst r
        exact absurd ((q1 u hu).al (e.symm.trans hh)) LtV.irrefl
      · exact ⟨a, r, e⟩
/-- two strict lists with the same elements are one -/
theorem strict_eq : ∀ (xs ys : List VerL), xs.Pairwise LtV → ys.Pairwise LtV → (∀ v, v ∈ xs ↔ v ∈ ys) → xs = ys
  | [], [], _, _, _ => rfl
  | [], y :: ys, _, _, h => by have := (h y).2 (by simp); cases this
  | x :: xs, [], _, _, h => by have := (h x).1 (by simp); cases this
  | x :: xs, y :: ys, h1, h2, h3 => by
    obtain ⟨p1, p2⟩ := List.pairwise_cons.1 h1
    obtain ⟨q1, q2⟩ := List.pairwise_cons.1 h2
    have hh : x = y := by
      have a := (h3 x).1 (by simp)
      have b := (h3 y).2 (by simp)
      rcases List.mem_cons.1 a with r | r
      · exact r
      · rcases List.mem_cons.1 b with s | s
        · exact s.symm
        · exact absurd ((q1 x r).trans (p1 y s)) LtV.irrefl
    subst hh
    congr 1
    refine strict_eq xs ys p2 q2 (fun v => ⟨fun hv => ?_, fun hv => ?_⟩)
    · rcases List.mem_cons.1 ((h3 v).1 (by simp [hv])) with r | r
      · subst r; exact absurd (p1 v hv) LtV.irrefl
      · exact r
    · rcases List.mem_cons.1 ((h3 v).2 (by simp [hv])) with r | r
      · subst r; exact absurd (q1 v hv) LtV.irrefl
      · exact r
/-- where no two are of one stamp all stand there -/
theorem order_all {l : List VerL} (h : l.Pairwise (fun a b => ¬ AlV a b)) {v : VerL} : v ∈ orderOf l ↔ v ∈ l := by
  refine ⟨order_mem, fun hv => ?_⟩
  obtain ⟨o, ho, ha⟩ := order_cover hv
  have hm := order_mem ho
  by_cases e : o = v
  · exact e ▸ ho
  · exfalso
    obtain ⟨i, hi, rfl⟩ := List.mem_iff_getElem.1 hv
    obtain ⟨j, hj, rfl⟩ := List.mem_iff_getElem.1 hm
    have hij : i ≠ j := fun q => e (by subst q; rfl)
    rcases Nat.lt_or_gt_of_ne hij with q | q
    · exact List.pairwise_iff_getElem.1 h i j hi hj q ha.symm
    · exact List.pairwise_iff_getElem.1 h j i hj hi q ha
theorem order_perm {l : List VerL} (h : l.Pairwise (fun a b => ¬ AlV a b)) : (orderOf l).Perm l := by
  have hs : (srt leV l).Pairwise (fun a b => ¬ AlV a b) := (srt_perm (le := leV) l).symm.pairwise h (fun q r => q r.symm)
  have : orderOf l = srt leV l := by
    unfold orderOf
    refine strict_eq _ _ (order_strict l) ?_ (fun v => ?_)
    · have h1 := srt_sorted leV_pre l
      refine List.pairwise_iff_getElem.2 (fun i j hi hj hij => ?_)
      have a := List.pairwise_iff_getElem.1 hs i j hi hj hij
      have b := leV_iff.1 (List.pairwise_iff_getElem.1 h1 i j hi hj hij)
      rcases ltV_total (srt leV l)[i] (srt leV l)[j] with q | q | q
      · exact q
      · exact absurd q a
      · exact absurd q b
    · exact ((order_all h).trans (srt_perm (le := leV) l).mem_iff.symm)
  rw [this]; exact srt_perm l
theorem strict_apart {l : List VerL} (h : l.Pairwise LtV) : l.Pairwise (fun a b => ¬ AlV a b) := h.imp (fun q r => (q.al r.symm).irrefl)
theorem order_id {l : List VerL} (h : l.Pairwise LtV) : orderOf l = l := strict_eq _ _ (order_strict l) h (fun v => order_all (strict_apart h))
end Go.Proofs.Ytginbjcpcgphgaa
end

/- are two versions of one stamp; the order's test. By an AI agent. -/
section
set_option linter.unusedVariables false
set_option linter.unusedSimpArgs false
namespace Go.Proofs.Ytginbjcpcgphgaa
open Go.RowKit

def eqC (a b : VC) : Bool := eqV a.ver b.ver
set_option maxHeartbeats 1600000 in
set_option maxRecDepth 100000 in
theorem same_stamp (x y : VC) (w : World) {g : Nat} (hx : VOk w g x) (hy : VOk w g y) (r : Bool) (hr : Hid (eqC x y = r)) :
    Calls Try.prog 35 #[.agg #[.string x.key, .slice x.ad x.n x.ca, .int .i64 x.origin, .int .i64 x.tx, .int .i64 x.act.k, .float .f64 x.act.x, .int .i64 x.act.n, .string x.act.s], .agg #[.string y.key, .slice y.ad y.n y.ca, .int .i64 y.origin, .int .i64 y.tx, .int .i64 y.act.k, .float .f64 y.act.x, .int .i64 y.act.n, .string y.act.s]] w fun e w' => e = .returned (.bool r) ∧ Bl w w' := by
  have G := O2.new w x.cs y.cs 35 35
  obtain ⟨a0, a1, a2, a3, a4, a5, a6, a7⟩ := AC.ver (key := x.key) (a := x.ad) (n := x.n) (ca := x.ca) (o := x.origin) (t := x.tx) (k := x.act.k) (x := x.act.x) (m := x.act.n) (s := x.act.s) G.a
  obtain ⟨b0, b1, b2, b3, b4, b5, b6, b7⟩ := AC.ver (key := y.key) (a := y.ad) (n := y.n) (ca := y.ca) (o := y.origin) (t := y.tx) (k := y.act.k) (x := y.act.x) (m := y.act.n) (s := y.act.s) G.b
  obtain ⟨R, hR⟩ : ∃ R, orderL x.ver y.ver = R := ⟨_, rfl⟩
  have HRR := Lib.hid hR
  have HG := Lib.hid G.bl
  have HX := Lib.hid (hx.keep G.bl)
  have HY := Lib.hid (hy.keep G.bl)
  have hq : (R == 0) = r := by
    rw [← hr.out]
    unfold eqC eqV
    rw [hR, Bool.eq_iff_iff]; simp
  unfold VC.cs verC at *
  clear G hR hx hy
  go_enter Try.func35, Try.ntmps35
  go_wp2_with fail
  generalize (w.alloc _).alloc _ = W at *
  refine (forder_w x y R _ HX.out HY.out HRR).mono ?_
  rintro e w1 ⟨rfl, hb⟩
  go_wp2_with fail
  go_ret
  exact ⟨rfl, HG.out.trans hb⟩
/-! ### what 'clear' does to the end of a row -/
def zeroVC : VC := ⟨nilS, none, 0, 0, [], 0, 0, ⟨0, 0, 0, nilS⟩⟩
theorem zeroVC_ok (W : World) (g : Nat) : VOk W g zeroVC := ⟨IA.nil _ _, ⟨by decide, by decide, by decide, by decide⟩, .inl rfl⟩
theorem AC.puts {g : Nat} : ∀ (vs : List Value) (o : Nat) (W : World) (L : List Value), AC W g L → o + vs.length ≤ L.length → AC (W.setCells g o vs) g (L.take o ++ (vs ++ L.drop (o + vs.length)))
  | [], o, W, L, h, _ => by
    rw [List.nil_append, List.length_nil, Nat.add_zero, List.take_append_drop]; exact h
  | v :: vs, o, W, L, h, hl => by
    rw [List.length_cons] at hl
    have ih := AC.puts vs (o + 1) (W.setCell ⟨g, o, none⟩ v) (L.set o v) (h.putj o v) (by rw [List.length_set]; omega)
    have e : (L.set o v).take (o + 1) ++ (vs ++ (L.set o v).drop (o + 1 + vs.length)) = L.take o ++ ((v :: vs) ++ L.drop (o + (v :: vs).length)) := by
      rw [List.take_add_one, List.getElem?_set_self (by omega), List.take_set_of_le (Nat.le_refl o), List.drop_set_of_lt (by omega), List.length_cons, show o + 1 + vs.length = o + (vs.length + 1) by omega]
      simp
    rw [e] at ih
    exact ih
theorem Bl.puts {w : World} {g : Nat} (hg : w.heap.size ≤ g) : ∀ (vs : List Value) (o : Nat) (W : World), Bl w W → Bl w (W.setCells g o vs)
  | [], _, _, h => h
  | v :: vs, o, W, h => Bl.puts hg vs (o + 1) _ (h.setCell (p := ⟨g, o, none⟩) hg v)
theorem VOk.puts {g : Nat} {x : VC} : ∀ (vs : List Value) (o : Nat) (W : World), VOk W g x → VOk (W.setCells g o vs) g x
  | [], _, _, h => h
  | v :: vs, o, W, h => VOk.puts vs (o + 1) _ (h.set o v)
theorem flat_append (xs ys : List VC) : flat (xs ++ ys) = flat xs ++ flat ys := by unfold flat; rw [List.flatMap_append]
theorem zero_cells (m : Nat) : (Builtin.zeroCells zeroVC.cs.toArray m).toList = flat (List.replicate m zeroVC) := by
  refine List.ext_getElem? (fun i => ?_)
  have hl : (flat (List.replicate m zeroVC)).length = m * 8 := by rw [flat_len, List.length_replicate]
  by_cases h : i < m * 8
  · obtain ⟨k, r, hr, rfl⟩ : ∃ k r, r < 8 ∧ i = k * 8 + r := ⟨i / 8, i % 8, by omega, by omega⟩
    rw [flat_get _ _ _ (by rw [List.length_replicate]; omega) hr]
    have e : el (List.replicate m zeroVC) k = zeroVC := by unfold el; rw [List.getElem?_replicate, if_pos (by omega)]; rfl
    rw [e]
    unfold Builtin.zeroCells
    have hz : zeroVC.cs.toArray.size = 8 := rfl
    rw [hz]
    rw [Array.getElem?_toList, Array.getElem?_map, Array.getElem?_range, if_pos (by omega)]
    simp only [Option.map_some, Nat.mul_comm k 8, Nat.mul_add_mod, Nat.mod_eq_of_lt hr]
    match r, hr with
    | 0, _ => rfl
    | 1, _ => rfl
    | 2, _ => rfl
    | 3, _ => rfl
    | 4, _ => rfl
    | 5, _ => rfl
    | 6, _ => rfl
    | 7, _ => rfl
  · have e1 : (flat (List.replicate m zeroVC))[i]? = none := List.getElem?_eq_none (by omega)
    have e2 : (Builtin.zeroCells zeroVC.cs.toArray m).toList[i]? = none := by
      refine List.getElem?_eq_none ?_
      unfold Builtin.zeroCells
      have hz : zeroVC.cs.toArray.size = 8 := rfl
      simp only [Array.length_toList, Array.size_map, Array.size_range, hz]; omega
    rw [e1, e2]
theorem clear_row {w W : World} {g n kk : Nat} {zs : List VC} (h : RW w W g zs) (hn : zs.length = n) (hk : kk < n) (ty : TypeId) (c : Nat) :
    ∃ W', (Builtin.clear_ #[22] ty #[.slice (some ⟨g, kk * 8, none⟩) (n - kk) c]).run Try.prog W = .ok (.tuple #[]) W' ∧ RW w W' g (zs.take kk ++ List.replicate (n - kk) zeroVC) := by
  have hl := flat_len zs
  have hv : (flat (List.replicate (n - kk) zeroVC)).length = (n - kk) * 8 := by rw [flat_len, List.length_replicate]
  have hcell : ∀ j, j < (n - kk) * 8 → (W.cell? ⟨g, kk * 8 + 0 + j, none⟩).isSome = true := fun j hj => by
    obtain ⟨sp, hr⟩ := h.row
    have : (flat zs ++ sp)[kk * 8 + 0 + j]? = some ((flat zs ++ sp)[kk * 8 + 0 + j]'(by rw [List.length_append]; omega)) := List.getElem?_eq_getElem _
    rw [hr.cell _ _ this]; rfl
  have hst := run_storeCells_cells (P := Try.prog) g (kk * 8) (flat (List.replicate (n - kk) zeroVC)) 0 W (fun j hj => hcell j (by rw [hv] at hj; exact hj)) (fun j hj => h.frozen _) (fun v hv => by
    unfold flat at hv
    obtain ⟨x, hx, hm⟩ := List.mem_flatMap.1 hv
    rw [(List.mem_replicate.1 hx).2] at hm
    simp only [VC.cs, verC, List.mem_cons, List.not_mem_nil, or_false] at hm
    rcases hm with rfl | rfl | rfl | rfl | rfl | rfl | rfl | rfl <;> rfl)
  rw [Nat.add_zero] at hst
  have hz : ∀ W : World, (zeroValue 35).run Try.prog W = .ok (.agg zeroVC.cs.toArray) W := fun W => by rfl
  refine ⟨W.setCells g (kk * 8) (flat (List.replicate (n - kk) zeroVC)), ?_, ?_⟩
  · obtain ⟨m, hm⟩ : ∃ m, n - kk = m + 1 := ⟨n - kk - 1, by omega⟩
    rw [hm] at hst ⊢
    have hzc := zero_cells (m + 1)
    simp only [Builtin.clear_]
    simp [run_underlying Try.underlying22, hz, Value.cells, hzc, hst]
  · obtain ⟨sp, hr⟩ := h.row
    refine ⟨h.bl.puts h.new _ _, h.new, ⟨sp, ?_⟩, fun v hv => ?_⟩
    · have := AC.puts (flat (List.replicate (n - kk) zeroVC)) (kk * 8) W _ hr (by rw [List.length_append]; omega)
      have e1 : (flat zs ++ sp).take (kk * 8) = flat (zs.take kk) := by
        have : flat zs = flat (zs.take kk) ++ flat (zs.drop kk) := by rw [← flat_append, List.take_append_drop]
        have l1 : (flat (zs.take kk)).length = kk * 8 := by rw [flat_len, List.length_take]; omega
        rw [this, List.append_assoc, List.take_left' l1]
      have e2 : (flat zs ++ sp).drop (kk * 8 + (flat (List.replicate (n - kk) zeroVC)).length) = sp := by
        rw [List.drop_left' (by rw [hv, hl]; omega)]
      rw [e1, e2] at this
      rw [flat_append, List.append_assoc]
      exact this
    · rcases List.mem_append.1 hv with q | q
      · exact (h.ok v (List.mem_of_mem_take q)).puts _ _ _
      · rw [(List.mem_replicate.1 q).2]; exact zeroVC_ok _ _
end Go.Proofs.Ytginbjcpcgphgaa
end
