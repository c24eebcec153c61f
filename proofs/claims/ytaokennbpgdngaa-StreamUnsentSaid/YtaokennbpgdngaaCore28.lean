import Derived.Test.YtaokennbpgdngaaCore20
import Derived.Test.YtaokennbpgdngaaCore25
import Derived.Test.YtaokennbpgdngaaCore19
import Derived.Test.YtaokennbpgdngaaCore13

/- how many versions txn.Versions tells. By an AI agent. -/
section
set_option linter.unusedVariables false
set_option linter.unusedSimpArgs false
namespace Go.Proofs.Ytaokennbpgdngaa
open Go.RowKit
attribute [local go_sem] eOp eOper eUpon pOp pOper pUpon

theorem el_ver : EL 90 119 8 96 := el_of Try.underlying90 (by kernel_rfl) (by decide)
/-- some row of so many versions -/
def OVN (B : Nat) (w : World) (v : Value) (k : Nat) : Prop := ∃ cs, w.ownsRow B 119 8 v k cs
theorem OVN.keep {B : Nat} {w w' : World} {v : Value} {k : Nat} (h : OVN B w v k) (hb : Bl w w') : OVN B w' v k := by
  obtain ⟨cs, h⟩ := h; exact ⟨cs, ownsRow_bl h hb⟩
theorem OVN.form {B : Nat} {w : World} {v : Value} {k : Nat} (h : OVN B w v k) : ∃ a c, v = .slice a k c := by
  obtain ⟨cs, h1, ⟨rfl, rfl⟩ | ⟨g, cap, cur, rfl, r⟩⟩ := h
  · exact ⟨_, _, rfl⟩
  · exact ⟨_, _, rfl⟩
set_option maxHeartbeats 6400000 in
set_option maxRecDepth 100000 in
theorem txVers_any (t : TxnL) (s : TxAt) (w : World) (h : TX w s t) (hwn : s.wn ≤ 1000000) :
    Calls Try.prog 53 #[txV t s] w fun e w' => ∃ a c, e = .returned (.slice a (if validT t = true then s.wn else 0) c) ∧ Bl w w' := by
  obtain ⟨R, hR⟩ : ∃ R, validT t = R := ⟨_, rfl⟩
  rw [hR]
  have HR := Lib.hid hR
  obtain ⟨o, num, prev, ds, xs, ws⟩ := t
  obtain ⟨da, dn, dc, aa, an, ac, wa, wn, wc⟩ := s
  obtain ⟨hd, hx, hw, _, _, _⟩ := h
  have hsf := store_float
  have HD := Lib.hid hd
  have HX := Lib.hid hx
  have HW := Lib.hid hw
  have hg := AC.new w _ rfl [.int .i64 o, .int .i64 num, .int .i64 prev, .slice da dn dc, .slice aa an ac, .slice wa wn wc] 29
  have hb := (Bl.refl w).alloc (.cells [Value.int .i64 o, .int .i64 num, .int .i64 prev, .slice da dn dc, .slice aa an ac, .slice wa wn wc].toArray 29)
  unfold txV
  clear hd hx hw hR
  dsimp only at *
  have c0 := hg.cell 0 _ rfl
  have c1 := hg.cell 1 _ rfl
  have c2 := hg.cell 2 _ rfl
  have c3 := hg.cell 3 _ rfl
  have c4 := hg.cell 4 _ rfl
  have c5 := hg.cell 5 _ rfl
  go_enter Try.func53, Try.ntmps53
  go_wp2_with fail
  generalize w.alloc _ = W at *
  have HG := Lib.hid hg
  have HB := Lib.hid hb
  clear hg hb
  refine (txValid_hid o num prev da dn dc ds aa an ac xs wa wn wc ws _ (HD.out.keep HB.out) (HX.out.keep HB.out) (HW.out.keep HB.out) R HR).mono ?_
  rintro e W1 ⟨rfl, hb1⟩
  have HG1 := Lib.hid (HG.out.keep hb1)
  have HB1 := Lib.hid (HB.out.trans hb1)
  clear hb1 HG HB c0 c1 c2 c3 c4 c5
  cases R
  · go_wp2_with fail
    go_ret
    exact ⟨⟨_, _, rfl⟩, HB1.out⟩
  have c5 := HG1.out.cell 5 _ rfl
  go_wp2_with fail
  clear c5
  go_loopw [3, 12] (fun v i wr => ∃ k : Nat, k ≤ wn ∧ i = .int .i64 k ∧ Bl W1 wr ∧ OVN W1.heap.size wr v k) (fun _ i _ => wn - (intOf i).toNat)
  case atStart => exact ⟨0, Nat.zero_le _, rfl, Bl.refl _, ⟨[], World.ownsRow_nil _ _ _ _⟩⟩
  case round =>
    obtain ⟨k, hk, rfl, hbl, hov⟩ := hrel
    have HBL := Lib.hid hbl
    have HOV := Lib.hid hov
    obtain ⟨va, vc, hve⟩ := hov.form
    subst hve
    clear hbl hov
    by_cases hlt : k < wn
    · obtain ⟨ba, oa, rfl, _⟩ := HW.out.cells k hlt
      obtain ⟨c0, c1, c2, c3, c4⟩ := HW.out.get (HB1.out.trans HBL.out) hlt
      generalize nthW ws k = p at *
      obtain ⟨pk, ⟨ak, ax, a2, az⟩⟩ := p
      dsimp only at c0 c1 c2 c3 c4
      have hgp := AC.new wr _ rfl [.string pk, .int .i64 ak, .float .f64 ax, .int .i64 a2, .string az] 56
      have hbp := (Bl.refl wr).alloc (.cells #[.string pk, .int .i64 ak, .float .f64 ax, .int .i64 a2, .string az] 56)
      go_upto_region 7 with fail
      clear c0 c1 c2 c3 c4
      generalize wr.alloc _ = V at *
      generalize wr.heap.size = gp at *
      have HGP := Lib.hid (hgp.keep (Bl.refl V).drew)
      have HBP := Lib.hid (HBL.out.trans (hbp.drew))
      have HOV2 := Lib.hid ((HOV.out.keep hbp).keep (Bl.refl V).drew)
      clear hgp hbp HBL HOV
      refine wp_region_panicsT [0, 1, 2, 3, 4, 6, 7, 8, 9, 10, 11] 5 (Bl V.drew) (fun _ _ h k => h.trans k) (Bl.refl _) [14, 15] (fun c W' => False) ?hR (by kernel_rfl) rfl (by kernel_rfl) (by kernel_rfl) (by kernel_rfl) ?_
      case hR => intro c tt W' h; exact h.elim
      generalize V.drew = Z at *
      haveI : Nonempty (ExtC (Bl Z)) := ⟨⟨Z, Bl.refl _⟩⟩
      have k0 : ∀ q : ExtC (Bl Z), _ := fun q => (HGP.out.keep q.ok).cell 0 _ rfl
      have k1 : ∀ q : ExtC (Bl Z), _ := fun q => (HGP.out.keep q.ok).cell 1 _ rfl
      have k2 : ∀ q : ExtC (Bl Z), _ := fun q => (HGP.out.keep q.ok).cell 2 _ rfl
      have k3 : ∀ q : ExtC (Bl Z), _ := fun q => (HGP.out.keep q.ok).cell 3 _ rfl
      have k4 : ∀ q : ExtC (Bl Z), _ := fun q => (HGP.out.keep q.ok).cell 4 _ rfl
      have l0 : ∀ q : ExtC (Bl Z), _ := fun q => (HG1.out.keep (HBP.out.trans q.ok)).cell 0 _ rfl
      have l1 : ∀ q : ExtC (Bl Z), _ := fun q => (HG1.out.keep (HBP.out.trans q.ok)).cell 1 _ rfl
      have l4 : ∀ q : ExtC (Bl Z), _ := fun q => (HG1.out.keep (HBP.out.trans q.ok)).cell 4 _ rfl
      repeat (refine wpI_step rfl (fun K hK => ?_); go_simp; first | (refine hK _ ?_; clear hK K) | (apply Exists.intro; refine ⟨fun q => ?_, hK _ ?_⟩; (fail); clear hK K))
      refine wpI_nil ?_
      clear k0 k1 k2 k3 k4 l0 l1 l4 this
      refine wpAnyP_one (i := 5) (by kernel_rfl) ?_
      intro Y1 hy1
      go_simp
      refine (vclone_any aa an ac xs Y1 (HX.out.keep (HB1.out.trans (HBP.out.trans hy1)))).mono ?_
      rintro e Y2 ⟨v, rfl, hv, hb2⟩
      obtain ⟨xa, xn, xc, rfl, hI⟩ := hv.si
      have HY2 := Lib.hid (hy1.trans hb2)
      clear hy1 hb2 hv hI
      go_simp
      refine ⟨HY2.out, ?_⟩
      refine wpAnyP_one (i := 12) (by kernel_rfl) ?_
      intro Y3 hy3
      go_simp
      refine ⟨HY2.out.trans hy3, ?_⟩
      refine wpAnyP_one (i := 13) (by kernel_rfl) ?_
      intro Y4 hy4
      go_simp
      have hlit : (Y4.alloc (.cells #[.string pk, .slice xa xn xc, .int .i64 o, .int .i64 num, .int .i64 ak, .float .f64 ax, .int .i64 a2, .string az] 119)).heap[Y4.heap.size]? = some (.cells ([Value.string pk, .slice xa xn xc, .int .i64 o, .int .i64 num, .int .i64 ak, .float .f64 ax, .int .i64 a2, .string az]).toArray 119 (0, 0)) := heap_alloc_new Y4 _
      have hbl := (Bl.refl Y4).alloc (.cells #[.string pk, .slice xa xn xc, .int .i64 o, .int .i64 num, .int .i64 ak, .float .f64 ax, .int .i64 a2, .string az] 119)
      have HS := Lib.hid (SG.lit (size := 8) hlit rfl (by simp [Value.oneCell']))
      have HY5 := Lib.hid (HY2.out.trans (hy3.trans (hy4.trans hbl)))
      clear hlit hbl hy3 hy4 HY2
      generalize Y4.alloc _ = Y5 at *
      generalize Y4.heap.size = gl at *
      refine ⟨HY5.out, ?_⟩
      refine wpAnyP_one (i := 14) (by kernel_rfl) ?_
      intro Y6 hy6
      have HS6 := Lib.hid (HS.out.keep hy6)
      have HZ6 := Lib.hid (HY5.out.trans hy6)
      obtain ⟨cs, hcs⟩ := HOV2.out.keep (HY5.out.trans hy6)
      have HCS := Lib.hid hcs
      clear hy6 hcs HS HY5
      refine pOp_appG rfl rfl _ _ _ rfl el_ver W1.heap.size (.slice va k vc) k cs rfl HCS.out (HBP.out.trans HZ6.out).size (some ⟨gl, 0, none⟩) 1 1 _ rfl HS6.out (by unfold maxLen; omega) (by omega) ?_
      intro v' Y7 ho hgr
      have HO : Hid (OVN W1.heap.size Y7 v' (k + 1)) := Lib.hid ⟨_, ho⟩
      have HBY : Hid (Bl W1 Y7) := Lib.hid (Bl.ownRow (HBP.out.trans HZ6.out) HCS.out (Nat.le_refl _) hgr)
      obtain ⟨va', vc', rfl⟩ := HO.out.form
      clear ho hgr HS6 HZ6 HCS HBP
      simp only [Act.put, List.setIfInBounds_toArray]
      refine ⟨fun h => absurd h (by decide), ?_⟩
      refine wpAnyP_one (i := 15) (by kernel_rfl) ?_
      intro Y8 hy8
      go_simp
      refine wpAnyP_done (by kernel_rfl) ?_
      intro Y9 hy9
      have HBN := Lib.hid (HBY.out.trans (hy8.trans hy9))
      have HON := Lib.hid (HO.out.keep (hy8.trans hy9))
      go_wp2_with fail
      go_roundw
      case rel => exact ⟨k + 1, by omega, by go_num, HBN.out, HON.out⟩
      case measure => simp [intOf]; omega
    · obtain rfl : k = wn := by omega
      go_wp2_with fail
      go_ret
      exact ⟨⟨_, _, rfl⟩, HB1.out.trans HBL.out⟩
end Go.Proofs.Ytaokennbpgdngaa
end

/- writes that are read, and folded to one a key: plain definitions and laws. By an AI agent. -/
section
set_option linter.unusedVariables false
set_option linter.unusedSimpArgs false
namespace Go.Proofs.Ytaokennbpgdngaa
open Go.RowKit

def readW (key : ByteArray) (v : ValL) (ws : List (ByteArray × ActL)) : ValL := ws.foldl (fun v p => if p.1 = key then afterL key v p.2 else v) v
theorem readW_snoc (key : ByteArray) (v : ValL) (ws : List (ByteArray × ActL)) (p : ByteArray × ActL) : readW key v (ws ++ [p]) = if p.1 = key then afterL key (readW key v ws) p.2 else readW key v ws := by
  unfold readW
  rw [List.foldl_append]; rfl
theorem readW_ok {key : ByteArray} {v : ValL} (ov : v.Ok) : ∀ ws : List (ByteArray × ActL), (∀ p ∈ ws, p.2.Ok) → (readW key v ws).Ok := by
  intro ws
  induction ws generalizing v with
  | nil => intro _; exact ov
  | cons p ws ih =>
    intro h
    unfold readW
    rw [List.foldl_cons]
    refine ih ?_ (fun q hq => h q (by simp [hq]))
    split
    · exact after_ok ov (h p (by simp))
    · exact ov
/-- one more write -/
def addW (out : List (ByteArray × ActL)) (p : ByteArray × ActL) : List (ByteArray × ActL) :=
  if out.any (fun q => decide (q.1 = p.1)) then out.map (fun q => if q.1 = p.1 then (q.1, bothL p.1 q.2 p.2) else q) else out ++ [p]
theorem any_key {out : List (ByteArray × ActL)} {k : ByteArray} : out.any (fun q => decide (q.1 = k)) = true ↔ k ∈ out.map (·.1) := by
  rw [List.any_eq_true, List.mem_map]
  constructor
  · rintro ⟨q, h1, h2⟩; exact ⟨q, h1, by simpa using h2⟩
  · rintro ⟨q, h1, h2⟩; exact ⟨q, h1, by simpa using h2⟩
theorem addW_old {out : List (ByteArray × ActL)} {p : ByteArray × ActL} (h : p.1 ∈ out.map (·.1)) : addW out p = out.map (fun q => if q.1 = p.1 then (q.1, bothL p.1 q.2 p.2) else q) := by
  unfold addW
  rw [if_pos (any_key.2 h)]
theorem addW_new {out : List (ByteArray × ActL)} {p : ByteArray × ActL} (h : p.1 ∉ out.map (·.1)) : addW out p = out ++ [p] := by
  unfold addW
  rw [if_neg (fun q => h (any_key.1 q))]
def foldW (ws : List (ByteArray × ActL)) : List (ByteArray × ActL) := ws.foldl addW []
theorem foldW_snoc (ws : List (ByteArray × ActL)) (p : ByteArray × ActL) : foldW (ws ++ [p]) = addW (foldW ws) p := by unfold foldW; rw [List.foldl_append]; rfl
def lookW (out : List (ByteArray × ActL)) (key : ByteArray) : Option ActL := (out.find? (fun q => decide (q.1 = key))).map (·.2)
theorem addW_keys_old {out : List (ByteArray × ActL)} {p : ByteArray × ActL} (h : p.1 ∈ out.map (·.1)) : (addW out p).map (·.1) = out.map (·.1) := by
  rw [addW_old h, List.map_map]
  refine List.map_congr_left (fun q _ => ?_)
  show (if q.1 = p.1 then (q.1, bothL p.1 q.2 p.2) else q).1 = q.1
  split <;> rfl
theorem addW_nodup {out : List (ByteArray × ActL)} (h : (out.map (·.1)).Nodup) (p : ByteArray × ActL) : ((addW out p).map (·.1)).Nodup := by
  rcases Classical.em (p.1 ∈ out.map (·.1)) with q | hn
  · rw [addW_keys_old q]; exact h
  · rw [addW_new hn, List.map_append]
    exact List.nodup_append.2 ⟨h, List.nodup_cons.2 ⟨by simp, List.nodup_nil⟩, fun a ha b hb => by simp at hb; subst hb; exact fun e => hn (e ▸ ha)⟩
theorem foldl_nodup : ∀ (ws out : List (ByteArray × ActL)), (out.map (·.1)).Nodup → ((ws.foldl addW out).map (·.1)).Nodup
  | [], out, h => h
  | p :: ws, out, h => by
    rw [List.foldl_cons]
    exact foldl_nodup ws _ (addW_nodup h p)
theorem foldW_nodup (ws : List (ByteArray × ActL)) : ((foldW ws).map (·.1)).Nodup := foldl_nodup ws [] List.nodup_nil
theorem lookW_none {out : List (ByteArray × ActL)} {key : ByteArray} (h : key ∉ out.map (·.1)) : lookW out key = none := by
  unfold lookW
  rw [List.find?_eq_none.2]
  · rfl
  · intro q hq
    simp only [decide_eq_true_eq]
    exact fun e => h (List.mem_map.2 ⟨q, hq, e⟩)
theorem lookW_append (out : List (ByteArray × ActL)) (p : ByteArray × ActL) (key : ByteArray) : lookW (out ++ [p]) key = (lookW out key).or (if p.1 = key then some p.2 else none) := by
  unfold lookW
  rw [List.find?_append]
  cases out.find? (fun q => decide (q.1 = key)) with
  | some q => rfl
  | none =>
    simp only [Option.none_or, Option.map_none]
    by_cases e : p.1 = key
    · rw [if_pos e, List.find?_cons_of_pos (by simpa using e)]; rfl
    · rw [if_neg e, List.find?_cons_of_neg (by simpa using e)]; rfl
theorem lookW_map (f : ByteArray × ActL → ActL) (k key : ByteArray) : ∀ out : List (ByteArray × ActL),
    lookW (out.map (fun q => if q.1 = k then (q.1, f q) else q)) key = if key = k then (out.find? (fun q => decide (q.1 = key))).map f else lookW out key
  | [] => by unfold lookW; split <;> rfl
  | q :: out => by
    have ih := lookW_map f k key out
    unfold lookW at ih ⊢
    rw [List.map_cons]
    by_cases e : q.1 = key
    · rw [List.find?_cons_of_pos (by simp only [decide_eq_true_eq]; split <;> exact e), List.find?_cons_of_pos (by simpa using e)]
      by_cases e2 : key = k
      · rw [if_pos e2, if_pos (e.trans e2)]; rfl
      · rw [if_neg e2, if_neg (fun h => e2 (e.symm.trans h))]
    · rw [List.find?_cons_of_neg (by simp only [decide_eq_true_eq]; split <;> exact e), List.find?_cons_of_neg (by simpa using e)]
      exact ih
theorem lookW_add {out : List (ByteArray × ActL)} (p : ByteArray × ActL) (key : ByteArray) :
    lookW (addW out p) key = if p.1 = key then some (match lookW out key with | none => p.2 | some a => bothL key a p.2) else lookW out key := by
  rcases Classical.em (p.1 ∈ out.map (·.1)) with h | h
  · rw [addW_old h, lookW_map (fun q => bothL p.1 q.2 p.2)]
    by_cases e : p.1 = key
    · subst e
      rw [if_pos rfl, if_pos rfl]
      unfold lookW
      cases hf : out.find? (fun q => decide (q.1 = p.1)) with
      | some q => rfl
      | none =>
        obtain ⟨q, hq, e⟩ := List.mem_map.1 h
        have := List.find?_eq_none.1 hf q hq
        simp [e] at this
    · rw [if_neg (fun h => e h.symm), if_neg e]
  · rw [addW_new h, lookW_append]
    by_cases e : p.1 = key
    · subst e
      rw [if_pos rfl, if_pos rfl, lookW_none h]; rfl
    · rw [if_neg e, if_neg e]; simp
/-- all acts of a key, put together -/
def chainW (key : ByteArray) (ws : List (ByteArray × ActL)) : Option ActL := ws.foldl (fun c p => if p.1 = key then some (match c with | none => p.2 | some a => bothL key a p.2) else c) none
theorem look_foldl (key : ByteArray) : ∀ (ws out : List (ByteArray × ActL)), lookW (ws.foldl addW out) key = ws.foldl (fun c p => if p.1 = key then some (match c with | none => p.2 | some a => bothL key a p.2) else c) (lookW out key)
  | [], out => rfl
  | p :: ws, out => by
    rw [List.foldl_cons, List.foldl_cons, look_foldl key ws, lookW_add]
theorem look_foldW (key : ByteArray) (ws : List (ByteArray × ActL)) : lookW (foldW ws) key = chainW key ws := look_foldl key ws []
theorem read_other {key : ByteArray} : ∀ (ws : List (ByteArray × ActL)) (v : ValL), key ∉ ws.map (·.1) → readW key v ws = v
  | [], v, _ => rfl
  | p :: ws, v, h => by
    unfold readW
    rw [List.foldl_cons, if_neg (fun e => h (by simp [e]))]
    exact read_other ws v (fun q => h (by simp [q]))
/-- what a list with each key once says of one -/
theorem read_look {key : ByteArray} : ∀ (ws : List (ByteArray × ActL)) (v : ValL), (ws.map (·.1)).Nodup → readW key v ws = match lookW ws key with | none => v | some a => afterL key v a
  | [], v, _ => rfl
  | p :: ws, v, h => by
    rw [List.map_cons, List.nodup_cons] at h
    unfold readW lookW
    rw [List.foldl_cons]
    by_cases e : p.1 = key
    · rw [if_pos e, List.find?_cons_of_pos (by simpa using e)]
      exact read_other ws _ (e ▸ h.1)
    · rw [if_neg e, List.find?_cons_of_neg (by simpa using e)]
      exact read_look ws v h.2
theorem after_both {key : ByteArray} {a b : ActL} (v : ValL) (oa : a.Ok) (ob : b.Ok) (ha : fitsB key a = true) (hb : fitsB key b = true) :
    sameV (afterL key (afterL key v a) b) (afterL key v (bothL key a b)) = true ∧ fitsB key (bothL key a b) = true := by
  have hi := (fits_key ha).1
  cases hr : regB key
  · rcases key_head hi with h | h | h | h | h
    · simp [regB, h] at hr
    · simp [regB, h] at hr
    · rw [fits_add oa h ha, fits_add ob h hb]
      simp only [after_add _ hi h, both_add hi h, fits_add' hi h, if_true]
      refine ⟨?_, trivial⟩
      cases v.there <;> (refine sameV_of rfl rfl ?_ rfl; first | (simp; done) | (simp; unfold wrap64; omega))
    · rw [fits_max h ha, fits_max h hb]
      simp only [after_max _ hi h, both_max hi h, fits_max' hi h, if_true]
      refine ⟨?_, trivial⟩
      cases v.there <;> (refine sameV_of rfl ?_ rfl rfl; first | (simp [rmax_key']; done) | (simp [rmax_key']; omega))
    · rw [fits_min h ha, fits_min h hb]
      simp only [after_min _ hi h, both_min hi h, fits_min' hi h, if_true]
      refine ⟨?_, trivial⟩
      cases v.there <;> (refine sameV_of rfl ?_ rfl rfl; first | (simp [rmin_key]; done) | (simp [rmin_key]; omega))
  · rw [both_reg hr, after_reg _ hr hb, after_reg _ hr hb]
    exact ⟨sameV_refl _, hb⟩
/-- values that are the same go on so -/
theorem after_same {key : ByteArray} {v u : ValL} {a : ActL} (oa : a.Ok) (ha : fitsB key a = true) (h : sameV v u = true) : sameV (afterL key v a) (afterL key u a) = true := by
  obtain ⟨h1, h2, h3, h4⟩ := sameV_parts h
  have hi := (fits_key ha).1
  cases hr : regB key
  · rcases key_head hi with k | k | k | k | k
    · simp [regB, k] at hr
    · simp [regB, k] at hr
    · rw [fits_add oa k ha, after_add _ hi k, after_add _ hi k, h1, h3]
      exact sameV_refl _
    · rw [fits_max k ha, after_max _ hi k, after_max _ hi k, h1]
      refine sameV_of rfl ?_ rfl rfl
      cases u.there <;> simp [rmax_key', h2]
    · rw [fits_min k ha, after_min _ hi k, after_min _ hi k, h1]
      refine sameV_of rfl ?_ rfl rfl
      cases u.there <;> simp [rmin_key, h2]
  · rw [after_reg _ hr ha, after_reg _ hr ha]
    exact sameV_refl _
theorem read_chain {key : ByteArray} : ∀ (ws : List (ByteArray × ActL)) (v u : ValL) (c : Option ActL), (∀ p ∈ ws, p.2.Ok ∧ fitsB p.1 p.2 = true) → (∀ a, c = some a → a.Ok ∧ fitsB key a = true) →
    sameV v (match c with | none => u | some a => afterL key u a) = true →
    sameV (readW key v ws) (match ws.foldl (fun c p => if p.1 = key then some (match c with | none => p.2 | some a => bothL key a p.2) else c) c with | none => u | some a => afterL key u a) = true
  | [], v, u, c, _, _, h => h
  | p :: ws, v, u, c, hw, hc, h => by
    unfold readW
    rw [List.foldl_cons, List.foldl_cons]
    have hp := hw p (by simp)
    refine read_chain ws _ u _ (fun q hq => hw q (by simp [hq])) ?_ ?_
    · intro a ha
      by_cases e : p.1 = key
      · rw [if_pos e] at ha
        subst e
        cases c with
        | none => simp only [Option.some.injEq] at ha; subst ha; exact hp
        | some b =>
          simp only [Option.some.injEq] at ha
          subst ha
          exact ⟨both_ok (hc b rfl).1 hp.1, (after_both noVal (hc b rfl).1 hp.1 (hc b rfl).2 hp.2).2⟩
      · rw [if_neg e] at ha
        exact hc a ha
    · by_cases e : p.1 = key
      · rw [if_pos e, if_pos e]
        subst e
        cases c with
        | none => exact after_same hp.1 hp.2 h
        | some b => exact sameV_trans (after_same hp.1 hp.2 h) (after_both u (hc b rfl).1 hp.1 (hc b rfl).2 hp.2).1
      · rw [if_neg e, if_neg e]
        exact h
/-- P2105: folded writes say what all say -/
theorem fold_reads (key : ByteArray) (v : ValL) {ws : List (ByteArray × ActL)} (hw : ∀ p ∈ ws, p.2.Ok ∧ fitsB p.1 p.2 = true) : sameV (readW key v ws) (readW key v (foldW ws)) = true := by
  rw [read_look (foldW ws) v (foldW_nodup ws), look_foldW]
  exact read_chain ws v v none hw (fun a h => by cases h) (sameV_refl v)
theorem foldl_again : ∀ (ws out : List (ByteArray × ActL)), ((out ++ ws).map (·.1)).Nodup → ws.foldl addW out = out ++ ws
  | [], out, _ => by simp
  | p :: ws, out, h => by
    have hn : p.1 ∉ out.map (·.1) := by
      rw [List.map_append, List.map_cons] at h
      have := (List.nodup_append.1 h).2.2
      exact fun q => this _ q _ (by simp) rfl
    rw [List.foldl_cons]
    rw [addW_new hn, foldl_again ws (out ++ [p]) (by simpa using h)]
    simp
theorem fold_twice (ws : List (ByteArray × ActL)) : foldW (foldW ws) = foldW ws := by
  have := foldl_again (foldW ws) [] (by simpa using foldW_nodup ws)
  simpa [foldW] using this
theorem addW_mem {out : List (ByteArray × ActL)} {p q : ByteArray × ActL} (h : q ∈ addW out p) (P : ByteArray × ActL → Prop) (ho : ∀ x ∈ out, P x) (hp : P p) (hb : ∀ x ∈ out, P x → x.1 = p.1 → P (x.1, bothL p.1 x.2 p.2)) : P q := by
  rcases Classical.em (p.1 ∈ out.map (·.1)) with hk | hk
  · rw [addW_old hk] at h
    obtain ⟨x, hx, rfl⟩ := List.mem_map.1 h
    split
    · rename_i e; exact hb x hx (ho x hx) e
    · exact ho x hx
  · rw [addW_new hk] at h
    rcases List.mem_append.1 h with h | h
    · exact ho q h
    · rw [List.mem_singleton] at h; subst h; exact hp
theorem foldl_okW : ∀ (ws out : List (ByteArray × ActL)), (∀ p ∈ ws, WrOk p) → (∀ p ∈ out, WrOk p) → ∀ p ∈ ws.foldl addW out, WrOk p
  | [], out, _, h, p, hp => h p hp
  | p :: ws, out, hw, ho, q, hq => by
    rw [List.foldl_cons] at hq
    refine foldl_okW ws (addW out p) (fun x hx => hw x (by simp [hx])) (fun x hx => ?_) q hq
    exact addW_mem hx WrOk ho (hw p (by simp)) (fun y hy h e => ⟨h.1, both_ok h.2 (hw p (by simp)).2⟩)
theorem foldW_okW {ws : List (ByteArray × ActL)} (h : ∀ p ∈ ws, WrOk p) : ∀ p ∈ foldW ws, WrOk p := foldl_okW ws [] h (fun p hp => by simp at hp)
theorem addW_len (out : List (ByteArray × ActL)) (p : ByteArray × ActL) : (addW out p).length ≤ out.length + 1 := by
  rcases Classical.em (p.1 ∈ out.map (·.1)) with hk | hk
  · rw [addW_old hk]; simp
  · rw [addW_new hk]; simp
theorem foldl_len : ∀ (ws out : List (ByteArray × ActL)), (ws.foldl addW out).length ≤ out.length + ws.length
  | [], out => by simp
  | p :: ws, out => by
    rw [List.foldl_cons]
    have h1 := foldl_len ws (addW out p)
    have h2 := addW_len out p
    rw [List.length_cons]; omega
theorem foldW_len (ws : List (ByteArray × ActL)) : (foldW ws).length ≤ ws.length := by
  have := foldl_len ws []
  simpa [foldW] using this
theorem sameWs_refl (ws : List (ByteArray × ActL)) : sameWs ws ws = true := by
  simp only [sameWs, Bool.and_eq_true, decide_eq_true_eq, List.all_eq_true]
  exact ⟨trivial, fun i _ => ⟨trivial, by simp [sameA]⟩⟩
theorem nodup_keys {ws : List (ByteArray × ActL)} (h : (ws.map (·.1)).Nodup) {i k : Nat} (hi : i < ws.length) (hk : k < i) : (nthW ws k).1 ≠ (nthW ws i).1 := by
  have := List.pairwise_iff_getElem.1 h k i (by simp; omega) (by simpa using hi) hk
  rw [nthW_eq hi, nthW_eq (by omega)]
  simpa using this
end Go.Proofs.Ytaokennbpgdngaa
end
