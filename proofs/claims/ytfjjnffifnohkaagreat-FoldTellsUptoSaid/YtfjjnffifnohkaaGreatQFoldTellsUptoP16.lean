import Derived.Test.YtfjjnffifnohkaaGreatQFoldTellsUptoP15
import Derived.Deep.RegionHeld
import Derived.Test.YtfjjnffifnohkaaGreatQFoldTellsUptoP11

/- bedrockbook.LentVersions and StaysVersions. By an AI agent. -/
section
namespace Go.Proofs.YtfjjnffifnohkaaGreat
open Go.RowKit
attribute [local go_sem] eOp eOper eUpon

theorem el_ver : EL 22 59 8 96 := el_of (by kernel_rfl) (by kernel_rfl) (by decide)
def markS : ByteArray := ⟨#[109, 97, 114, 107]⟩
/-- versions of which each vector is marked, and behind whose end a mark stands -/
structure MVS (w : World) (g n cap : Nat) (vs : List VerL) : Prop where
  va : VA w (some ⟨g, 0, none⟩) n vs
  vec : ∀ j, j < n → ∃ h m ca, w.cell? ⟨g, j * 8 + 1, none⟩ = some (.slice (some ⟨h, 0, none⟩) m ca) ∧ MV w h m ca (nthR vs j).at_
  mark : w.cell? ⟨g, n * 8, none⟩ = some (.string markS)
  room : n + 1 ≤ cap
theorem MVS.keep {w w' : World} {g n cap : Nat} {vs : List VerL} (h : MVS w g n cap vs) (hb : Bl w w') : MVS w' g n cap vs :=
  ⟨h.va.keep hb, fun j hj => by obtain ⟨h, m, ca, e, hm⟩ := h.vec j hj; exact ⟨h, m, ca, hb.cell e, hm.keep hb⟩, hb.cell h.mark, h.room⟩
set_option maxHeartbeats 3200000 in
set_option maxRecDepth 100000 in
theorem staysVers_yes (g n cap : Nat) (b : Option Addr) (cb : Nat) (vs : List VerL) (w : World) (hx : MVS w g n cap vs) (hy : VA w b n vs) :
    Calls Tryz.prog 16 #[.slice (some ⟨g, 0, none⟩) n cap, .slice b n cb] w fun e w' => e = .returned (.bool true) ∧ Bl w w' := by
  have hcap := hy.cap
  have hroom := hx.room
  go_enter Tryz.func16, Tryz.ntmps16
  go_wp2_with fail
  go_loopw [5] (fun i wr => ∃ k : Nat, k ≤ n ∧ i = .int .i64 k ∧ Bl w wr) (fun i _ => n - (intOf i).toNat)
  case atStart => exact ⟨0, Nat.zero_le _, rfl, Bl.refl _⟩
  case round =>
    obtain ⟨k, hk, rfl, hb⟩ := hrel
    by_cases hlt : k < n
    · obtain ⟨by', oy, rfl, hcy⟩ := hy.cells k hlt
      have E2 := (hcy k hlt).keep hb
      obtain ⟨h, m, ca, e1, hM⟩ := (hx.keep hb).vec k hlt
      clear hcy
      generalize nthR vs k = V at *
      go_wp2_with fail
      refine wp_region_allS (by kernel_rfl) (by kernel_rfl) ?_
      have hb1 := hb.drew
      have E2 := E2.keep ((Bl.refl wr).drew)
      have hM := hM.keep ((Bl.refl wr).drew)
      have e1 := ((Bl.refl wr).drew).cell e1
      generalize wr.drew = W at *
      obtain ⟨ua, un, uc, u1', uI⟩ := E2.at_
      have p1 : ∀ m' : Ext W, m'.at.cell? ⟨g, k * 8 + 1, none⟩ = some (.slice (some ⟨h, 0, none⟩) m ca) := fun m' => m'.bl.cell e1
      have q1 : ∀ m' : Ext W, m'.at.cell? ⟨by', oy + k * 8 + 1, none⟩ = some (.slice ua un uc) := fun m' => m'.bl.cell u1'
      clear E2 e1 u1'
      have hO : ∀ m' : Ext W, _ := fun m' => staysVec_yes h m ca ua un uc V.at_ m'.at (hM.keep m'.bl) (uI.keep m'.bl)
      have HO := Lib.hid hO
      clear hO hM uI
      repeat (refine wpS_step (fun K hK => ?_); go_simp; first | (refine hK _ ?_; clear hK K) | (apply Exists.intro; refine ⟨fun m => ?_, hK _ ?_⟩; (exact HO.out m); clear hK K))
      clear p1 q1
      refine wpS_nil ?_
      intro m'
      have hb2 := hb1.trans m'.bl
      generalize ExtC.at m' = W9 at *
      go_wp2_with fail
      go_roundw
      case rel => exact ⟨k + 1, by omega, by go_num, hb2⟩
      case measure => simp [intOf]; omega
    · go_wp2_with fail
      refine (sameVers_yes (some ⟨g, 0, none⟩) b n cap cb vs _ (hx.va.keep hb) (hy.keep hb)).mono ?_
      rintro e w1 ⟨rfl, hb1⟩
      have hb2 := hb.trans hb1
      have hm := (hx.keep hb2).mark
      go_wp2_with fail
      go_ret
      exact ⟨ret_bool (by rw [ByteArray.toList_eq]; rfl), hb2⟩

theorem va_cl {w : World} {a : Option Addr} {n : Nat} {vs : List VerL} (h : VA w a n vs) : ∃ cs, SG w 8 a n cs ∧ CL w cs vs := by
  by_cases hn : 0 < n
  · obtain ⟨b, off, rfl, _⟩ := h.cells 0 hn
    obtain ⟨_, cs, h1, h2⟩ := h.part 0 n (by omega)
    have e : (vs.drop 0).take n = vs := by rw [List.drop_zero]; exact List.take_of_length_le (by rw [h.len]; exact Nat.le_refl _)
    rw [e] at h2
    rw [Nat.zero_mul, Nat.add_zero] at h1
    refine ⟨cs, ⟨h1.len, fun ad e j u hu => ?_, (fun e => by cases e), h1.one⟩, h2⟩
    obtain rfl := Option.some.inj e
    rw [add_none]
    exact h1.at_ b off rfl j u hu
  · obtain rfl : n = 0 := by omega
    obtain rfl : vs = [] := List.eq_nil_of_length_eq_zero h.len
    exact ⟨[], ⟨rfl, fun _ _ j u hu => by simp at hu, fun _ => rfl, by simp⟩, .nil⟩
/-- the cells of the j-th version but its vector -/
structure V7 (L : List Value) (o : Nat) (v : VerL) : Prop where
  c0 : L[o]? = some (.string v.key)
  c2 : L[o + 2]? = some (.int .i64 v.origin)
  c3 : L[o + 3]? = some (.int .i64 v.tx)
  c4 : L[o + 4]? = some (.int .i64 v.act.k)
  c5 : L[o + 5]? = some (.float .f64 v.act.x)
  c6 : L[o + 6]? = some (.int .i64 v.act.n)
  c7 : L[o + 7]? = some (.string v.act.s)
  ok : v.act.Ok
theorem V7.set {L : List Value} {o : Nat} {v : VerL} (h : V7 L o v) (j : Nat) (u : Value) (ho : j = o + 1 ∨ j < o ∨ o + 7 < j) : V7 (L.set j u) o v := by
  have e : ∀ r, r < 8 → r ≠ 1 → (L.set j u)[o + r]? = L[o + r]? := fun r h1 h2 => List.getElem?_set_ne (by omega)
  exact ⟨(e 0 (by decide) (by decide)).trans h.c0, (e 2 (by decide) (by decide)).trans h.c2, (e 3 (by decide) (by decide)).trans h.c3, (e 4 (by decide) (by decide)).trans h.c4, (e 5 (by decide) (by decide)).trans h.c5, (e 6 (by decide) (by decide)).trans h.c6, (e 7 (by decide) (by decide)).trans h.c7, h.ok⟩
theorem MV.other {w : World} {h m ca g j : Nat} {xs : List Int} {u : Value} (k : MV w h m ca xs) (hn : h ≠ g) : MV (w.setCell ⟨g, j, none⟩ u) h m ca xs := by
  have hc : ∀ i v, w.cell? ⟨h, i, none⟩ = some v → (w.setCell ⟨g, j, none⟩ u).cell? ⟨h, i, none⟩ = some v := fun i v e => by
    rw [World.cell?_setCell_far _ _ _ _ (show g ≠ h from fun e => hn e.symm)]; exact e
  refine ⟨⟨k.ia.len, k.ia.cap, fun i hi => ?_, k.ia.wf⟩, hc _ _ k.mark, k.room⟩
  obtain ⟨b, off, e, hcell⟩ := k.ia.cells i hi
  refine ⟨b, off, e, fun i' hi' => ?_⟩
  simp only [Option.some.injEq, Addr.mk.injEq] at e
  obtain ⟨rfl, rfl, _⟩ := e
  exact hc _ _ (hcell i' hi')
/-- the loop's relation: the first k vectors are marked copies -/
structure LVs (w wr : World) (g cap n : Nat) (vs : List VerL) (k : Nat) : Prop where
  bl : Bl w wr
  new : w.heap.size ≤ g
  row : ∃ L, AC wr g L ∧ L.length = cap * 8 ∧ (∀ j, j < n → V7 L (j * 8) (nthR vs j)) ∧ (∀ j, j < k → ∃ h m ca, L[j * 8 + 1]? = some (.slice (some ⟨h, 0, none⟩) m ca) ∧ h ≠ g ∧ MV wr h m ca (nthR vs j).at_) ∧ L[n * 8]? = some (.string markS)
  room : n + 1 ≤ cap
theorem LVs.keep {w wr wr' : World} {g cap n : Nat} {vs : List VerL} {k : Nat} (h : LVs w wr g cap n vs k) (hb : Bl wr wr') : LVs w wr' g cap n vs k := by
  obtain ⟨L, h1, h2, h3, h4, h5⟩ := h.row
  exact ⟨h.bl.trans hb, h.new, ⟨L, h1.keep hb, h2, h3, fun j hj => by obtain ⟨a, m, ca, e, hn, hm⟩ := h4 j hj; exact ⟨a, m, ca, e, hn, hm.keep hb⟩, h5⟩, h.room⟩
theorem LVs.store {w wr : World} {g cap n : Nat} {vs : List VerL} {k h m ca : Nat} (H : LVs w wr g cap n vs k) (hk : k < n) (hn : h ≠ g) (hM : MV wr h m ca (nthR vs k).at_) :
    LVs w (wr.setCell ⟨g, k * 8 + 1, none⟩ (.slice (some ⟨h, 0, none⟩) m ca)) g cap n vs (k + 1) := by
  obtain ⟨L, h1, h2, h3, h4, h5⟩ := H.row
  refine ⟨Below.setCell (p := ⟨g, k * 8 + 1, none⟩) H.bl H.new _, H.new, ⟨_, h1.put1 _ _, by simp [h2], fun j hj => (h3 j hj).set _ _ (by omega), fun j hj => ?_, ?_⟩, H.room⟩
  · by_cases e : j = k
    · subst e
      have := H.room
      refine ⟨h, m, ca, ?_, hn, hM.other hn⟩
      rw [List.getElem?_set_self (by rw [h2]; omega)]
    · obtain ⟨h', m', ca', e1, hn', hM'⟩ := h4 j (by omega)
      exact ⟨h', m', ca', by rw [List.getElem?_set_ne (by omega)]; exact e1, hn', hM'.other hn'⟩
  · rw [List.getElem?_set_ne (by omega)]; exact h5
theorem LVs.done {w wr : World} {g cap n : Nat} {vs : List VerL} (H : LVs w wr g cap n vs n) (hl : vs.length = n) (hn : n ≤ 140737488351232) : MVS wr g n cap vs := by
  obtain ⟨L, h1, h2, h3, h4, h5⟩ := H.row
  refine ⟨⟨hl, hn, fun j0 _ => ⟨g, 0, rfl, fun j hj => ?_⟩⟩, fun j hj => ?_, h1.cell _ _ h5, H.room⟩
  · obtain ⟨h, m, ca, e1, _, hM⟩ := h4 j hj
    have v := h3 j hj
    rw [Nat.zero_add]
    exact ⟨h1.cell _ _ v.c0, ⟨_, _, _, h1.cell _ _ e1, hM.ia⟩, h1.cell _ _ v.c2, h1.cell _ _ v.c3, h1.cell _ _ v.c4, h1.cell _ _ v.c5, h1.cell _ _ v.c6, h1.cell _ _ v.c7, v.ok⟩
  · obtain ⟨h, m, ca, e1, _, hM⟩ := h4 j hj
    exact ⟨h, m, ca, h1.cell _ _ e1, hM⟩
/-- the row ahead of the loop -/
theorem LVs.start {w wr : World} {v : Value} {n : Nat} {vs : List VerL} {cs : List Value} (hb : Bl w wr) (ho : wr.ownsRow w.heap.size 59 8 v (n + 1) (cs ++ [.string markS, .slice none 0 0, .int .i64 0, .int .i64 0, .int .i64 0, .float .f64 0, .int .i64 0, .string ⟨#[]⟩])) (hc : CL w cs vs) (hl : vs.length = n) :
    ∃ g cap, v = .slice (some ⟨g, 0, none⟩) (n + 1) cap ∧ n + 1 ≤ cap ∧ cap ≤ maxLen ∧ LVs w wr g cap n vs 0 := by
  obtain ⟨h1, ⟨_, h2⟩ | ⟨g, cap, cur, rfl, hB, hg, hc', hm, hs, ht⟩⟩ := ho
  · omega
  · have hx : ∀ j, j < (n + 1) * 8 → cur.toList[j]? = (cs ++ [.string markS, .slice none 0 0, .int .i64 0, .int .i64 0, .int .i64 0, .float .f64 0, .int .i64 0, .string ⟨#[]⟩])[j]? := fun j hj => by
      rw [← ht, List.getElem?_take_of_lt hj]
    have hcl := hc.len
    refine ⟨g, cap, rfl, hc', hm, hb, hB, ⟨cur.toList, ⟨59, by simpa using hg⟩, by simpa using hs, fun j hj => ?_, fun j hj => by omega, ?_⟩, hc'⟩
    · obtain ⟨c, ⟨a, m, ca, rfl, _, ok⟩, h3⟩ := hc.at_ j (by omega)
      have h4 : ∀ r, r < 8 → cur.toList[j * 8 + r]? = cs[j * 8 + r]? := fun r hr => by
        rw [hx _ (by omega), List.getElem?_append_left (by rw [hcl]; omega)]
      have h5 := fun r hr => (h4 r hr).trans (h3 r hr)
      exact ⟨h5 0 (by decide), h5 2 (by decide), h5 3 (by decide), h5 4 (by decide), h5 5 (by decide), h5 6 (by decide), h5 7 (by decide), ok⟩
    · rw [hx _ (by omega), List.getElem?_append_right (by rw [hcl]; omega), hcl, hl, Nat.sub_self]
      rfl
set_option maxHeartbeats 3200000 in
set_option maxRecDepth 100000 in
theorem lentVers_any (a : Option Addr) (n ca : Nat) (vs : List VerL) (w : World) (hx : VA w a n vs) (hn : n ≤ 1000) (hz : ∀ j, j < n → (nthR vs j).at_.length ≤ 1000) :
    Calls Tryz.prog 6 #[.slice a n ca] w fun e w' => ∃ g cap, e = .returned (.slice (some ⟨g, 0, none⟩) n cap) ∧ w.heap.size ≤ g ∧ MVS w' g n cap vs ∧ Bl w w' := by
  have hsf := store_float
  have HL := Lib.hid hx.len
  obtain ⟨cs, hs, hc⟩ := va_cl hx
  have HS := Lib.hid hs
  have HC := Lib.hid hc
  have HX := Lib.hid hx
  have HZ := Lib.hid hz
  clear hs hc hx hz
  go_enter Tryz.func6, Tryz.ntmps6
  go_wp2_with (at_builtin; refine wpList_appG rfl _ _ _ rfl el_ver w.heap.size _ 0 [] rfl (World.ownsRow_nil _ _ _ _) (Nat.le_refl _) _ _ _ _ rfl HS.out ?c1 ?c2 ?_)
  case c1 => unfold maxLen; omega
  case c2 => omega
  intro v1 w1 ho1 hg1
  have hb1 : Bl w w1 := (Bl.refl w).ownRow (World.ownsRow_nil w w.heap.size 59 8) (Nat.le_refl _) hg1
  have hb2 := hb1.alloc (.cells #[.string markS, .slice none 0 0, .int .i64 0, .int .i64 0, .int .i64 0, .float .f64 0, .int .i64 0, .string ⟨#[]⟩] 59)
  go_wp2_with (at_builtin; refine wpList_appG rfl _ _ _ rfl el_ver w.heap.size v1 n _ rfl (ho1.alloc _) ?c1 _ 1 1 [.string markS, .slice none 0 0, .int .i64 0, .int .i64 0, .int .i64 0, .float .f64 0, .int .i64 0, .string ⟨#[]⟩] rfl (SG.lit (heap_alloc_new _ _) rfl (by simp [Value.oneCell'])) ?c2 ?c3 ?_)
  case c1 => simp; have := hb1.size; omega
  case c2 => unfold maxLen; omega
  case c3 => omega
  intro v2 w2 ho2 hg2
  have hb3 : Bl w w2 := hb2.ownRow (ho1.alloc _) (Nat.le_refl _) hg2
  obtain ⟨g, cap, rfl, hc, hm, G0⟩ := LVs.start hb3 ho2 HC.out HL.out
  clear ho1 ho2 hg1 hg2 hb1 hb2 hb3
  have hc' : n ≤ cap := by omega
  have hm' : cap ≤ 9223372036854775807 := hm
  clear hm
  go_wp2_with fail
  go_loopw [4] (fun i wr => ∃ k : Nat, k ≤ n ∧ i = .int .i64 k ∧ LVs w wr g cap n vs k) (fun i _ => n - (intOf i).toNat)
  case atStart => exact ⟨0, Nat.zero_le _, rfl, G0⟩
  case round =>
    clear G0
    obtain ⟨k, hk, rfl, G⟩ := hrel
    by_cases hlt : k < n
    · obtain ⟨b, off, rfl, hcx⟩ := HX.out.cells k hlt
      have E := (hcx k hlt).keep G.bl
      clear hcx
      obtain ⟨va, vn, vc, e1, vI⟩ := E.at_
      clear E
      go_wp2_with fail
      refine (lentVecM_any va vn vc _ _ vI (by rw [← vI.len]; exact HZ.out k hlt)).mono ?_
      rintro e w3 ⟨h, m, rfl, hh, hM, hb⟩
      have hgl : g < wr.heap.size := by obtain ⟨L, h1, _⟩ := G.row; exact h1.lt
      have G := G.keep hb
      obtain ⟨L, hAC, hLl, _⟩ := G.row
      have hfr := hAC.frozen (k * 8 + 1)
      obtain ⟨u0, hcell⟩ : ∃ u0, w3.cell? ⟨g, k * 8 + 1, none⟩ = some u0 := ⟨_, hAC.cell (k * 8 + 1) _ (List.getElem?_eq_getElem (by have := G.room; omega))⟩
      have G2 := G.store hlt (show h ≠ g by omega) hM
      clear G hAC hLl hM vI hh hgl
      go_wp2_with fail
      go_roundw
      case rel => exact ⟨k + 1, by omega, by go_num, G2⟩
      case measure => simp [intOf]; omega
    · obtain rfl : k = n := by omega
      go_wp2_with fail
      go_ret
      exact ⟨g, cap, rfl, G.new, G.done HL.out (by omega), G.bl⟩
end Go.Proofs.YtfjjnffifnohkaaGreat
end

/- parts of a slice of versions. By an AI agent. -/
section
set_option linter.unusedVariables false
namespace Go.Proofs.YtfjjnffifnohkaaGreat
open Go.RowKit

theorem VA.dropk {w : World} {b off n : Nat} {vs : List VerL} (h : VA w (some ⟨b, off, none⟩) n vs) (k : Nat) (hk : k ≤ n) : VA w (some ⟨b, off + k * 8, none⟩) (n - k) (vs.drop k) := by
  refine ⟨by rw [List.length_drop, h.len], by have := h.cap; omega, fun _ _ => ⟨b, off + k * 8, rfl, fun j hj => ?_⟩⟩
  obtain ⟨b', off', e, hc⟩ := h.cells 0 (by omega)
  simp only [Option.some.injEq, Addr.mk.injEq] at e
  obtain ⟨rfl, rfl, _⟩ := e
  have e2 : nthR (vs.drop k) j = nthR vs (k + j) := by
    rw [nthR_eq (by rw [List.length_drop, h.len]; exact hj), nthR_eq (by rw [h.len]; omega), List.getElem_drop]
  rw [e2, show off + k * 8 + j * 8 = off + (k + j) * 8 by omega]
  exact hc (k + j) (by omega)
theorem VA.takek {w : World} {b off n : Nat} {vs : List VerL} (h : VA w (some ⟨b, off, none⟩) n vs) (k : Nat) (hk : k ≤ n) : VA w (some ⟨b, off, none⟩) k (vs.take k) := by
  refine ⟨by rw [List.length_take, h.len]; omega, by have := h.cap; omega, fun _ _ => ⟨b, off, rfl, fun j hj => ?_⟩⟩
  obtain ⟨b', off', e, hc⟩ := h.cells 0 (by omega)
  simp only [Option.some.injEq, Addr.mk.injEq] at e
  obtain ⟨rfl, rfl, _⟩ := e
  have e2 : nthR (vs.take k) j = nthR vs j := by
    rw [nthR_eq (by rw [List.length_take, h.len]; omega), nthR_eq (by rw [h.len]; omega), List.getElem_take]
  rw [e2]
  exact hc j (by omega)
end Go.Proofs.YtfjjnffifnohkaaGreat
end
