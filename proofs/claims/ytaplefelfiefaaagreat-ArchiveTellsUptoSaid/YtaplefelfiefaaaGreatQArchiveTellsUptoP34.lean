import Derived.Test.YtaplefelfiefaaaGreatQArchiveTellsUptoP33
import Derived.Test.YtaplefelfiefaaaGreatQArchiveTellsUptoP1
import Derived.Test.YtaplefelfiefaaaGreatQArchiveTellsUptoP2
import Derived.Test.YtaplefelfiefaaaGreatQArchiveTellsUptoP21
import Derived.Test.YtaplefelfiefaaaGreatQArchiveTellsUptoP32

/- a book of several kinds: from what a call leaves to the state of the book; rows that have grown. By an AI agent. -/
section
set_option linter.unusedVariables false
namespace Go.Proofs.YtaplefelfiefaaaGreat
open Go.RowKit

section
variable {k : BKd} {B : Nat} {w W : World} {g : Nat} {n : Nat → Nat} {vv wv : Nat → Value} {vs us : Nat → Nat → Value} {ln : Nat → Nat → Nat} {cs : Nat → Nat → List Value} {D : Nat → Nat → Nat → Prop} {T : Nat → Prop}
theorem BookX.vpk {p : Nat} {R : Value → World → (Nat → Prop) → Prop} {v vv' wv' u : Value} {Dn Dv : Nat → Prop} (h : BookX k B w g n vv wv vs us ln cs D T)
    (P : RPk (k.L p) p B R w W g (n p) (hsOf vv wv) (vv p) (wv p) ((List.range (n p)).map (vs p)) ((List.range (n p)).map (us p)) v vv' wv' u Dn)
    (hp : ((hsOf vv wv).set p vv').set (p + 1) wv' = hsOf (upd vv p vv') (upd wv p wv')) (hD : ∀ b, Dv b → b < w.heap.size ∧ ¬ BSt g vv wv b) (hQ : R u W Dn → k.Q p v u W (fun b => Dn b ∨ Dv b)) :
    VPk k B w W g (n p) p vv wv vs us v vv' wv' u Dv (fun b => Dn b ∨ Dv b) := by
  refine ⟨by rw [← hp]; exact P.box, P.rv, P.ru, hQ P.rd, fun b hb => ?_, P.fr, P.bv, P.bu, P.avu⟩
  rcases hb with hb | hb
  · obtain ⟨d1, d2, d3, d4⟩ := P.dn b hb
    exact ⟨d1, .inr d2, d3, d4⟩
  · obtain ⟨e1, e2⟩ := hD b hb
    refine ⟨Nat.lt_of_lt_of_le e1 P.fr.size, .inl hb, fun e => ?_, fun e => ?_⟩
    · rcases P.bv b e with q | q
      · exact e2 (.inr ⟨p, .inl q⟩)
      · omega
    · rcases P.bu b e with q | q
      · exact e2 (.inr ⟨p, .inr q⟩)
      · omega
theorem BookX.bq (h : BookX k B w g n vv wv vs us ln cs D T) : BQ k B w g T := ⟨n, vv, wv, vs, us, ln, cs, D, h⟩
/-- one more list: the state behind the call -/
theorem BookX.reg {p : Nat} {v vv' wv' u : Value} {l : Nat} {ys : List Value} {Dv Dn : Nat → Prop} (h : BookX k B w g n vv wv vs us ln cs D T) (hp : p ∈ k.K) (hn : n p < 250) (hv : w.ownsRow B (k.E p) (k.z p) v l ys) (hl : l ≤ 50000)
    (hT : ∀ b, v.ownBlock = some b → T b) (hD : ∀ b, Dv b → b < w.heap.size ∧ ¬ BSt g vv wv b) (P : VPk k B w W g (n p) p vv wv vs us v vv' wv' u Dv Dn) :
    BQ k B W g (fun b => T b ∧ v.ownBlock ≠ some b) ∧ Fr (fun b => ¬ T b) w W := by
  refine ⟨(h.step hp hn hv hl hT hD P).1.bq, ⟨P.fr.os, P.fr.tape, P.fr.output, P.fr.size, fun b hb ht => P.fr.block b hb (fun q => ?_)⟩⟩
  have hs := (h.t b (Classical.not_not.1 ht)).2.1
  rcases q with q | q | q
  · exact hs (.inl q)
  · exact hs (.inr ⟨p, .inl q⟩)
  · exact hs (.inr ⟨p, .inr q⟩)
end
theorem Fr.wider {S S' : Nat → Prop} {w w' : World} (h : Fr S w w') (hs : ∀ b, S b → S' b) : Fr S' w w' := ⟨h.os, h.tape, h.output, h.size, fun k hk q => h.block k hk (fun q2 => q (hs k q2))⟩
/-! ### rows that have grown -/
structure GRs (E L : Nat) (m : MK) (B b0 n : Nat) (vs : Nat → Value) (ms : Nat → Nat) (W : World) (out : Value) (gs : Nat → Value) : Prop where
  row : W.ownsRow b0 L 1 out n ((List.range n).map gs)
  ogs : ∀ j, j < n → W.ownsRow B E m.z (gs j) (ms j + 72) (m.row j 0 (ms j + 72))
  ovs : ∀ j, j < n → W.ownsRow B E m.z (vs j) (ms j) (m.row j 0 (ms j))
  apg : ∀ j, j < n → ∀ b, (gs j).ownBlock = some b → (vs j).ownBlock = some b ∨ b0 ≤ b
section
variable {E L : Nat} {m : MK} {B b0 n : Nat} {vs : Nat → Value} {ms : Nat → Nat} {W W' : World} {out : Value} {gs : Nat → Value}
theorem GRk.grs {w : World} (h : GRk E L m B n vs ms w W n out gs) : GRs E L m B w.heap.size n vs ms W out gs := ⟨h.row, h.ogs, h.ovs, fun j hj b e => (h.apg j hj b e).imp_right (fun q => q.1)⟩
theorem GRs.fr {S : Nat → Prop} (h : GRs E L m B b0 n vs ms W out gs) (hf : Fr S W W') (h1 : ∀ b, S b → b < b0) (h2 : ∀ j, j < n → ∀ b, (vs j).ownBlock = some b → ¬ S b) : GRs E L m B b0 n vs ms W' out gs := by
  refine ⟨hf.own h.row (fun b e hs => ?_), fun j hj => hf.own (h.ogs j hj) (fun b e hs => ?_), fun j hj => hf.own (h.ovs j hj) (h2 j hj), h.apg⟩
  · have := (World.ownsRow.lt h.row b e).1
    have := h1 b hs; omega
  · rcases h.apg j hj b e with q | q
    · exact h2 j hj b q hs
    · have := h1 b hs; omega
theorem GRs.keep (h : GRs E L m B b0 n vs ms W out gs) (hb : Bl W W') : GRs E L m B b0 n vs ms W' out gs := ⟨ownsRow_bl h.row hb, fun j hj => ownsRow_bl (h.ogs j hj) hb, fun j hj => ownsRow_bl (h.ovs j hj) hb, h.apg⟩
end
/-- own rows of a kind, in a world -/
def OWk (B E z n : Nat) (vs : Nat → Value) (ln : Nat → Nat) (cs : Nat → List Value) (W : World) : Prop := ∀ j, j < n → W.ownsRow B E z (vs j) (ln j) (cs j)
theorem OWk.fr {B E z n : Nat} {vs : Nat → Value} {ln : Nat → Nat} {cs : Nat → List Value} {W W' : World} {S : Nat → Prop} (h : OWk B E z n vs ln cs W) (hf : Fr S W W') (h2 : ∀ b, SBk n vs b → ¬ S b) : OWk B E z n vs ln cs W' := fun j hj => hf.own (h j hj) (fun b e => h2 b ⟨j, hj, e⟩)
theorem OWk.keep {B E z n : Nat} {vs : Nat → Value} {ln : Nat → Nat} {cs : Nat → List Value} {W W' : World} (h : OWk B E z n vs ln cs W) (hb : Bl W W') : OWk B E z n vs ln cs W' := fun j hj => ownsRow_bl (h j hj) hb
section
variable {k : BKd} {B : Nat} {w : World} {g : Nat} {n : Nat → Nat} {vv wv : Nat → Value} {vs us : Nat → Nat → Value} {ln : Nat → Nat → Nat} {cs : Nat → Nat → List Value} {D : Nat → Nat → Nat → Prop} {T : Nat → Prop}
/-- what of a book's state says which blocks lie apart -/
theorem BookX.sb_g (h : BookX k B w g n vv wv vs us ln cs D T) {p : Nat} (hp : p ∈ k.K) : ¬ SBk (n p) (vs p) g := fun ⟨j, hj, e⟩ => h.vap p hp j hj g e (.inl rfl)
theorem BookX.sb_row (h : BookX k B w g n vv wv vs us ln cs D T) {p q : Nat} (hp : p ∈ k.K) {b : Nat} (e : (vv q).ownBlock = some b) : ¬ SBk (n p) (vs p) b := fun ⟨j, hj, e2⟩ => h.vap p hp j hj b e2 (.inr ⟨q, .inl e⟩)
theorem BookX.sb_sb (h : BookX k B w g n vv wv vs us ln cs D T) {p q : Nat} (hp : p ∈ k.K) (hq : q ∈ k.K) (hpq : p ≠ q) {b : Nat} (hb : SBk (n q) (vs q) b) : ¬ SBk (n p) (vs p) b := fun ⟨j, hj, e2⟩ => by
  obtain ⟨i, hi, e1⟩ := hb
  rcases h.avv p q hp hq j i hj hi (.inl hpq) with s | s
  · rw [s] at e2; cases e2
  · exact s (e2.trans e1.symm)
theorem BookX.sb_lt (h : BookX k B w g n vv wv vs us ln cs D T) {p : Nat} (hp : p ∈ k.K) {b : Nat} (hb : SBk (n p) (vs p) b) : b < w.heap.size ∧ B ≤ b ∧ ¬ T b := by
  obtain ⟨j, hj, e⟩ := hb
  have := World.ownsRow.lt (h.own p hp j hj) b e
  exact ⟨this.2, this.1, fun t => (h.t b t).2.2 p hp j hj e⟩
theorem BookX.ap (h : BookX k B w g n vv wv vs us ln cs D T) {p : Nat} (hp : p ∈ k.K) : ∀ i j, i < n p → j < n p → i ≠ j → (vs p i).ownBlock = none ∨ (vs p i).ownBlock ≠ (vs p j).ownBlock := fun i j hi hj hij => h.avv p p hp hp i j hi hj (.inr hij)
end
end Go.Proofs.YtaplefelfiefaaaGreat
end

/- bedrockbook.LentVec, StaysVec, copyVecs. By an AI agent. -/
section
namespace Go.Proofs.YtaplefelfiefaaaGreat
open Go.RowKit

theorem el_vec : EL 23 3 1 8 := el_of Tryz.underlying23 (by kernel_rfl) (by decide)
theorem el_intsC : EL 22 3 1 8 := el_of Tryz.underlying22 (by kernel_rfl) (by decide)
theorem copyVecs_any (a : Option Addr) (n c : Nat) (xs : List Int) (w : World) (hx : IA w a n xs) :
    Calls Tryz.prog 148 #[.slice a n c] w fun e w' => ∃ v, e = .returned v ∧ FI w.heap.size w' v xs ∧ Bl w w' := by
  have hcap := hx.cap
  have HL := Lib.hid hx.len
  have HX := Lib.hid hx
  clear hx
  go_enter Tryz.func148, Tryz.ntmps148
  go_wp2_with (at_builtin; refine wpList_appG rfl _ _ _ rfl el_intsC w.heap.size (.slice none 0 0) 0 [] rfl (World.ownsRow_nil _ _ _ _) (Nat.le_refl _) a n c _ rfl (sg_ints HX.out) ?cM ?cN ?_)
  case cM => unfold maxLen; omega
  case cN => omega
  intro v w1 ho hg
  have hb : Bl w w1 := (Bl.refl w).ownRow (World.ownsRow_nil w w.heap.size 3 1) (Nat.le_refl _) hg
  have hoi : OI w.heap.size w1 v xs := by
    unfold OI
    rw [HL.out]
    simpa using ho
  have HB := Lib.hid hb
  have HO := Lib.hid hoi
  clear ho hg hb hoi
  go_wp2_with fail
  go_ret
  exact ⟨_, rfl, ⟨HO.out, by rw [HL.out]; exact hcap, HX.out.wf⟩, HB.out⟩

/-- a slice of n ints, behind which a mark stands in the same block -/
structure LV (B : Nat) (W : World) (g n c : Nat) (xs : List Int) : Prop where
  own : OI B W (.slice (some ⟨g, 0, none⟩) (n + 1) c) (xs ++ [-77])
  len : xs.length = n
  cap : n * 8 ≤ 140737488351232
  wf : ∀ x ∈ xs, -9223372036854775808 ≤ x ∧ x ≤ 9223372036854775807
theorem LV.keep {B : Nat} {W W' : World} {g n c : Nat} {xs : List Int} (h : LV B W g n c xs) (hb : Bl W W') : LV B W' g n c xs := ⟨h.own.keep hb, h.len, h.cap, h.wf⟩
theorem LV.ia {B : Nat} {W : World} {g n c : Nat} {xs : List Int} (h : LV B W g n c xs) : IA W (some ⟨g, 0, none⟩) n xs := by
  refine ⟨h.len, h.cap, fun j0 _ => ⟨g, 0, rfl, fun j hj => ?_⟩, h.wf⟩
  have hl : (xs ++ [-77]).length = n + 1 := by simp [h.len]
  have ho := h.own
  unfold OI at ho
  rw [hl] at ho
  rw [Nat.zero_add, ho.cellAt j (by omega), List.getElem?_map, List.getElem?_append_left (by rw [h.len]; exact hj), List.getElem?_eq_getElem (by rw [h.len]; exact hj), nth_eq (by rw [h.len]; exact hj)]
  rfl
theorem LV.mark {B : Nat} {W : World} {g n c : Nat} {xs : List Int} (h : LV B W g n c xs) : W.cell? ⟨g, n, none⟩ = some (.int .i64 (-77)) ∧ n + 1 ≤ c := by
  have hl : (xs ++ [-77]).length = n + 1 := by simp [h.len]
  have ho := h.own
  unfold OI at ho
  rw [hl] at ho
  refine ⟨?_, ?_⟩
  · rw [ho.cellAt n (by omega), List.getElem?_map, List.getElem?_append_right (by rw [h.len]; exact Nat.le_refl _), h.len, Nat.sub_self]
    rfl
  · obtain ⟨_, ⟨e, _⟩ | ⟨g', cap, cur, e, hB, hg, hn, _⟩⟩ := ho
    · cases e
    · simp only [Value.slice.injEq, Option.some.injEq, Addr.mk.injEq, and_true, true_and] at e
      omega
theorem lentVec_any (a : Option Addr) (n c : Nat) (xs : List Int) (w : World) (hx : IA w a n xs) (hn : n ≤ 1000000) :
    Calls Tryz.prog 9 #[.slice a n c] w fun e w' => ∃ g c', e = .returned (.slice (some ⟨g, 0, none⟩) n c') ∧ LV w.heap.size w' g n c' xs ∧ Bl w w' := by
  have hcap := hx.cap
  have HL := Lib.hid hx.len
  have HX := Lib.hid hx
  clear hx
  go_enter Tryz.func9, Tryz.ntmps9
  go_wp2_with (at_builtin; refine wpList_appG rfl _ _ _ rfl el_vec w.heap.size (.slice none 0 0) 0 [] rfl (World.ownsRow_nil _ _ _ _) (Nat.le_refl _) a n c _ rfl (sg_ints HX.out) ?cM ?cN ?_)
  case cM => unfold maxLen; omega
  case cN => omega
  intro v w1 ho hg
  have hb : Bl w w1 := (Bl.refl w).ownRow (World.ownsRow_nil w w.heap.size 3 1) (Nat.le_refl _) hg
  have hoi : w1.ownsRow w.heap.size 3 1 v n (xs.map (Value.int .i64)) := by simpa using ho
  have hsz := hb.size
  have hlit : (w1.alloc (.cells #[.int .i64 (-77)] 3)).heap[w1.heap.size]? = some (.cells [.int .i64 (-77)].toArray 3 (0, 0)) := heap_alloc_new w1 _
  have HLT := Lib.hid (SG.lit (size := 1) hlit rfl (by intro u hu; simp at hu; subst hu; rfl))
  have hoa := ownsRow_bl hoi ((Bl.refl w1).alloc (.cells #[.int .i64 (-77)] 3))
  have HBA := Lib.hid (hb.alloc (.cells #[.int .i64 (-77)] 3))
  clear ho hg hb hoi hlit
  go_wp2_with (at_builtin; refine wpList_appG rfl _ _ _ rfl el_vec w.heap.size _ _ _ rfl hoa ?cB2 (some ⟨w1.heap.size, 0, none⟩) 1 1 _ rfl HLT.out ?cM2 ?cN2 ?_)
  case cB2 => simp; omega
  case cM2 => unfold maxLen; omega
  case cN2 => omega
  intro v2 w2 ho2 hg2
  have hb2 : Bl w w2 := HBA.out.ownRow hoa (Nat.le_refl _) hg2
  obtain ⟨g, c', rfl⟩ : ∃ g c', v2 = .slice (some ⟨g, 0, none⟩) (n + 1) c' := by
    obtain ⟨_, ⟨_, e⟩ | ⟨g', cap, cur, e, _⟩⟩ := ho2
    · omega
    · exact ⟨g', cap, e⟩
  have hlv : LV w.heap.size w2 g n c' xs := ⟨by
    unfold OI
    rw [List.length_append, HL.out, List.map_append]
    exact ho2, HL.out, hcap, HX.out.wf⟩
  have hmc := hlv.mark.2
  have HLV := Lib.hid hlv
  have HB2 := Lib.hid hb2
  clear ho2 hg2 hoa HLT HBA hlv hb2
  go_wp2_with fail
  go_ret
  exact ⟨_, _, rfl, HLV.out, HB2.out⟩
theorem staysVec_any (B g n c : Nat) (a : Option Addr) (m ca : Nat) (xs : List Int) (w : World) (h : LV B w g n c xs) (hx : IA w a m xs) (hn : n ≤ 1000000) :
    Calls Tryz.prog 18 #[.slice (some ⟨g, 0, none⟩) n c, .slice a m ca] w fun e w' => e = .returned (.bool true) ∧ Bl w w' := by
  have hs := rsame_any (some ⟨g, 0, none⟩) a n m c ca xs xs w h.ia hx
  rw [decide_eq_true (rfl : xs = xs)] at hs
  have HS := Lib.hid hs
  have HM := Lib.hid h.mark
  have hc := h.mark.2
  clear hs
  go_enter Tryz.func18, Tryz.ntmps18
  go_wp2_with fail
  refine HS.out.mono ?_
  rintro e w1 ⟨rfl, hb⟩
  have c0 := hb.cell HM.out.1
  go_wp2_with fail
  go_ret
  exact ⟨rfl, hb⟩
end Go.Proofs.YtaplefelfiefaaaGreat
end

/- bedrockbook over vectors, in the words of all kinds. By an AI agent. -/
section
set_option linter.unusedVariables false
namespace Go.Proofs.YtaplefelfiefaaaGreat
open Go.RowKit

theorem IA.ofOwn {B : Nat} {w : World} {a : Option Addr} {n c : Nat} {xs : List Int} (h : w.ownsRow B 3 1 (.slice a n c) n (xs.map (Value.int .i64))) (hl : xs.length = n) (hn : n ≤ 1000000) (hw : ∀ x ∈ xs, -9223372036854775808 ≤ x ∧ x ≤ 9223372036854775807) : IA w a n xs := by
  have ho : OI B w (.slice a n c) xs := by unfold OI; rw [hl]; exact h
  obtain ⟨a', n', c', e, i⟩ := ho.si (by omega) hw
  cases e
  exact i
theorem IA.fr {S : Nat → Prop} {w w' : World} (h : Fr S w w') {a : Option Addr} {n : Nat} {xs : List Int} (hp : IA w a n xs) (hs : ∀ b off, a = some ⟨b, off, none⟩ → 0 < n → ¬ S b) : IA w' a n xs := ⟨hp.len, hp.cap, fun j hj => by
  obtain ⟨b, off, e, hc⟩ := hp.cells j hj
  exact ⟨b, off, e, fun j hj => h.cell (hc j hj) (hs b off e (by omega))⟩, hp.wf⟩
def mkV : MK := ⟨1, fun i k => [.int .i64 (-1000000 * (i : Int) - (k : Int) - 9)], fun _ _ => rfl, by decide⟩
theorem markV_cells (i f n : Nat) : (markL i f n).map (Value.int .i64) = mkV.row i f n := by
  induction n with
  | zero => rfl
  | succ n ih => rw [mkV.row_succ, markL_succ, List.map_append, ih]; rfl
/-- a list and its copy read alike -/
def TwoV (v u : Value) (W : World) (D : Nat → Prop) : Prop := ∃ (ps : List Int) (a b : Option Addr) (n c d : Nat), v = .slice a n c ∧ u = .slice b n d ∧ IA W a n ps ∧ IA W b n ps ∧ (∀ x off, a = some ⟨x, off, none⟩ → 0 < n → D x) ∧ (∀ x off, b = some ⟨x, off, none⟩ → 0 < n → D x)
theorem TwoV.st {v u : Value} {W W' : World} {S D : Nat → Prop} (hf : Fr S W W') (hd : ∀ b, D b → ¬ S b) (h : TwoV v u W D) : TwoV v u W' D := by
  obtain ⟨ps, a, b, n, c, d, e1, e2, r1, r2, d1, d2⟩ := h
  exact ⟨ps, a, b, n, c, d, e1, e2, r1.fr hf (fun x off e hn => hd x (d1 x off e hn)), r2.fr hf (fun x off e hn => hd x (d2 x off e hn)), d1, d2⟩
/-- what own rows of vectors hold -/
theorem TwoV.ints {B : Nat} {v u : Value} {W : World} {D : Nat → Prop} {n : Nat} {cs : List Value} (h : TwoV v u W D) (ho : W.ownsRow B 3 1 v n cs) : ∃ xs : List Int, xs.length = n ∧ cs = xs.map (Value.int .i64) := by
  obtain ⟨ps, a, b, m, c, d, rfl, rfl, r1, r2, d1, d2⟩ := h
  obtain ⟨a2, c2, e⟩ := row_shape' ho
  cases e
  refine ⟨ps, r1.len, ?_⟩
  have hl := ho.1
  rw [Nat.mul_one] at hl
  refine List.ext_getElem (by rw [hl, List.length_map, r1.len]) fun j h1 h2 => ?_
  have hj : j < n := by omega
  obtain ⟨b', off, e, hc⟩ := r1.cells j hj
  subst e
  obtain ⟨_, ⟨e, _⟩ | ⟨g, cap, cur, e, _⟩⟩ := id ho
  · cases e
  · simp only [Value.slice.injEq, Option.some.injEq, Addr.mk.injEq, and_true, true_and] at e
    obtain ⟨⟨rfl, rfl⟩, rfl⟩ := e
    have q1 := hc j hj
    rw [Nat.zero_add, ho.cellAt j (by omega), List.getElem?_eq_getElem h1] at q1
    rw [List.getElem_map]
    have := Option.some.inj q1
    rw [this, nth_eq (by rw [r1.len]; exact hj)]
theorem pick_ints {B n : Nat} {vs us : Nat → Value} {ln : Nat → Nat} {cs : Nat → List Value} {D : Nat → Nat → Prop} {W : World} (hq : ∀ j, j < n → TwoV (vs j) (us j) W (D j)) (ho : ∀ j, j < n → W.ownsRow B 3 1 (vs j) (ln j) (cs j)) :
    ∃ xs : Nat → List Int, ∀ j, j < n → (xs j).length = ln j ∧ cs j = (xs j).map (Value.int .i64) := by
  classical
  refine ⟨fun j => if h : j < n then ((hq j h).ints (ho j h)).choose else [], fun j hj => ?_⟩
  dsimp only
  rw [dif_pos hj]
  exact ((hq j hj).ints (ho j hj)).choose_spec
theorem stillVecsk_any (g : Nat) (va ua : Option Addr) (n cv cu : Nat) (vs us : Nat → Value) (D : Nat → Nat → Prop) (w : World) (hn : n ≤ 250) (hc4 : w.cell? ⟨g, 4, none⟩ = some (.slice va n cv)) (hc5 : w.cell? ⟨g, 5, none⟩ = some (.slice ua n cu))
    (hv : LA w va n vs) (hu : LA w ua n us) (h : ∀ j, j < n → TwoV (vs j) (us j) w (D j)) :
    Calls Tryz.prog 61 #[.pointer (some ⟨g, 0, none⟩)] w fun e w' => e = .returned (.bool true) ∧ Bl w w' := by
  classical
  refine stillVecs_any g va ua n cv cu vs us (fun j => if h2 : j < n then (h j h2).choose else []) w hn hc4 hc5 hv hu (fun j hj => ?_)
  rw [dif_pos hj]
  obtain ⟨a, b, m, c, d, e1, e2, r1, r2, _⟩ := (h j hj).choose_spec
  exact ⟨⟨a, m, c, e1, r1⟩, ⟨b, m, d, e2, r2⟩⟩
theorem putVecsk_any (B g : Nat) (va : Option Addr) (n cv : Nat) (vs : Nat → Value) (xs : Nat → List Int) (w : World) (hn : n ≤ 250) (hc4 : w.cell? ⟨g, 4, none⟩ = some (.slice va n cv)) (hv : LA w va n vs)
    (h : ∀ j, j < n → w.ownsRow B 3 1 (vs j) (xs j).length ((xs j).map (Value.int .i64)) ∧ (xs j).length ≤ 100000) (hap : ∀ i j, i < n → j < n → i ≠ j → (vs i).ownBlock = none ∨ (vs i).ownBlock ≠ (vs j).ownBlock)
    (hg : ¬ SBk n vs g) (hva : ∀ b off, va = some ⟨b, off, none⟩ → ¬ SBk n vs b) :
    Calls Tryz.prog 81 #[.pointer (some ⟨g, 0, none⟩)] w fun e w' => e = .returned (.tuple #[]) ∧ Fr (SBk n vs) w w' ∧ ∀ j, j < n → w'.ownsRow B 3 1 (vs j) (xs j).length (mkV.row j 0 (xs j).length) := by
  refine (putVecs_any B g va n cv vs xs w hn hc4 hv h hap hg hva).mono ?_
  rintro e w' ⟨rfl, hf, ho⟩
  refine ⟨rfl, hf, fun j hj => ?_⟩
  have := ho j hj
  unfold OI at this
  rwa [markL_len, markV_cells] at this
theorem growVecsk_any (B g : Nat) (va : Option Addr) (n cv : Nat) (vs : Nat → Value) (ms : Nat → Nat) (w : World) (hn : n ≤ 250) (hB : B ≤ w.heap.size) (hc4 : w.cell? ⟨g, 4, none⟩ = some (.slice va n cv)) (hv : LA w va n vs)
    (h : ∀ j, j < n → w.ownsRow B 3 1 (vs j) (ms j) (mkV.row j 0 (ms j)) ∧ ms j ≤ 50000) (hap : ∀ i j, i < n → j < n → i ≠ j → (vs i).ownBlock = none ∨ (vs i).ownBlock ≠ (vs j).ownBlock)
    (hg : ¬ SBk n vs g) (hva : ∀ b off, va = some ⟨b, off, none⟩ → ¬ SBk n vs b) :
    Calls Tryz.prog 91 #[.pointer (some ⟨g, 0, none⟩)] w fun e w' => ∃ out gs, e = .returned out ∧ GRk 3 22 mkV B n vs ms w w' n out gs := by
  refine (growVecs_any B g va n cv vs ms w hn hB hc4 hv (fun j hj => ⟨by unfold OI; rw [markL_len, markV_cells]; exact (h j hj).1, (h j hj).2⟩) hap hg hva).mono ?_
  rintro e w' ⟨out, gs, rfl, hr⟩
  refine ⟨out, gs, rfl, ⟨hr.fr, hr.row, fun j hj => ?_, fun j hj => ?_, hr.apg⟩⟩
  · have := hr.ogs j hj
    unfold OI at this
    rwa [markL_len, markV_cells] at this
  · have := hr.ovs j hj
    unfold OI at this
    rwa [markL_len, markV_cells] at this
theorem markedVecsk_any (la : Option Addr) (n lc : Nat) (vs : Nat → Value) (ms : Nat → Nat) (B : Nat) (w : World) (hn : n ≤ 250) (hv : LA w la n vs) (h : ∀ j, j < n → w.ownsRow B 3 1 (vs j) (ms j) (mkV.row j 0 (ms j)) ∧ ms j ≤ 100000) :
    Calls Tryz.prog 106 #[.slice la n lc] w fun e w' => e = .returned (.bool true) ∧ Bl w w' := by
  refine markedVecs_any la n lc vs ms w hn hv (fun j hj => ⟨?_, (h j hj).2⟩)
  have ho : OI B w (vs j) (markL j 0 (ms j)) := by unfold OI; rw [markL_len, markV_cells]; exact (h j hj).1
  exact ho.si (by rw [markL_len]; have := (h j hj).2; omega) (markL_wf (by omega) (by have := (h j hj).2; omega))
theorem el_rowsV : EL 34 22 1 24 := el_rows
theorem copyVecsk_any (a : Option Addr) (n c : Nat) (xs : List Int) (w : World) (hx : IA w a n xs) :
    Calls Tryz.prog 148 #[.slice a n c] w fun e w' => ∃ v, e = .returned v ∧ w'.ownsRow w.heap.size 3 1 v n (xs.map (Value.int .i64)) ∧ Bl w w' := by
  refine (copyVecs_any a n c xs w hx).mono ?_
  rintro e w' ⟨v, rfl, hf, hb⟩
  have := hf.own
  unfold OI at this
  rw [hx.len] at this
  exact ⟨v, rfl, this, hb⟩
end Go.Proofs.YtaplefelfiefaaaGreat
end
