import Derived.Test.YtfmabjoindlfeaaGreatQTxnTellsUptoP1
import Derived.Test.YtfmabjoindlfeaaGreatQTxnTellsUptoP2
import Derived.Test.YtfmabjoindlfeaaGreatQTxnTellsUptoP6
import Derived.Test.YtfmabjoindlfeaaGreatQTxnTellsUptoP4

/- bedrockbook.LentVec, StaysVec, copyVecs. By an AI agent. -/
section
namespace Go.Proofs.YtfmabjoindlfeaaGreat
open Go.RowKit

theorem el_vec : EL 23 3 1 8 := el_of Tryz.underlying23 (by kernel_rfl) (by decide)
theorem el_intsC : EL 22 3 1 8 := el_of Tryz.underlying22 (by kernel_rfl) (by decide)
theorem copyVecs_any (a : Option Addr) (n c : Nat) (xs : List Int) (w : World) (hx : IA w a n xs) :
    Calls Tryz.prog 181 #[.slice a n c] w fun e w' => ∃ v, e = .returned v ∧ FI w.heap.size w' v xs ∧ Bl w w' := by
  have hcap := hx.cap
  have HL := Lib.hid hx.len
  have HX := Lib.hid hx
  clear hx
  go_enter Tryz.func181, Tryz.ntmps181
  go_wp2_with (at_builtin; refine wpList_appG rfl _ _ _ rfl el_intsC w.heap.size (.slice none 0 0) 0 [] rfl (World.ownsRow_nil _ _ _ _) (Nat.le_refl _) a n c _ rfl (sg_ints HX.out) ?cM ?cN ?_)
  case cM => unfold maxLen; omega
  case cN => omega
  intro v w1 ho hg
  have hb : Bl w w1 := (Bl.refl w).ownRow (World.ownsRow_nil w w.heap.size 3 1) (Nat.le_refl _) hg
  have hoi : OI w.heap.size w1 v xs := by
    unfold OI
    rw [HL.out]
    simpa using ho
  have HB := Lib.hid hb
  have HO := Lib.hid hoi
  clear ho hg hb hoi
  go_wp2_with fail
  go_ret
  exact ⟨_, rfl, ⟨HO.out, by rw [HL.out]; exact hcap, HX.out.wf⟩, HB.out⟩

/-- a slice of n ints, behind which a mark stands in the same block -/
structure LV (B : Nat) (W : World) (g n c : Nat) (xs : List Int) : Prop where
  own : OI B W (.slice (some ⟨g, 0, none⟩) (n + 1) c) (xs ++ [-77])
  len : xs.length = n
  cap : n * 8 ≤ 140737488351232
  wf : ∀ x ∈ xs, -9223372036854775808 ≤ x ∧ x ≤ 9223372036854775807
theorem LV.keep {B : Nat} {W W' : World} {g n c : Nat} {xs : List Int} (h : LV B W g n c xs) (hb : Bl W W') : LV B W' g n c xs := ⟨h.own.keep hb, h.len, h.cap, h.wf⟩
theorem LV.ia {B : Nat} {W : World} {g n c : Nat} {xs : List Int} (h : LV B W g n c xs) : IA W (some ⟨g, 0, none⟩) n xs := by
  refine ⟨h.len, h.cap, fun j0 _ => ⟨g, 0, rfl, fun j hj => ?_⟩, h.wf⟩
  have hl : (xs ++ [-77]).length = n + 1 := by simp [h.len]
  have ho := h.own
  unfold OI at ho
  rw [hl] at ho
  rw [Nat.zero_add, ho.cellAt j (by omega), List.getElem?_map, List.getElem?_append_left (by rw [h.len]; exact hj), List.getElem?_eq_getElem (by rw [h.len]; exact hj), nth_eq (by rw [h.len]; exact hj)]
  rfl
theorem LV.mark {B : Nat} {W : World} {g n c : Nat} {xs : List Int} (h : LV B W g n c xs) : W.cell? ⟨g, n, none⟩ = some (.int .i64 (-77)) ∧ n + 1 ≤ c := by
  have hl : (xs ++ [-77]).length = n + 1 := by simp [h.len]
  have ho := h.own
  unfold OI at ho
  rw [hl] at ho
  refine ⟨?_, ?_⟩
  · rw [ho.cellAt n (by omega), List.getElem?_map, List.getElem?_append_right (by rw [h.len]; exact Nat.le_refl _), h.len, Nat.sub_self]
    rfl
  · obtain ⟨_, ⟨e, _⟩ | ⟨g', cap, cur, e, hB, hg, hn, _⟩⟩ := ho
    · cases e
    · simp only [Value.slice.injEq, Option.some.injEq, Addr.mk.injEq, and_true, true_and] at e
      omega
theorem lentVec_any (a : Option Addr) (n c : Nat) (xs : List Int) (w : World) (hx : IA w a n xs) (hn : n ≤ 1000000) :
    Calls Tryz.prog 23 #[.slice a n c] w fun e w' => ∃ g c', e = .returned (.slice (some ⟨g, 0, none⟩) n c') ∧ LV w.heap.size w' g n c' xs ∧ Bl w w' := by
  have hcap := hx.cap
  have HL := Lib.hid hx.len
  have HX := Lib.hid hx
  clear hx
  go_enter Tryz.func23, Tryz.ntmps23
  go_wp2_with (at_builtin; refine wpList_appG rfl _ _ _ rfl el_vec w.heap.size (.slice none 0 0) 0 [] rfl (World.ownsRow_nil _ _ _ _) (Nat.le_refl _) a n c _ rfl (sg_ints HX.out) ?cM ?cN ?_)
  case cM => unfold maxLen; omega
  case cN => omega
  intro v w1 ho hg
  have hb : Bl w w1 := (Bl.refl w).ownRow (World.ownsRow_nil w w.heap.size 3 1) (Nat.le_refl _) hg
  have hoi : w1.ownsRow w.heap.size 3 1 v n (xs.map (Value.int .i64)) := by simpa using ho
  have hsz := hb.size
  have hlit : (w1.alloc (.cells #[.int .i64 (-77)] 3)).heap[w1.heap.size]? = some (.cells [.int .i64 (-77)].toArray 3 (0, 0)) := heap_alloc_new w1 _
  have HLT := Lib.hid (SG.lit (size := 1) hlit rfl (by intro u hu; simp at hu; subst hu; rfl))
  have hoa := ownsRow_bl hoi ((Bl.refl w1).alloc (.cells #[.int .i64 (-77)] 3))
  have HBA := Lib.hid (hb.alloc (.cells #[.int .i64 (-77)] 3))
  clear ho hg hb hoi hlit
  go_wp2_with (at_builtin; refine wpList_appG rfl _ _ _ rfl el_vec w.heap.size _ _ _ rfl hoa ?cB2 (some ⟨w1.heap.size, 0, none⟩) 1 1 _ rfl HLT.out ?cM2 ?cN2 ?_)
  case cB2 => simp; omega
  case cM2 => unfold maxLen; omega
  case cN2 => omega
  intro v2 w2 ho2 hg2
  have hb2 : Bl w w2 := HBA.out.ownRow hoa (Nat.le_refl _) hg2
  obtain ⟨g, c', rfl⟩ : ∃ g c', v2 = .slice (some ⟨g, 0, none⟩) (n + 1) c' := by
    obtain ⟨_, ⟨_, e⟩ | ⟨g', cap, cur, e, _⟩⟩ := ho2
    · omega
    · exact ⟨g', cap, e⟩
  have hlv : LV w.heap.size w2 g n c' xs := ⟨by
    unfold OI
    rw [List.length_append, HL.out, List.map_append]
    exact ho2, HL.out, hcap, HX.out.wf⟩
  have hmc := hlv.mark.2
  have HLV := Lib.hid hlv
  have HB2 := Lib.hid hb2
  clear ho2 hg2 hoa HLT HBA hlv hb2
  go_wp2_with fail
  go_ret
  exact ⟨_, _, rfl, HLV.out, HB2.out⟩
theorem staysVec_any (B g n c : Nat) (a : Option Addr) (m ca : Nat) (xs : List Int) (w : World) (h : LV B w g n c xs) (hx : IA w a m xs) (hn : n ≤ 1000000) :
    Calls Tryz.prog 47 #[.slice (some ⟨g, 0, none⟩) n c, .slice a m ca] w fun e w' => e = .returned (.bool true) ∧ Bl w w' := by
  have hs := rsame_any (some ⟨g, 0, none⟩) a n m c ca xs xs w h.ia hx
  rw [decide_eq_true (rfl : xs = xs)] at hs
  have HS := Lib.hid hs
  have HM := Lib.hid h.mark
  have hc := h.mark.2
  clear hs
  go_enter Tryz.func47, Tryz.ntmps47
  go_wp2_with fail
  refine HS.out.mono ?_
  rintro e w1 ⟨rfl, hb⟩
  have c0 := hb.cell HM.out.1
  go_wp2_with fail
  go_ret
  exact ⟨rfl, hb⟩
end Go.Proofs.YtfmabjoindlfeaaGreat
end

/- bedrockbook over vectors, in the words of all kinds. By an AI agent. -/
section
set_option linter.unusedVariables false
namespace Go.Proofs.YtfmabjoindlfeaaGreat
open Go.RowKit

theorem IA.ofOwn {B : Nat} {w : World} {a : Option Addr} {n c : Nat} {xs : List Int} (h : w.ownsRow B 3 1 (.slice a n c) n (xs.map (Value.int .i64))) (hl : xs.length = n) (hn : n ≤ 1000000) (hw : ∀ x ∈ xs, -9223372036854775808 ≤ x ∧ x ≤ 9223372036854775807) : IA w a n xs := by
  have ho : OI B w (.slice a n c) xs := by unfold OI; rw [hl]; exact h
  obtain ⟨a', n', c', e, i⟩ := ho.si (by omega) hw
  cases e
  exact i
theorem IA.fr {S : Nat → Prop} {w w' : World} (h : Fr S w w') {a : Option Addr} {n : Nat} {xs : List Int} (hp : IA w a n xs) (hs : ∀ b off, a = some ⟨b, off, none⟩ → 0 < n → ¬ S b) : IA w' a n xs := ⟨hp.len, hp.cap, fun j hj => by
  obtain ⟨b, off, e, hc⟩ := hp.cells j hj
  exact ⟨b, off, e, fun j hj => h.cell (hc j hj) (hs b off e (by omega))⟩, hp.wf⟩
def mkV : MK := ⟨1, fun i k => [.int .i64 (-1000000 * (i : Int) - (k : Int) - 9)], fun _ _ => rfl, by decide⟩
theorem markV_cells (i f n : Nat) : (markL i f n).map (Value.int .i64) = mkV.row i f n := by
  induction n with
  | zero => rfl
  | succ n ih => rw [mkV.row_succ, markL_succ, List.map_append, ih]; rfl
/-- a list and its copy read alike -/
def TwoV (v u : Value) (W : World) (D : Nat → Prop) : Prop := ∃ (ps : List Int) (a b : Option Addr) (n c d : Nat), v = .slice a n c ∧ u = .slice b n d ∧ IA W a n ps ∧ IA W b n ps ∧ (∀ x off, a = some ⟨x, off, none⟩ → 0 < n → D x) ∧ (∀ x off, b = some ⟨x, off, none⟩ → 0 < n → D x)
theorem TwoV.st {v u : Value} {W W' : World} {S D : Nat → Prop} (hf : Fr S W W') (hd : ∀ b, D b → ¬ S b) (h : TwoV v u W D) : TwoV v u W' D := by
  obtain ⟨ps, a, b, n, c, d, e1, e2, r1, r2, d1, d2⟩ := h
  exact ⟨ps, a, b, n, c, d, e1, e2, r1.fr hf (fun x off e hn => hd x (d1 x off e hn)), r2.fr hf (fun x off e hn => hd x (d2 x off e hn)), d1, d2⟩
/-- what own rows of vectors hold -/
theorem TwoV.ints {B : Nat} {v u : Value} {W : World} {D : Nat → Prop} {n : Nat} {cs : List Value} (h : TwoV v u W D) (ho : W.ownsRow B 3 1 v n cs) : ∃ xs : List Int, xs.length = n ∧ cs = xs.map (Value.int .i64) := by
  obtain ⟨ps, a, b, m, c, d, rfl, rfl, r1, r2, d1, d2⟩ := h
  obtain ⟨a2, c2, e⟩ := row_shape' ho
  cases e
  refine ⟨ps, r1.len, ?_⟩
  have hl := ho.1
  rw [Nat.mul_one] at hl
  refine List.ext_getElem (by rw [hl, List.length_map, r1.len]) fun j h1 h2 => ?_
  have hj : j < n := by omega
  obtain ⟨b', off, e, hc⟩ := r1.cells j hj
  subst e
  obtain ⟨_, ⟨e, _⟩ | ⟨g, cap, cur, e, _⟩⟩ := id ho
  · cases e
  · simp only [Value.slice.injEq, Option.some.injEq, Addr.mk.injEq, and_true, true_and] at e
    obtain ⟨⟨rfl, rfl⟩, rfl⟩ := e
    have q1 := hc j hj
    rw [Nat.zero_add, ho.cellAt j (by omega), List.getElem?_eq_getElem h1] at q1
    rw [List.getElem_map]
    have := Option.some.inj q1
    rw [this, nth_eq (by rw [r1.len]; exact hj)]
theorem pick_ints {B n : Nat} {vs us : Nat → Value} {ln : Nat → Nat} {cs : Nat → List Value} {D : Nat → Nat → Prop} {W : World} (hq : ∀ j, j < n → TwoV (vs j) (us j) W (D j)) (ho : ∀ j, j < n → W.ownsRow B 3 1 (vs j) (ln j) (cs j)) :
    ∃ xs : Nat → List Int, ∀ j, j < n → (xs j).length = ln j ∧ cs j = (xs j).map (Value.int .i64) := by
  classical
  refine ⟨fun j => if h : j < n then ((hq j h).ints (ho j h)).choose else [], fun j hj => ?_⟩
  dsimp only
  rw [dif_pos hj]
  exact ((hq j hj).ints (ho j hj)).choose_spec
theorem stillVecsk_any (g : Nat) (va ua : Option Addr) (n cv cu : Nat) (vs us : Nat → Value) (D : Nat → Nat → Prop) (w : World) (hn : n ≤ 250) (hc4 : w.cell? ⟨g, 4, none⟩ = some (.slice va n cv)) (hc5 : w.cell? ⟨g, 5, none⟩ = some (.slice ua n cu))
    (hv : LA w va n vs) (hu : LA w ua n us) (h : ∀ j, j < n → TwoV (vs j) (us j) w (D j)) :
    Calls Tryz.prog 56 #[.pointer (some ⟨g, 0, none⟩)] w fun e w' => e = .returned (.bool true) ∧ Bl w w' := by
  classical
  refine stillVecs_any g va ua n cv cu vs us (fun j => if h2 : j < n then (h j h2).choose else []) w hn hc4 hc5 hv hu (fun j hj => ?_)
  rw [dif_pos hj]
  obtain ⟨a, b, m, c, d, e1, e2, r1, r2, _⟩ := (h j hj).choose_spec
  exact ⟨⟨a, m, c, e1, r1⟩, ⟨b, m, d, e2, r2⟩⟩
theorem putVecsk_any (B g : Nat) (va : Option Addr) (n cv : Nat) (vs : Nat → Value) (xs : Nat → List Int) (w : World) (hn : n ≤ 250) (hc4 : w.cell? ⟨g, 4, none⟩ = some (.slice va n cv)) (hv : LA w va n vs)
    (h : ∀ j, j < n → w.ownsRow B 3 1 (vs j) (xs j).length ((xs j).map (Value.int .i64)) ∧ (xs j).length ≤ 100000) (hap : ∀ i j, i < n → j < n → i ≠ j → (vs i).ownBlock = none ∨ (vs i).ownBlock ≠ (vs j).ownBlock)
    (hg : ¬ SBk n vs g) (hva : ∀ b off, va = some ⟨b, off, none⟩ → ¬ SBk n vs b) :
    Calls Tryz.prog 76 #[.pointer (some ⟨g, 0, none⟩)] w fun e w' => e = .returned (.tuple #[]) ∧ Fr (SBk n vs) w w' ∧ ∀ j, j < n → w'.ownsRow B 3 1 (vs j) (xs j).length (mkV.row j 0 (xs j).length) := by
  refine (putVecs_any B g va n cv vs xs w hn hc4 hv h hap hg hva).mono ?_
  rintro e w' ⟨rfl, hf, ho⟩
  refine ⟨rfl, hf, fun j hj => ?_⟩
  have := ho j hj
  unfold OI at this
  rwa [markL_len, markV_cells] at this
theorem growVecsk_any (B g : Nat) (va : Option Addr) (n cv : Nat) (vs : Nat → Value) (ms : Nat → Nat) (w : World) (hn : n ≤ 250) (hB : B ≤ w.heap.size) (hc4 : w.cell? ⟨g, 4, none⟩ = some (.slice va n cv)) (hv : LA w va n vs)
    (h : ∀ j, j < n → w.ownsRow B 3 1 (vs j) (ms j) (mkV.row j 0 (ms j)) ∧ ms j ≤ 50000) (hap : ∀ i j, i < n → j < n → i ≠ j → (vs i).ownBlock = none ∨ (vs i).ownBlock ≠ (vs j).ownBlock)
    (hg : ¬ SBk n vs g) (hva : ∀ b off, va = some ⟨b, off, none⟩ → ¬ SBk n vs b) :
    Calls Tryz.prog 86 #[.pointer (some ⟨g, 0, none⟩)] w fun e w' => ∃ out gs, e = .returned out ∧ GRk 3 22 mkV B n vs ms w w' n out gs := by
  refine (growVecs_any B g va n cv vs ms w hn hB hc4 hv (fun j hj => ⟨by unfold OI; rw [markL_len, markV_cells]; exact (h j hj).1, (h j hj).2⟩) hap hg hva).mono ?_
  rintro e w' ⟨out, gs, rfl, hr⟩
  refine ⟨out, gs, rfl, ⟨hr.fr, hr.row, fun j hj => ?_, fun j hj => ?_, hr.apg⟩⟩
  · have := hr.ogs j hj
    unfold OI at this
    rwa [markL_len, markV_cells] at this
  · have := hr.ovs j hj
    unfold OI at this
    rwa [markL_len, markV_cells] at this
theorem markedVecsk_any (la : Option Addr) (n lc : Nat) (vs : Nat → Value) (ms : Nat → Nat) (B : Nat) (w : World) (hn : n ≤ 250) (hv : LA w la n vs) (h : ∀ j, j < n → w.ownsRow B 3 1 (vs j) (ms j) (mkV.row j 0 (ms j)) ∧ ms j ≤ 100000) :
    Calls Tryz.prog 101 #[.slice la n lc] w fun e w' => e = .returned (.bool true) ∧ Bl w w' := by
  refine markedVecs_any la n lc vs ms w hn hv (fun j hj => ⟨?_, (h j hj).2⟩)
  have ho : OI B w (vs j) (markL j 0 (ms j)) := by unfold OI; rw [markL_len, markV_cells]; exact (h j hj).1
  exact ho.si (by rw [markL_len]; have := (h j hj).2; omega) (markL_wf (by omega) (by have := (h j hj).2; omega))
theorem el_rowsV : EL 31 22 1 24 := el_rows
theorem copyVecsk_any (a : Option Addr) (n c : Nat) (xs : List Int) (w : World) (hx : IA w a n xs) :
    Calls Tryz.prog 181 #[.slice a n c] w fun e w' => ∃ v, e = .returned v ∧ w'.ownsRow w.heap.size 3 1 v n (xs.map (Value.int .i64)) ∧ Bl w w' := by
  refine (copyVecs_any a n c xs w hx).mono ?_
  rintro e w' ⟨v, rfl, hf, hb⟩
  have := hf.own
  unfold OI at this
  rw [hx.len] at this
  exact ⟨v, rfl, this, hb⟩
end Go.Proofs.YtfmabjoindlfeaaGreat
end

/- bedrockbook.Book.Vecs: one more list is kept. By an AI agent. -/
section
set_option linter.unusedVariables false
namespace Go.Proofs.YtfmabjoindlfeaaGreat
open Go.RowKit
attribute [local go_sem] eOp eOper eUpon pOp pOper pUpon

/-- the copy reads as the list -/
def CpV (ps : List (Int)) (u : Value) (W : World) (D : Nat → Prop) : Prop := ∃ a n c, u = .slice a n c ∧ IA W a n ps ∧ ∀ x off, a = some ⟨x, off, none⟩ → 0 < n → D x
set_option maxHeartbeats 2000000 in
set_option maxRecDepth 100000 in
theorem regVecs_any (B g n : Nat) (hs : List Value) (vv wv : Value) (vcs ucs : List Value) (a : Option Addr) (nv c : Nat) (ps : List (Int)) (w : World) (hn : n < 250) (hB : B ≤ w.heap.size) (hbox : AC w g hs) (hhl : hs.length = 30) (h4 : hs[4]? = some vv) (h5 : hs[5]? = some wv)
    (hv : w.ownsRow B 22 1 vv n vcs) (hu : w.ownsRow B 22 1 wv n ucs) (hgv : vv.ownBlock ≠ some g) (hgu : wv.ownBlock ≠ some g) (hvu : wv.ownBlock = none ∨ wv.ownBlock ≠ vv.ownBlock) (hx : IA w a nv ps) (hnv : nv ≤ 1000000)
    (hxg : ∀ b off, a = some ⟨b, off, none⟩ → 0 < nv → ¬ (b = g ∨ vv.ownBlock = some b ∨ wv.ownBlock = some b)) :
    Calls Tryz.prog 134 #[.pointer (some ⟨g, 0, none⟩), .slice a nv c] w fun e w' => e = .returned (.tuple #[]) ∧ ∃ vv' wv' u Dn, RPk 22 4 B (CpV ps) w w' g n hs vv wv vcs ucs (.slice a nv c) vv' wv' u Dn := by
  obtain ⟨va, cv, rfl⟩ := row_shape' hv
  have HBX := Lib.hid hbox
  have HU := Lib.hid hu
  have HV := Lib.hid hv
  have HX := Lib.hid hx
  have HXG := Lib.hid hxg
  have HGV := Lib.hid hgv
  have HGU := Lib.hid hgu
  have HVU := Lib.hid hvu
  have HH4 := Lib.hid h4
  have HH5 := Lib.hid h5
  have HHL := Lib.hid hhl
  have hgl := hbox.lt
  clear hu hv hx hxg hgv hgu hvu hbox h4 h5 hhl
  have c4 := HBX.out.at_ HH4.out
  have hn1 : decide ((n : Int) < 250) = true := decide_eq_true (by omega)
  have hn2 : decide (n < 250) = true := decide_eq_true hn
  go_enter Tryz.func134, Tryz.ntmps134
  have hbA := (Bl.refl w).alloc (.cells #[.slice a nv c] 22)
  have hlit : (w.alloc (.cells #[.slice a nv c] 22)).heap[w.heap.size]? = some (.cells [.slice a nv c].toArray 22 (0, 0)) := heap_alloc_new w _
  have HLT := Lib.hid (SG.lit (size := 1) hlit rfl (by intro u hu; simp at hu; subst hu; rfl))
  have hva := ownsRow_bl HV.out hbA
  have HBA := Lib.hid hbA
  clear hlit hbA
  go_wp2_with (at_builtin; refine wpList_appK rfl _ _ _ rfl el_rowsV B _ _ _ rfl hva ?cB (some ⟨w.heap.size, 0, none⟩) 1 1 _ rfl HLT.out ?cM ?cN ?_)
  case cB => simp; omega
  case cM => unfold maxLen; omega
  case cN => omega
  intro vv' w1 ho hg _ hb
  obtain ⟨va', cv', rfl⟩ := row_shape' ho
  have hfr : Fr (fun b => b = g ∨ (Value.slice va n cv).ownBlock = some b ∨ wv.ownBlock = some b) w w1 := ((Fr.refl _ w).bl HBA.out).grown hg (fun i e => .inr (.inl e))
  have hbx : AC w1 g hs := by
    have h1 := HBX.out.keep HBA.out
    obtain ⟨t, h2⟩ := h1
    exact ⟨t, by rw [hg.block g (lt_of_heap h2) (fun e => HGV.out e.symm)]; exact h2⟩
  have hu1 : w1.ownsRow B 22 1 wv n ucs := World.ownsRow.kept (ownsRow_bl HU.out HBA.out) hg HVU.out
  have c4' := hbx.at_ HH4.out
  have f4 := hbx.frozen 4
  have HFR := Lib.hid hfr
  have HB1 := Lib.hid hbx
  have HU1 := Lib.hid hu1
  have HO := Lib.hid ho
  have HBV := Lib.hid hb
  have HSZ := Lib.hid (show w.heap.size < w1.heap.size from by have := hg.size; simp at this; omega)
  clear c4 ho hg hb hfr hbx hu1 hva hn1 hn2 hgl
  go_upto_region 2 with fail
  have HFR2 := Lib.hid (HFR.out.grown (grown_set' w1 g 4 (.slice va' (n + 1) cv')) (fun i e => .inl (Option.some.inj e).symm))
  have HB2 := Lib.hid (HB1.out.setc 4 (.slice va' (n + 1) cv'))
  have hvg : (Value.slice va' (n + 1) cv').ownBlock ≠ some g := fun e => by
    rcases HBV.out g e with q | q
    · exact HGV.out q
    · have := HBX.out.lt; have := HBA.out.size; omega
  have HVG := Lib.hid hvg
  have HO2 := Lib.hid (World.ownsRow.kept HO.out (grown_set' w1 g 4 (.slice va' (n + 1) cv')) (.inr hvg))
  have HU2 := Lib.hid (World.ownsRow.kept HU1.out (grown_set' w1 g 4 (.slice va' (n + 1) cv')) (.inr HGU.out))
  have HX2 := Lib.hid (HX.out.fr HFR2.out HXG.out)
  have hsz2 : w.heap.size < (w1.setCell ⟨g, 4, none⟩ (.slice va' (n + 1) cv')).heap.size := by simp; exact HSZ.out
  have HSZ2 := Lib.hid hsz2
  obtain ⟨hs2, hhs2⟩ : ∃ x, hs.set 4 (.slice va' (n + 1) cv') = x := ⟨_, rfl⟩
  rw [hhs2] at HB2
  obtain ⟨ua, cu, hwv⟩ := row_shape' HU2.out
  subst hwv
  have H25 := Lib.hid (show hs2[5]? = some (.slice ua n cu) by rw [← hhs2, List.getElem?_set_ne (by decide)]; exact HH5.out)
  have HHS2 := Lib.hid hhs2
  clear hvg hsz2 f4 c4' HFR HB1 HO HU1 HLT hhs2
  generalize w1.setCell _ _ = w2 at *
  refine wp_region_panicsT [0, 1, 2, 3, 4, 5] 6 (HasBox g hs2) HasBox.keep (HB2.out.keep ((Bl.refl w2).drew)) [11] (fun c W' => False) ?hR (by kernel_rfl) rfl (by kernel_rfl) (by kernel_rfl) (by kernel_rfl) ?_
  case hR => intro c tt W' h; exact h.elim
  have HBZ := Lib.hid ((Bl.refl w2).drew)
  generalize w2.drew = Z at *
  have HBXZ := Lib.hid (HB2.out.keep HBZ.out)
  haveI : Nonempty (ExtC (HasBox g hs2)) := ⟨⟨Z, HBXZ.out⟩⟩
  have d5 : ∀ q : ExtC (HasBox g hs2), _ := fun q => AC.at_ q.ok H25.out
  repeat (refine wpI_step rfl (fun K hK => ?_); go_simp; first | (refine hK _ ?_; clear hK K) | (apply Exists.intro; refine ⟨fun q => ?_, hK _ ?_⟩; fail; clear hK K))
  refine wpI_nil ?_
  clear d5 this
  refine wpAnyP_one (i := 6) (by kernel_rfl) ?_
  intro Y1 hy1
  have HY1 := Lib.hid (HBZ.out.trans hy1)
  clear hy1
  go_simp
  refine (copyVecsk_any a nv c ps Y1 (HX2.out.keep HY1.out)).mono ?_
  rintro e Y2 ⟨u, rfl, hfi, hb2⟩
  have HY2 := Lib.hid (HY1.out.trans hb2)
  have HFI := Lib.hid hfi
  have hszA := HY1.out.size
  obtain ⟨a5, c5, hu5⟩ := row_shape' hfi
  subst hu5
  clear hb2 hfi
  go_simp
  refine ⟨HB2.out.keep HY2.out, ?_⟩
  refine wpAnyP_one (i := 7) (by kernel_rfl) ?_
  intro Y3 hy3
  go_simp
  have hbl := hy3.alloc (.cells #[.slice a5 nv c5] 22)
  have hlit : (Y3.alloc (.cells #[.slice a5 nv c5] 22)).heap[Y3.heap.size]? = some (.cells [.slice a5 nv c5].toArray 22 (0, 0)) := heap_alloc_new Y3 _
  have HLT := Lib.hid (SG.lit (size := 1) hlit rfl (by intro u hu; simp at hu; subst hu; rfl))
  have HY3 := Lib.hid (HY2.out.trans hbl)
  have HFI3 := Lib.hid (ownsRow_bl HFI.out hbl)
  refine ⟨HB2.out.keep HY3.out, ?_⟩
  clear hlit hbl hy3 HFI HY2
  generalize Y3.alloc _ = Y4 at *
  generalize Y3.heap.size = gl at *
  refine wpAnyP_one (i := 8) (by kernel_rfl) ?_
  intro Y5 hy5
  have HY5 := Lib.hid (HY3.out.trans hy5)
  have HFI5 := Lib.hid (ownsRow_bl HFI3.out hy5)
  have HL5 := Lib.hid (HLT.out.keep hy5)
  have HU5 := Lib.hid (ownsRow_bl HU2.out HY5.out)
  have HB5 := Lib.hid (HB2.out.keep HY5.out)
  have HO5 := Lib.hid (ownsRow_bl HO2.out HY5.out)
  have hsz5 := HY5.out.size
  clear hy5 HFI3 HLT HY3
  refine pOp_appk rfl rfl _ _ _ rfl el_rowsV B (.slice ua n cu) n ucs rfl HU5.out (by have := HSZ2.out; omega) (some ⟨gl, 0, none⟩) 1 1 _ rfl HL5.out (by unfold maxLen; omega) (by omega) ?_
  intro wv' Y6 ho6 hg6 hb6
  have hul : ∀ b, (Value.slice ua n cu).ownBlock = some b → b < w.heap.size := fun b e => (World.ownsRow.lt HU.out b e).2
  have hvu' : (Value.slice va' (n + 1) cv').ownBlock = none ∨ (Value.slice va' (n + 1) cv').ownBlock ≠ (Value.slice ua n cu).ownBlock := by
    cases e : (Value.slice va' (n + 1) cv').ownBlock with
    | none => exact .inl rfl
    | some b =>
      refine .inr (fun e2 => ?_)
      rcases HBV.out b e with q | q
      · rcases HVU.out with r | r
        · rw [r] at e2; cases e2
        · exact r (e2.symm.trans q.symm)
      · have := hul b e2.symm; omega
  have hbx6 : AC Y6 g hs2 := by
    obtain ⟨t, h2⟩ := HB5.out
    exact ⟨t, by rw [hg6.block g (lt_of_heap h2) (fun e => HGU.out e.symm)]; exact h2⟩
  have hfo6 : Y6.ownsRow Y1.heap.size 3 1 (.slice a5 nv c5) nv (ps.map (Value.int .i64)) := World.ownsRow.kept HFI5.out hg6 (by
    cases e : (Value.slice a5 nv c5).ownBlock with
    | none => exact .inl rfl
    | some b => exact .inr (fun e2 => by have := hul b e2.symm; have := (World.ownsRow.lt HFI5.out b e).1; have := HSZ2.out; omega))
  have HFI6 := Lib.hid hfo6
  have HO6 := Lib.hid (World.ownsRow.kept HO5.out hg6 hvu')
  have HB6 := Lib.hid hbx6
  have HW6 := Lib.hid ho6
  have HFR6 := Lib.hid ((HFR2.out.bl HY5.out).grown hg6 (fun i e => .inr (.inr e)))
  have HBU := Lib.hid (fun b (e : wv'.ownBlock = some b) => (hb6 b e).imp_right (fun q => Nat.le_trans (Nat.le_of_lt HSZ2.out) (Nat.le_trans hsz5 q)))
  have hau : ∀ b, (Value.slice a5 nv c5).ownBlock = some b → w2.heap.size ≤ b ∧ b < Y5.heap.size := fun b e => by
    have h1 := World.ownsRow.lt HFI5.out b e
    exact ⟨Nat.le_trans hszA h1.1, h1.2⟩
  have HAU : Hid (∀ b, (Value.slice a5 nv c5).ownBlock = some b → wv'.ownBlock ≠ some b) := Lib.hid (fun b e e2 => by
    have h1 := hau b e
    rcases hb6 b e2 with q | q
    · have := hul b q; have := HSZ2.out; omega
    · omega)
  have HAV : Hid (∀ b, (Value.slice a5 nv c5).ownBlock = some b → (Value.slice va' (n + 1) cv').ownBlock ≠ some b) := Lib.hid (fun b e e2 => by
    have h1 := hau b e
    have := (World.ownsRow.lt HO2.out b e2).2
    omega)
  have HAVU : Hid (wv'.ownBlock = none ∨ wv'.ownBlock ≠ (Value.slice va' (n + 1) cv').ownBlock) := Lib.hid (by
    cases e : wv'.ownBlock with
    | none => exact .inl rfl
    | some b =>
      refine .inr (fun e2 => ?_)
      rcases hb6 b e with q | q
      · rcases hvu' with r | r
        · rw [r] at e2; cases e2
        · exact r (e2.symm.trans q.symm)
      · have := (World.ownsRow.lt HO2.out b e2.symm).2; omega)
  have hwg : wv'.ownBlock ≠ some g := fun e => by
    rcases hb6 g e with q | q
    · exact HGU.out q
    · have := HBX.out.lt; have := HSZ2.out; omega
  have HWG := Lib.hid hwg
  refine ⟨fun _ => hbx6, ?_⟩
  simp only [Act.put, List.setIfInBounds_toArray]
  obtain ⟨wa, wc, hws⟩ := row_shape' ho6
  subst hws
  clear ho6 hg6 hb6 hul hvu' hbx6 hfo6 hau hwg HB5 HO5 HU5 HFI5 HL5 HY5 hsz5 HFR2 HO2 HU2 HX2 HB2
  refine wpAnyP_one (i := 9) (by kernel_rfl) ?_
  intro Y7 hy7
  go_simp
  refine ⟨HB6.out.keep hy7, ?_⟩
  refine wpAnyP_one (i := 10) (by kernel_rfl) ?_
  intro Y8 hy8
  go_simp
  refine ⟨HB6.out.keep (hy7.trans hy8), ?_⟩
  refine wpAnyP_one (i := 11) (by kernel_rfl) ?_
  intro Y9 hy9
  have HY9 := Lib.hid ((hy7.trans hy8).trans hy9)
  clear hy7 hy8 hy9
  have HB9 := Lib.hid (HB6.out.keep HY9.out)
  have c5' := HB9.out.at_ H25.out
  have f5' := HB9.out.frozen 5
  have HB10 := Lib.hid (HB9.out.setc 5 (.slice wa (n + 1) wc))
  have hgs := grown_set' Y9 g 5 (.slice wa (n + 1) wc)
  have HO10 := Lib.hid (World.ownsRow.kept (ownsRow_bl HO6.out HY9.out) hgs (.inr HVG.out))
  have HW10 := Lib.hid (World.ownsRow.kept (ownsRow_bl HW6.out HY9.out) hgs (.inr HWG.out))
  have hug : (Value.slice a5 nv c5).ownBlock ≠ some g := fun e => by
    have h1 := (World.ownsRow.lt HFI6.out g e).1
    have h2 := HBX.out.lt
    have h3 := HSZ2.out
    omega
  have HF10 := Lib.hid (World.ownsRow.kept (ownsRow_bl HFI6.out HY9.out) hgs (.inr hug))
  have HFR10 := Lib.hid ((HFR6.out.bl HY9.out).grown hgs (fun i e => .inl (Option.some.inj e).symm))
  clear hgs hug HO6 HW6 HFI6 HFR6 HB6 HB9 HY9
  go_simp
  clear c5' f5'
  generalize World.setCell _ _ _ = Y10 at *
  refine wpAnyP_done (by kernel_rfl) ?_
  intro Y11 hy11
  have HY := Lib.hid hy11
  clear hy11
  go_wp2_with fail
  go_end0
  have ho11 := ownsRow_bl HF10.out HY.out
  refine ⟨rfl, _, _, _, fun b => (Value.slice a5 nv c5).ownBlock = some b, ?_, ownsRow_bl HO10.out HY.out, ownsRow_bl HW10.out HY.out, ⟨a5, nv, c5, rfl, IA.ofOwn ho11 HX.out.len hnv HX.out.wf, fun x off e hp => ?_⟩, fun b e => ⟨(World.ownsRow.lt ho11 b e).2, ?_, HAV.out b e, HAU.out b e⟩, HFR10.out.bl HY.out, fun b e => (HBV.out b e).imp_right (fun q => by have := HBA.out.size; omega), HBU.out, HAVU.out⟩
  · rw [HHS2.out]; exact HB10.out.keep HY.out
  · obtain ⟨_, ⟨e3, h2⟩ | ⟨gi, cap, cur, e3, _⟩⟩ := ho11
    · cases e3; omega
    · simp only [Value.slice.injEq] at e3; rw [e3.1] at e ⊢; cases e; rfl
  · have h1 := (World.ownsRow.lt ho11 b e).1
    have h3 := HSZ2.out
    omega
theorem fullVecs_any (g : Nat) (hs : List Value) (va : Option Addr) (cv : Nat) (v : Value) (w : World) (hbox : AC w g hs) (h4 : hs[4]? = some (.slice va 250 cv)) :
    Calls Tryz.prog 134 #[.pointer (some ⟨g, 0, none⟩), v] w fun e w' => e = .returned (.tuple #[]) ∧ w = w' := by
  have c4 := hbox.at_ h4
  clear hbox h4
  go_enter Tryz.func134, Tryz.ntmps134
  go_wp2_with fail
  go_end0
  exact ⟨rfl, rfl⟩
end Go.Proofs.YtfmabjoindlfeaaGreat
end
