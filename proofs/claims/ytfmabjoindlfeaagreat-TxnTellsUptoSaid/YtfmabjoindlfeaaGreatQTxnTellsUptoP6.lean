import Derived.Test.YtfmabjoindlfeaaGreatQTxnTellsUptoP5
import Derived.Test.YtfmabjoindlfeaaGreatQTxnTellsUptoP3
import Derived.Test.YtfmabjoindlfeaaGreatQTxnTellsUptoP1
import Derived.Deep.QuietTactic
import Derived.BigQuiet

/- a list more in a book: what the call leaves, in plain words. By an AI agent. -/
section
set_option linter.unusedVariables false
namespace Go.Proofs.YtfmabjoindlfeaaGreat
open Go.RowKit

theorem grown_set' (w : World) (g j : Nat) (u : Value) : w.grownBy (w.setCell ⟨g, j, none⟩ u) (some g) := ⟨rfl, rfl, rfl, by simp, fun k hk hne => Below.heap_setCell _ _ _ _ (fun e => hne (by rw [e]))⟩
theorem AC.setc {w : World} {g : Nat} {cs : List Value} (h : AC w g cs) (j : Nat) (v : Value) : AC (w.setCell ⟨g, j, none⟩ v) g (cs.set j v) := by
  obtain ⟨t, h⟩ := h
  exact ⟨t, by rw [heap_setCell_same w g j _ t v h]; simp⟩
theorem AC.at_ {w : World} {g : Nat} {cs : List Value} (h : AC w g cs) {j : Nat} {v : Value} (hj : cs[j]? = some v) : w.cell? ⟨g, j, none⟩ = some v := h.cell j v hj
theorem pOp_appk {ops : Array Oper} {R : List PanicEntry → World → Prop} {i : Nat} {o : Oper} {a : Act} {w : World} {K : Act → World → Prop} (ho' : ops[i]? = some o) (hgd : o.guard = none) (s x : Operand) (T : TypeId)
    (ho : o.op = .call { callee := .builtin .append, args := #[s, x], argTypes := #[T, T] }) {E : TypeId} {size bytes : Nat} (hT : EL T E size bytes) (B : Nat) (v : Value) (n : Nat) (xs : List Value) (hs : a.eval s = v) (hown : w.ownsRow B E size v n xs) (hB : B ≤ w.heap.size)
    (ad : Option Addr) (m c : Nat) (news : List Value) (hx : a.eval x = .slice ad m c) (hsc : SG w size ad m news) (h63 : n + m ≤ maxLen) (hbytes : (n + m) * bytes ≤ 140737488355328)
    (h : ∀ v' w', w'.ownsRow B E size v' (n + m) (xs ++ news) → w.grownBy w' v.ownBlock → (∀ b, v'.ownBlock = some b → v.ownBlock = some b ∨ w.heap.size ≤ b) → K (a.put o.dst v') w') : pOp Tryz.prog R ops i K a w := by
  obtain ⟨v', w', hr, h2, h3, h4, h5⟩ := run_appK hT o.type v n xs hown ad m c news hsc h63 hbytes hB
  unfold pOp
  simp only [ho']
  rw [if_pos (by simp [Region.wanted, hgd])]
  unfold pOper execOp
  simp only [ho, resolve, invoke, builtin, Sem.run_bind, Sem.run_pure, Result.andThen_ok, List.map_toArray, List.map_cons, List.map_nil, hs, hx, hr, pUpon]
  exact h v' w' h2 h3 h5
/-- what a call that keeps one more list leaves -/
structure RPk (L p B : Nat) (R : Value → World → (Nat → Prop) → Prop) (w W : World) (g n : Nat) (hs : List Value) (vv wv : Value) (vcs ucs : List Value) (v vv' wv' u : Value) (Dn : Nat → Prop) : Prop where
  box : AC W g ((hs.set p vv').set (p + 1) wv')
  rv : W.ownsRow B L 1 vv' (n + 1) (vcs ++ [v])
  ru : W.ownsRow B L 1 wv' (n + 1) (ucs ++ [u])
  rd : R u W Dn
  dn : ∀ b, Dn b → b < W.heap.size ∧ w.heap.size ≤ b ∧ vv'.ownBlock ≠ some b ∧ wv'.ownBlock ≠ some b
  fr : Fr (fun b => b = g ∨ vv.ownBlock = some b ∨ wv.ownBlock = some b) w W
  bv : ∀ b, vv'.ownBlock = some b → vv.ownBlock = some b ∨ w.heap.size ≤ b
  bu : ∀ b, wv'.ownBlock = some b → wv.ownBlock = some b ∨ w.heap.size ≤ b
  avu : wv'.ownBlock = none ∨ wv'.ownBlock ≠ vv'.ownBlock
end Go.Proofs.YtfmabjoindlfeaaGreat
end

/- a book of several kinds: from what a call leaves to the state of the book; rows that have grown. By an AI agent. -/
section
set_option linter.unusedVariables false
namespace Go.Proofs.YtfmabjoindlfeaaGreat
open Go.RowKit

section
variable {k : BKd} {B : Nat} {w W : World} {g : Nat} {n : Nat → Nat} {vv wv : Nat → Value} {vs us : Nat → Nat → Value} {ln : Nat → Nat → Nat} {cs : Nat → Nat → List Value} {D : Nat → Nat → Nat → Prop} {T : Nat → Prop}
theorem BookX.vpk {p : Nat} {R : Value → World → (Nat → Prop) → Prop} {v vv' wv' u : Value} {Dn Dv : Nat → Prop} (h : BookX k B w g n vv wv vs us ln cs D T)
    (P : RPk (k.L p) p B R w W g (n p) (hsOf vv wv) (vv p) (wv p) ((List.range (n p)).map (vs p)) ((List.range (n p)).map (us p)) v vv' wv' u Dn)
    (hp : ((hsOf vv wv).set p vv').set (p + 1) wv' = hsOf (upd vv p vv') (upd wv p wv')) (hD : ∀ b, Dv b → b < w.heap.size ∧ ¬ BSt g vv wv b) (hQ : R u W Dn → k.Q p v u W (fun b => Dn b ∨ Dv b)) :
    VPk k B w W g (n p) p vv wv vs us v vv' wv' u Dv (fun b => Dn b ∨ Dv b) := by
  refine ⟨by rw [← hp]; exact P.box, P.rv, P.ru, hQ P.rd, fun b hb => ?_, P.fr, P.bv, P.bu, P.avu⟩
  rcases hb with hb | hb
  · obtain ⟨d1, d2, d3, d4⟩ := P.dn b hb
    exact ⟨d1, .inr d2, d3, d4⟩
  · obtain ⟨e1, e2⟩ := hD b hb
    refine ⟨Nat.lt_of_lt_of_le e1 P.fr.size, .inl hb, fun e => ?_, fun e => ?_⟩
    · rcases P.bv b e with q | q
      · exact e2 (.inr ⟨p, .inl q⟩)
      · omega
    · rcases P.bu b e with q | q
      · exact e2 (.inr ⟨p, .inr q⟩)
      · omega
theorem BookX.bq (h : BookX k B w g n vv wv vs us ln cs D T) : BQ k B w g T := ⟨n, vv, wv, vs, us, ln, cs, D, h⟩
end
theorem Fr.wider {S S' : Nat → Prop} {w w' : World} (h : Fr S w w') (hs : ∀ b, S b → S' b) : Fr S' w w' := ⟨h.os, h.tape, h.output, h.size, fun k hk q => h.block k hk (fun q2 => q (hs k q2))⟩
/-! ### rows that have grown -/
structure GRs (E L : Nat) (m : MK) (B b0 n : Nat) (vs : Nat → Value) (ms : Nat → Nat) (W : World) (out : Value) (gs : Nat → Value) : Prop where
  row : W.ownsRow b0 L 1 out n ((List.range n).map gs)
  ogs : ∀ j, j < n → W.ownsRow B E m.z (gs j) (ms j + 72) (m.row j 0 (ms j + 72))
  ovs : ∀ j, j < n → W.ownsRow B E m.z (vs j) (ms j) (m.row j 0 (ms j))
  apg : ∀ j, j < n → ∀ b, (gs j).ownBlock = some b → (vs j).ownBlock = some b ∨ b0 ≤ b
section
variable {E L : Nat} {m : MK} {B b0 n : Nat} {vs : Nat → Value} {ms : Nat → Nat} {W W' : World} {out : Value} {gs : Nat → Value}
theorem GRk.grs {w : World} (h : GRk E L m B n vs ms w W n out gs) : GRs E L m B w.heap.size n vs ms W out gs := ⟨h.row, h.ogs, h.ovs, fun j hj b e => (h.apg j hj b e).imp_right (fun q => q.1)⟩
theorem GRs.fr {S : Nat → Prop} (h : GRs E L m B b0 n vs ms W out gs) (hf : Fr S W W') (h1 : ∀ b, S b → b < b0) (h2 : ∀ j, j < n → ∀ b, (vs j).ownBlock = some b → ¬ S b) : GRs E L m B b0 n vs ms W' out gs := by
  refine ⟨hf.own h.row (fun b e hs => ?_), fun j hj => hf.own (h.ogs j hj) (fun b e hs => ?_), fun j hj => hf.own (h.ovs j hj) (h2 j hj), h.apg⟩
  · have := (World.ownsRow.lt h.row b e).1
    have := h1 b hs; omega
  · rcases h.apg j hj b e with q | q
    · exact h2 j hj b q hs
    · have := h1 b hs; omega
theorem GRs.keep (h : GRs E L m B b0 n vs ms W out gs) (hb : Bl W W') : GRs E L m B b0 n vs ms W' out gs := ⟨ownsRow_bl h.row hb, fun j hj => ownsRow_bl (h.ogs j hj) hb, fun j hj => ownsRow_bl (h.ovs j hj) hb, h.apg⟩
end
/-- own rows of a kind, in a world -/
def OWk (B E z n : Nat) (vs : Nat → Value) (ln : Nat → Nat) (cs : Nat → List Value) (W : World) : Prop := ∀ j, j < n → W.ownsRow B E z (vs j) (ln j) (cs j)
theorem OWk.fr {B E z n : Nat} {vs : Nat → Value} {ln : Nat → Nat} {cs : Nat → List Value} {W W' : World} {S : Nat → Prop} (h : OWk B E z n vs ln cs W) (hf : Fr S W W') (h2 : ∀ b, SBk n vs b → ¬ S b) : OWk B E z n vs ln cs W' := fun j hj => hf.own (h j hj) (fun b e => h2 b ⟨j, hj, e⟩)
theorem OWk.keep {B E z n : Nat} {vs : Nat → Value} {ln : Nat → Nat} {cs : Nat → List Value} {W W' : World} (h : OWk B E z n vs ln cs W) (hb : Bl W W') : OWk B E z n vs ln cs W' := fun j hj => ownsRow_bl (h j hj) hb
section
variable {k : BKd} {B : Nat} {w : World} {g : Nat} {n : Nat → Nat} {vv wv : Nat → Value} {vs us : Nat → Nat → Value} {ln : Nat → Nat → Nat} {cs : Nat → Nat → List Value} {D : Nat → Nat → Nat → Prop} {T : Nat → Prop}
/-- what of a book's state says which blocks lie apart -/
theorem BookX.sb_g (h : BookX k B w g n vv wv vs us ln cs D T) {p : Nat} (hp : p ∈ k.K) : ¬ SBk (n p) (vs p) g := fun ⟨j, hj, e⟩ => h.vap p hp j hj g e (.inl rfl)
theorem BookX.sb_row (h : BookX k B w g n vv wv vs us ln cs D T) {p q : Nat} (hp : p ∈ k.K) {b : Nat} (e : (vv q).ownBlock = some b) : ¬ SBk (n p) (vs p) b := fun ⟨j, hj, e2⟩ => h.vap p hp j hj b e2 (.inr ⟨q, .inl e⟩)
theorem BookX.sb_sb (h : BookX k B w g n vv wv vs us ln cs D T) {p q : Nat} (hp : p ∈ k.K) (hq : q ∈ k.K) (hpq : p ≠ q) {b : Nat} (hb : SBk (n q) (vs q) b) : ¬ SBk (n p) (vs p) b := fun ⟨j, hj, e2⟩ => by
  obtain ⟨i, hi, e1⟩ := hb
  rcases h.avv p q hp hq j i hj hi (.inl hpq) with s | s
  · rw [s] at e2; cases e2
  · exact s (e2.trans e1.symm)
theorem BookX.sb_lt (h : BookX k B w g n vv wv vs us ln cs D T) {p : Nat} (hp : p ∈ k.K) {b : Nat} (hb : SBk (n p) (vs p) b) : b < w.heap.size ∧ B ≤ b ∧ ¬ T b := by
  obtain ⟨j, hj, e⟩ := hb
  have := World.ownsRow.lt (h.own p hp j hj) b e
  exact ⟨this.2, this.1, fun t => (h.t b t).2.2 p hp j hj e⟩
theorem BookX.ap (h : BookX k B w g n vv wv vs us ln cs D T) {p : Nat} (hp : p ∈ k.K) : ∀ i j, i < n p → j < n p → i ≠ j → (vs p i).ownBlock = none ∨ (vs p i).ownBlock ≠ (vs p j).ownBlock := fun i j hi hj hij => h.avv p p hp hp i j hi hj (.inr hij)
end
end Go.Proofs.YtfmabjoindlfeaaGreat
end

/- bedrockref3: Leq, Same, Valid. By an AI agent. -/
section
namespace Go.Proofs.YtfmabjoindlfeaaGreat
open Go.RowKit

set_option maxHeartbeats 400000 in
theorem rleq_any (a b : Option Addr) (n m ca cb : Nat) (xs ys : List Int) (w : World) (hx : IA w a n xs) (hy : IA w b m ys) :
    Calls Tryz.prog 127 #[.slice a n ca, .slice b m cb] w fun e w' => e = .returned (.bool (leqL xs ys)) ∧ Bl w w' := by
  have hx1 := hx.cap
  have hy1 := hy.cap
  by_cases hl : n = m
  · subst hl
    have HLL := Lib.hid (hx.len.trans hy.len.symm)
    have HX := Lib.hid hx.len
    have h2 : ((n : Int) != (n : Int)) = false := by simp
    go_enter Tryz.func127, Tryz.ntmps127
    go_wp2
    go_loopw [5] (fun i wr => ∃ k : Nat, k ≤ n ∧ i = .int .i64 k ∧ Bl w wr ∧ ∀ j, j < k → nth xs j ≤ nth ys j) (fun i _ => n - (intOf i).toNat)
    case atStart => exact ⟨0, Nat.zero_le _, rfl, Bl.refl _, fun j h => by omega⟩
    case round =>
      obtain ⟨k, hk, rfl, hbl, hle⟩ := hrel
      have HLE := Lib.hid hle; clear hle
      by_cases hlt : k < n
      · obtain ⟨ba, oa, rfl, hca⟩ := hx.cells k hlt
        obtain ⟨bb, ob, rfl, hcb⟩ := hy.cells k hlt
        have ha := hbl.cell (hca k hlt)
        have hb := hbl.cell (hcb k hlt)
        clear hca hcb
        by_cases hgt : nth ys k < nth xs k
        · have HR := Lib.hid (leqL_false HLL.out (by rw [HX.out]; exact hlt) hgt)
          go_wp2
          go_quiet (fail)
          go_wp2
          go_ret
          exact ⟨ret_bool HR.out.symm, hbl.drewN _⟩
        · go_wp2
          go_quiet (fail)
          go_wp2
          go_roundw
          case rel => exact ⟨k + 1, by omega, by go_num, hbl.drewN _, fun j hj => by
            by_cases e : j = k
            · subst e; omega
            · exact HLE.out j (by omega)⟩
          case measure => simp [intOf]; omega
      · have HR := Lib.hid ((leqL_iff HLL.out).2 (fun j hj => HLE.out j (by rw [HX.out] at hj; omega)))
        go_wp2
        go_ret
        exact ⟨ret_bool HR.out.symm, hbl⟩
  · have h2 : ((n : Int) != (m : Int)) = true := by simp; omega
    have HR := Lib.hid (leqL_len (xs := xs) (ys := ys) (by rw [hx.len, hy.len]; exact hl))
    go_enter Tryz.func127, Tryz.ntmps127
    go_wp2
    go_ret
    exact ⟨ret_bool HR.out.symm, Bl.refl _⟩

theorem leq_both (xs ys : List Int) : (leqL xs ys && leqL ys xs) = decide (xs = ys) := by
  by_cases hl : xs.length = ys.length
  · rw [Bool.eq_iff_iff, Bool.and_eq_true, decide_eq_true_eq, leqL_iff hl, leqL_iff hl.symm]
    constructor
    · rintro ⟨h1, h2⟩
      exact getD_ext hl fun j hj => Int.le_antisymm (h1 j hj) (h2 j (by omega))
    · rintro rfl
      exact ⟨fun _ _ => Int.le_refl _, fun _ _ => Int.le_refl _⟩
  · rw [leqL_len hl, decide_eq_false (fun e => hl (by rw [e]))]; rfl

theorem rsame_any (a b : Option Addr) (n m ca cb : Nat) (xs ys : List Int) (w : World) (hx : IA w a n xs) (hy : IA w b m ys) :
    Calls Tryz.prog 38 #[.slice a n ca, .slice b m cb] w fun e w' => e = .returned (.bool (decide (xs = ys))) ∧ Bl w w' := by
  have HB := Lib.hid (leq_both xs ys)
  cases h1 : leqL xs ys
  · have HQ := Lib.hid h1
    go_enter Tryz.func38, Tryz.ntmps38
    go_wp2_with fail
    refine (rleq_any a b n m ca cb xs ys _ hx hy).mono ?_
    rintro e w1 ⟨rfl, hb1⟩
    rw [h1]
    clear h1
    go_wp2_with fail
    go_ret
    exact ⟨ret_bool (by rw [← HB.out, HQ.out]; rfl), hb1⟩
  · have HQ := Lib.hid h1
    go_enter Tryz.func38, Tryz.ntmps38
    go_wp2_with fail
    refine (rleq_any a b n m ca cb xs ys _ hx hy).mono ?_
    rintro e w1 ⟨rfl, hb1⟩
    rw [h1]
    clear h1
    go_wp2_with fail
    refine (rleq_any b a m n cb ca ys xs _ (hy.keep hb1) (hx.keep hb1)).mono ?_
    rintro e w2 ⟨rfl, hb2⟩
    go_wp2_with fail
    go_ret
    exact ⟨ret_bool (by rw [← HB.out, HQ.out]; rfl), hb1.trans hb2⟩
end Go.Proofs.YtfmabjoindlfeaaGreat
end
