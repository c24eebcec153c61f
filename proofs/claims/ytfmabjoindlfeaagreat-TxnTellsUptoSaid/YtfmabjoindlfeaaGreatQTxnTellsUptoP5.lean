import Derived.Test.YtfmabjoindlfeaaGreatQTxnTellsUptoP3
import Derived.Test.YtfmabjoindlfeaaGreatQTxnTellsUptoP2
import Derived.Test.YtfmabjoindlfeaaGreatQTxnTellsUptoP1

/- rows of cells and their marks: what the book does with the lists of a kind, in plain words. By an AI agent. -/
section
set_option linter.unusedVariables false
namespace Go.Proofs.YtfmabjoindlfeaaGreat
open Go.RowKit

/-- the marks of a kind of lists: z cells each -/
structure MK where
  z : Nat
  el : Nat → Nat → List Value
  len : ∀ i k, (el i k).length = z
  pos : 0 < z
def MK.row (m : MK) (i f n : Nat) : List Value := (List.range n).flatMap fun k => m.el i (f + k)
theorem MK.row_zero (m : MK) (i f : Nat) : m.row i f 0 = [] := rfl
theorem MK.row_succ (m : MK) (i f n : Nat) : m.row i f (n + 1) = m.row i f n ++ m.el i (f + n) := by
  unfold MK.row
  rw [List.range_succ, List.flatMap_append]
  simp
theorem MK.row_len (m : MK) (i f : Nat) : ∀ n, (m.row i f n).length = n * m.z
  | 0 => by rw [Nat.zero_mul]; rfl
  | n + 1 => by rw [m.row_succ, List.length_append, MK.row_len m i f n, m.len, Nat.succ_mul]
theorem MK.row_add (m : MK) (i f n k : Nat) : m.row i f n ++ m.row i (f + n) k = m.row i f (n + k) := by
  induction k with
  | zero => simp [MK.row]
  | succ k ih => rw [m.row_succ, ← List.append_assoc, ih, ← Nat.add_assoc, m.row_succ, Nat.add_assoc]

/-! ### several cells set anew -/
def setCs (W : World) (g : Nat) : Nat → List Value → World
  | _, [] => W
  | o, v :: l => setCs (W.setCell ⟨g, o, none⟩ v) g (o + 1) l
def setL (xs : List Value) : Nat → List Value → List Value
  | _, [] => xs
  | o, v :: l => setL (xs.set o v) (o + 1) l
theorem setL_mid : ∀ (M A C : List Value), M.length ≤ C.length → setL (A ++ C) A.length M = A ++ (M ++ C.drop M.length)
  | [], A, C, _ => by simp [setL]
  | v :: M, A, [], h => by simp at h
  | v :: M, A, c :: C, h => by
    have e : (A ++ c :: C).set A.length v = (A ++ [v]) ++ C := by simp
    show setL ((A ++ c :: C).set A.length v) (A.length + 1) M = _
    rw [e, show A.length + 1 = (A ++ [v]).length by simp, setL_mid M (A ++ [v]) C (by simpa using h)]
    simp
theorem grown_refl (w : World) (row : Option Nat) : w.grownBy w row := ⟨rfl, rfl, rfl, Nat.le_refl _, fun _ _ _ => rfl⟩
theorem grown_trans {a b c : World} {row : Option Nat} (h : a.grownBy b row) (k : b.grownBy c row) : a.grownBy c row :=
  ⟨k.os.trans h.os, k.tape.trans h.tape, k.output.trans h.output, Nat.le_trans h.size k.size, fun i hi hn => (k.block i (Nat.lt_of_lt_of_le hi h.size) hn).trans (h.block i hi hn)⟩
theorem own_setCs {B E z g n c : Nat} : ∀ (M : List Value) (w : World) (xs : List Value) (o : Nat), w.ownsRow B E z (.slice (some ⟨g, 0, none⟩) n c) n xs →
    (setCs w g o M).ownsRow B E z (.slice (some ⟨g, 0, none⟩) n c) n (setL xs o M) ∧ w.grownBy (setCs w g o M) (some g)
  | [], w, xs, o, h => ⟨h, grown_refl _ _⟩
  | v :: M, w, xs, o, h => by
    have h1 := World.ownsRow.stored h o v
    have h2 := own_setCs M (w.setCell ⟨g, o, none⟩ v) (xs.set o v) (o + 1) h1.1
    exact ⟨h2.1, grown_trans h1.2 h2.2⟩

theorem own_fives {w : World} {B E g n c : Nat} {xs : List Value} (h : w.ownsRow B E 5 (.slice (some ⟨g, 0, none⟩) n c) n xs) {o : Nat} (ho : o + 5 ≤ n * 5) :
    ∃ v0 v1 v2 v3 v4, w.cell? ⟨g, o, none⟩ = some v0 ∧ w.cell? ⟨g, o + 1, none⟩ = some v1 ∧ w.cell? ⟨g, o + 2, none⟩ = some v2 ∧ w.cell? ⟨g, o + 3, none⟩ = some v3 ∧ w.cell? ⟨g, o + 4, none⟩ = some v4 ∧
      w.frozen? ⟨g, o, none⟩ = false ∧ w.frozen? ⟨g, o + 1, none⟩ = false ∧ w.frozen? ⟨g, o + 2, none⟩ = false ∧ w.frozen? ⟨g, o + 3, none⟩ = false ∧ w.frozen? ⟨g, o + 4, none⟩ = false := by
  have hl := h.1
  have key : ∀ r, r < 5 → w.cell? ⟨g, o + r, none⟩ = some (xs[o + r]?.getD undef) := fun r hr => by
    rw [h.cellAt (o + r) (by omega), List.getElem?_eq_getElem (by omega)]; rfl
  exact ⟨_, _, _, _, _, key 0 (by omega), key 1 (by omega), key 2 (by omega), key 3 (by omega), key 4 (by omega), h.frozenAt _, h.frozenAt _, h.frozenAt _, h.frozenAt _, h.frozenAt _⟩
/-- what stands in the j-th list when the lists ahead of k are marked, and of this one the first q -/
def curC (m : MK) (cs : Nat → List Value) (ln : Nat → Nat) (k q j : Nat) : List Value := if j < k then m.row j 0 (ln j) else if j = k then m.row k 0 q ++ (cs k).drop (q * m.z) else cs j
section
variable {m : MK} {cs : Nat → List Value} {ln : Nat → Nat}
theorem curC_zero (j : Nat) : curC m cs ln 0 0 j = cs j := by
  unfold curC
  by_cases e : j = 0
  · subst e; simp [MK.row_zero]
  · simp [e]
theorem curC_next {k : Nat} (hl : (cs k).length = ln k * m.z) (j : Nat) : curC m cs ln k (ln k) j = curC m cs ln (k + 1) 0 j := by
  unfold curC
  by_cases e1 : j < k
  · rw [if_pos e1, if_pos (by omega)]
  · by_cases e2 : j = k
    · subst e2
      rw [if_neg e1, if_pos rfl, if_pos (by omega), ← hl, List.drop_length, List.append_nil]
    · rw [if_neg e1, if_neg e2, if_neg (by omega)]
      by_cases e3 : j = k + 1
      · subst e3; simp [MK.row_zero]
      · rw [if_neg e3]
theorem curC_end {n j : Nat} (h : j < n) (q : Nat) : curC m cs ln n q j = m.row j 0 (ln j) := by unfold curC; rw [if_pos h]
theorem curC_step {k q : Nat} (hl : (cs k).length = ln k * m.z) (hq : q < ln k) : setL (curC m cs ln k q k) (q * m.z) (m.el k q) = curC m cs ln k (q + 1) k := by
  unfold curC
  rw [if_neg (Nat.lt_irrefl k), if_pos rfl, if_neg (Nat.lt_irrefl k), if_pos rfl]
  have e := setL_mid (m.el k q) (m.row k 0 q) ((cs k).drop (q * m.z)) (by
    rw [m.len, List.length_drop, hl]
    have : (q + 1) * m.z ≤ ln k * m.z := Nat.mul_le_mul_right _ (by omega)
    rw [Nat.succ_mul] at this; omega)
  rw [m.row_len] at e
  rw [e, m.len, List.drop_drop, m.row_succ, Nat.zero_add, Nat.succ_mul, List.append_assoc]
theorem curC_ne {k q j : Nat} (h : j ≠ k) : curC m cs ln k (q + 1) j = curC m cs ln k q j := by
  unfold curC
  by_cases e : j < k
  · rw [if_pos e, if_pos e]
  · rw [if_neg e, if_neg e, if_neg h, if_neg h]
end

/-! ### lists that grow -/
theorem own_pre {B E z : Nat} {w w' : World} {v l : Value} {n k : Nat} {xs ys : List Value} (hv : w.ownsRow B E z v n xs) (hl : w.ownsRow B E z l (n + k) (xs ++ ys)) (hg : w.grownBy w' l.ownBlock) (hl' : w'.ownsRow B E z l (n + k) (xs ++ ys)) : w'.ownsRow B E z v n xs := by
  by_cases e : v.ownBlock = none ∨ v.ownBlock ≠ l.ownBlock
  · exact World.ownsRow.kept hv hg e
  · have e1 : v.ownBlock ≠ none := fun h => e (.inl h)
    have e2 : v.ownBlock = l.ownBlock := Classical.byContradiction fun h => e (.inr h)
    obtain ⟨h1, ⟨rfl, _⟩ | ⟨g, cap, cur, rfl, hB, hgc, hn, hm, hs, ht⟩⟩ := hv
    · exact absurd rfl e1
    · obtain ⟨k1, ⟨rfl, _⟩ | ⟨g2, cap2, cur2, rfl, hB2, hgc2, hn2, hm2, hs2, ht2⟩⟩ := hl
      · simp [Value.ownBlock] at e2
      · simp [Value.ownBlock] at e2
        subst e2
        rw [hgc] at hgc2
        cases hgc2
        obtain ⟨j1, ⟨hq, _⟩ | ⟨g3, cap3, cur3, hq, hB3, hgc3, hn3, hm3, hs3, ht3⟩⟩ := hl'
        · cases hq
        · simp only [Value.slice.injEq, Option.some.injEq, Addr.mk.injEq, and_true, true_and] at hq
          obtain ⟨rfl, rfl⟩ := hq
          have hcc : cap * z = cap2 * z := hs.symm.trans hs2
          refine ⟨h1, .inr ⟨g, cap, cur3, rfl, hB, hgc3, hn, hm, by rw [hs3]; exact hcc.symm, ?_⟩⟩
          have e3 : cur3.toList.take (n * z) = (cur3.toList.take ((n + k) * z)).take (n * z) := by
            rw [List.take_take, Nat.min_eq_left (Nat.mul_le_mul_right _ (by omega))]
          rw [e3, ht3, ← h1, List.take_left]
/-- the state while one list grows -/
structure GLk (E z : Nat) (S' : Nat → Prop) (B : Nat) (W1 Y : World) (v l : Value) (n k : Nat) (xs ys : List Value) : Prop where
  fr : Fr S' W1 Y
  ol : Y.ownsRow B E z l (n + k) (xs ++ ys)
  ov : Y.ownsRow B E z v n xs
  blk : ∀ b, l.ownBlock = some b → v.ownBlock = some b ∨ W1.heap.size ≤ b
section
variable {E z : Nat}
theorem GLk.keep {S' : Nat → Prop} {B : Nat} {W1 Y Y' : World} {v l : Value} {n k : Nat} {xs ys : List Value} (h : GLk E z S' B W1 Y v l n k xs ys) (hb : Bl Y Y') : GLk E z S' B W1 Y' v l n k xs ys := ⟨h.fr.bl hb, ownsRow_bl h.ol hb, ownsRow_bl h.ov hb, h.blk⟩
theorem GLk.step {S' : Nat → Prop} {B : Nat} {W1 Y Y' : World} {v l l' : Value} {n k p : Nat} {xs ys zs : List Value} (h : GLk E z S' B W1 Y v l n k xs ys) (hS : ∀ b, v.ownBlock = some b → S' b) (hown : Y'.ownsRow B E z l' (n + k + p) ((xs ++ ys) ++ zs))
    (hg : Y.grownBy Y' l.ownBlock) (hl : Y'.ownsRow B E z l (n + k) (xs ++ ys)) (hb : ∀ b, l'.ownBlock = some b → l.ownBlock = some b ∨ Y.heap.size ≤ b) : GLk E z S' B W1 Y' v l' n (k + p) xs (ys ++ zs) := by
  refine ⟨?_, ?_, own_pre h.ov h.ol hg hl, fun b e => ?_⟩
  · refine ⟨hg.os.trans h.fr.os, hg.tape.trans h.fr.tape, hg.output.trans h.fr.output, Nat.le_trans h.fr.size hg.size, fun k hk hs => ?_⟩
    rw [hg.block k (Nat.lt_of_lt_of_le hk h.fr.size) (fun e => ?_), h.fr.block k hk hs]
    rcases h.blk k e.symm with q | q
    · exact hs (hS k q)
    · omega
  · rw [← List.append_assoc, ← Nat.add_assoc]
    exact hown
  · rcases hb b e with q | q
    · exact h.blk b q
    · exact .inr (Nat.le_trans h.fr.size q)
end
/-- the blocks of n values -/
def SBk (n : Nat) (vs : Nat → Value) (b : Nat) : Prop := ∃ j, j < n ∧ (vs j).ownBlock = some b
/-- the state of a kind's grow ahead of the k-th list -/
structure GRk (E L : Nat) (m : MK) (B n : Nat) (vs : Nat → Value) (ms : Nat → Nat) (w W : World) (k : Nat) (out : Value) (gs : Nat → Value) : Prop where
  fr : Fr (SBk n vs) w W
  row : W.ownsRow w.heap.size L 1 out k ((List.range k).map gs)
  ogs : ∀ j, j < k → W.ownsRow B E m.z (gs j) (ms j + 72) (m.row j 0 (ms j + 72))
  ovs : ∀ j, j < n → W.ownsRow B E m.z (vs j) (ms j) (m.row j 0 (ms j))
  apg : ∀ j, j < k → ∀ b, (gs j).ownBlock = some b → (vs j).ownBlock = some b ∨ (w.heap.size ≤ b ∧ out.ownBlock ≠ some b)
structure GMk (E L : Nat) (m : MK) (B n : Nat) (vs : Nat → Value) (ms : Nat → Nat) (w W : World) (k : Nat) (out : Value) (gs : Nat → Value) (l : Value) : Prop where
  r : GRk E L m B n vs ms w W k out gs
  ol : W.ownsRow B E m.z l (ms k + 72) (m.row k 0 (ms k + 72))
  bl : ∀ b, l.ownBlock = some b → (vs k).ownBlock = some b ∨ (w.heap.size ≤ b ∧ out.ownBlock ≠ some b)
section
variable {E L : Nat} {m : MK}
theorem GRk.keep {B n : Nat} {vs : Nat → Value} {ms : Nat → Nat} {w W W' : World} {k : Nat} {out : Value} {gs : Nat → Value} (h : GRk E L m B n vs ms w W k out gs) (hb : Bl W W') : GRk E L m B n vs ms w W' k out gs :=
  ⟨h.fr.bl hb, ownsRow_bl h.row hb, fun j hj => ownsRow_bl (h.ogs j hj) hb, fun j hj => ownsRow_bl (h.ovs j hj) hb, h.apg⟩
theorem GMk.keep {B n : Nat} {vs : Nat → Value} {ms : Nat → Nat} {w W W' : World} {k : Nat} {out : Value} {gs : Nat → Value} {l : Value} (h : GMk E L m B n vs ms w W k out gs l) (hb : Bl W W') : GMk E L m B n vs ms w W' k out gs l :=
  ⟨h.r.keep hb, ownsRow_bl h.ol hb, h.bl⟩
theorem GRk.grown {B n : Nat} {vs : Nat → Value} {ms : Nat → Nat} {w W Y : World} {k : Nat} {out : Value} {gs : Nat → Value} {l : Value} (h : GRk E L m B n vs ms w W k out gs) (hk : k < n)
    (hap : ∀ i j, i < n → j < n → i ≠ j → (vs i).ownBlock = none ∨ (vs i).ownBlock ≠ (vs j).ownBlock) (hlt : ∀ b, SBk n vs b → b < w.heap.size)
    (hl : GLk E m.z (fun b => (vs k).ownBlock = some b) B W Y (vs k) l (ms k) 72 (m.row k 0 (ms k)) (m.row k (ms k) 72)) (hkn : k ≤ n) : GMk E L m B n vs ms w Y k out gs l := by
  have hvk : ∀ b, (vs k).ownBlock = some b → b < w.heap.size := fun b e => hlt b ⟨k, hk, e⟩
  have hout : ∀ b, out.ownBlock = some b → w.heap.size ≤ b ∧ b < W.heap.size := World.ownsRow.lt h.row
  have hne : ∀ j, j < n → j ≠ k → ∀ b, (vs j).ownBlock = some b → ¬ (vs k).ownBlock = some b := fun j hj e b e1 e2 => by
    rcases hap j k hj hk e with q | q
    · rw [q] at e1; cases e1
    · exact q (e1.trans e2.symm)
  refine ⟨⟨?_, ?_, fun j hj => ?_, fun j hj => ?_, h.apg⟩, ?_, fun b e => ?_⟩
  · refine h.fr.trans ⟨hl.fr.os, hl.fr.tape, hl.fr.output, hl.fr.size, fun b hb hs => hl.fr.block b hb (fun e => hs ⟨k, hk, e⟩)⟩
  · exact hl.fr.own h.row (fun b e e2 => by have := hvk b e2; have := (hout b e).1; omega)
  · exact hl.fr.own (h.ogs j hj) (fun b e e2 => by
      rcases h.apg j hj b e with q | q
      · exact hne j (by omega) (by omega) b q e2
      · have := hvk b e2; omega)
  · by_cases e : j = k
    · subst e; exact hl.ov
    · exact hl.fr.own (h.ovs j hj) (fun b e1 e2 => hne j hj e b e1 e2)
  · have := hl.ol
    rw [show m.row k (ms k) 72 = m.row k (0 + ms k) 72 by rw [Nat.zero_add], m.row_add] at this
    exact this
  · rcases hl.blk b e with q | q
    · exact .inl q
    · exact .inr ⟨Nat.le_trans h.fr.size q, fun e2 => by have := (hout b e2).2; omega⟩
theorem GMk.step {B n : Nat} {vs : Nat → Value} {ms : Nat → Nat} {w W W' : World} {k : Nat} {out out' : Value} {gs : Nat → Value} {l : Value} (h : GMk E L m B n vs ms w W k out gs l) (hk : k < n)
    (hlt : ∀ b, SBk n vs b → b < w.heap.size) (ho : W'.ownsRow w.heap.size L 1 out' (k + 1) ((List.range k).map gs ++ [l])) (hg : W.grownBy W' out.ownBlock)
    (hb : ∀ b, out'.ownBlock = some b → out.ownBlock = some b ∨ W.heap.size ≤ b) : GRk E L m B n vs ms w W' (k + 1) out' (fun j => if j = k then l else gs j) := by
  have hout : ∀ b, out.ownBlock = some b → w.heap.size ≤ b ∧ b < W.heap.size := World.ownsRow.lt h.r.row
  have hvo : ∀ j, j < n → (vs j).ownBlock = none ∨ (vs j).ownBlock ≠ out.ownBlock := fun j hj => by
    cases e : (vs j).ownBlock with
    | none => exact .inl rfl
    | some b => exact .inr (fun e2 => by have := hlt b ⟨j, hj, e⟩; have := (hout b e2.symm).1; omega)
  have hgo : ∀ j, j < k → (gs j).ownBlock = none ∨ (gs j).ownBlock ≠ out.ownBlock := fun j hj => by
    cases e : (gs j).ownBlock with
    | none => exact .inl rfl
    | some b =>
      refine .inr (fun e2 => ?_)
      rcases h.r.apg j hj b e with q | q
      · have := hlt b ⟨j, by omega, q⟩; have := (hout b e2.symm).1; omega
      · exact q.2 e2.symm
  have hlo : l.ownBlock = none ∨ l.ownBlock ≠ out.ownBlock := by
    cases e : l.ownBlock with
    | none => exact .inl rfl
    | some b =>
      refine .inr (fun e2 => ?_)
      rcases h.bl b e with q | q
      · have := hlt b ⟨k, hk, q⟩; have := (hout b e2.symm).1; omega
      · exact q.2 e2.symm
  refine ⟨⟨hg.os.trans h.r.fr.os, hg.tape.trans h.r.fr.tape, hg.output.trans h.r.fr.output, Nat.le_trans h.r.fr.size hg.size, fun b hb hs => ?_⟩, ?_, fun j hj => ?_, fun j hj => World.ownsRow.kept (h.r.ovs j hj) hg (hvo j hj), fun j hj b e => ?_⟩
  · rw [hg.block b (Nat.lt_of_lt_of_le hb h.r.fr.size) (fun e => by have := (hout b e.symm).1; omega), h.r.fr.block b hb hs]
  · have e : (List.range (k + 1)).map (fun j => if j = k then l else gs j) = (List.range k).map gs ++ [l] := by
      rw [List.range_succ, List.map_append]
      congr 1
      · exact List.map_congr_left (fun j hj => if_neg (by have := List.mem_range.1 hj; omega))
      · simp
    rw [e]; exact ho
  · by_cases e : j = k
    · subst e; rw [if_pos rfl]; exact World.ownsRow.kept h.ol hg hlo
    · rw [if_neg e]; exact World.ownsRow.kept (h.r.ogs j (by omega)) hg (hgo j (by omega))
  · by_cases e1 : j = k
    · subst e1
      rw [if_pos rfl] at e
      rcases h.bl b e with q | q
      · exact .inl q
      · refine .inr ⟨q.1, fun e2 => ?_⟩
        rcases hb b e2 with q2 | q2
        · exact q.2 q2
        · have := (World.ownsRow.lt h.ol b e).2; omega
    · rw [if_neg e1] at e
      rcases h.r.apg j (by omega) b e with q | q
      · exact .inl q
      · refine .inr ⟨q.1, fun e2 => ?_⟩
        rcases hb b e2 with q2 | q2
        · exact q.2 q2
        · have := (World.ownsRow.lt (h.r.ogs j (by omega)) b e).2; omega
end
end Go.Proofs.YtfmabjoindlfeaaGreat
end

/- a book of several kinds of lists, in plain words. By an AI agent. -/
section
set_option linter.unusedVariables false
namespace Go.Proofs.YtfmabjoindlfeaaGreat
open Go.RowKit

theorem own_mono' {W : World} {B B' n z : Nat} {E : TypeId} {v : Value} {cs : List Value} (h : W.ownsRow B E z v n cs) (hb : B' ≤ B) : W.ownsRow B' E z v n cs := by
  obtain ⟨h1, h2 | ⟨g, cap, cur, hv, hB, r⟩⟩ := h
  · exact ⟨h1, .inl h2⟩
  · exact ⟨h1, .inr ⟨g, cap, cur, hv, Nat.le_trans hb hB, r⟩⟩
theorem row_shape' {W : World} {B n z : Nat} {E : TypeId} {v : Value} {cs : List Value} (h : W.ownsRow B E z v n cs) : ∃ a c, v = .slice a n c := by
  obtain ⟨_, ⟨rfl, h2⟩ | ⟨g, cap, cur, rfl, _⟩⟩ := h
  · subst h2; exact ⟨none, 0, rfl⟩
  · exact ⟨_, _, rfl⟩
theorem sg_own {B E z : Nat} {w : World} {a : Option Addr} {n c : Nat} {xs : List Value} (h : w.ownsRow B E z (.slice a n c) n xs) (hx : ∀ u ∈ xs, u.oneCell' = true) : SG w z a n xs := by
  have h0 := h
  obtain ⟨h1, ⟨e, h2⟩ | ⟨g, cap, cur, e, hr⟩⟩ := h
  · subst h2
    refine ⟨h1, fun ad e2 j u hu => ?_, fun _ => rfl, hx⟩
    have : xs = [] := List.eq_nil_of_length_eq_zero (by rw [h1, Nat.zero_mul])
    subst this; simp at hu
  · simp only [Value.slice.injEq, true_and] at e
    obtain ⟨rfl, rfl⟩ := e
    refine ⟨h1, fun ad e2 j u hu => ?_, (fun e2 => by cases e2), hx⟩
    cases e2
    have hj : j < n * z := by
      rw [← h1]
      exact (List.getElem?_eq_some_iff.1 hu).1
    have e3 : (⟨g, 0, none⟩ : Addr).add j = ⟨g, j, none⟩ := by simp [Addr.add]; omega
    rw [e3, h0.cellAt j hj, hu]
/-- the kinds of lists that a book keeps: where they stand in it (K), their elements' type, the lists' type, the cells of an element; what it is that a list and its copy read alike, hanging on the blocks D alone -/
structure BKd where
  K : List Nat
  E : Nat → Nat
  L : Nat → Nat
  z : Nat → Nat
  Q : Nat → Value → Value → World → (Nat → Prop) → Prop
  st : ∀ {p : Nat} {v u : Value} {W W' : World} {S D : Nat → Prop}, Fr S W W' → (∀ b, D b → ¬ S b) → Q p v u W D → Q p v u W' D
theorem BKd.keep (k : BKd) {p : Nat} {v u : Value} {W W' : World} {D : Nat → Prop} (h : k.Q p v u W D) (hb : Bl W W') : k.Q p v u W' D := k.st (S := fun _ => False) ((Fr.refl _ W).bl hb) (fun _ _ h => h) h
/-- the thirty cells of a book -/
def hsOf (vv wv : Nat → Value) : List Value := [vv 0, wv 0, vv 2, wv 2, vv 4, wv 4, vv 6, wv 6, vv 8, wv 8, vv 10, wv 10, vv 12, wv 12, vv 14, wv 14, vv 16, wv 16, vv 18, wv 18, vv 20, wv 20, vv 22, wv 22, vv 24, wv 24, vv 26, wv 26, vv 28, wv 28]
def upd {α : Type} (f : Nat → α) (p : Nat) (x : α) : Nat → α := fun q => if q = p then x else f q
theorem upd_same {α : Type} (f : Nat → α) (p : Nat) (x : α) : upd f p x p = x := if_pos rfl
theorem upd_ne {α : Type} (f : Nat → α) {p q : Nat} (x : α) (h : q ≠ p) : upd f p x q = f q := if_neg h
/-- the book's own blocks -/
def BSt (g : Nat) (vv wv : Nat → Value) (b : Nat) : Prop := b = g ∨ ∃ p, (vv p).ownBlock = some b ∨ (wv p).ownBlock = some b
structure BookX (k : BKd) (B : Nat) (W : World) (g : Nat) (n : Nat → Nat) (vv wv : Nat → Value) (vs us : Nat → Nat → Value) (ln : Nat → Nat → Nat) (cs : Nat → Nat → List Value) (D : Nat → Nat → Nat → Prop) (T : Nat → Prop) : Prop where
  base : B ≤ g
  box : AC W g (hsOf vv wv)
  emp : ∀ p, p ∉ k.K → vv p = .slice none 0 0 ∧ wv p = .slice none 0 0
  few : ∀ p, n p ≤ 250
  rv : ∀ p, p ∈ k.K → W.ownsRow B (k.L p) 1 (vv p) (n p) ((List.range (n p)).map (vs p))
  ru : ∀ p, p ∈ k.K → W.ownsRow B (k.L p) 1 (wv p) (n p) ((List.range (n p)).map (us p))
  own : ∀ p, p ∈ k.K → ∀ j, j < n p → W.ownsRow B (k.E p) (k.z p) (vs p j) (ln p j) (cs p j)
  small : ∀ p, p ∈ k.K → ∀ j, j < n p → ln p j ≤ 50000
  q : ∀ p, p ∈ k.K → ∀ j, j < n p → k.Q p (vs p j) (us p j) W (D p j)
  dlt : ∀ p, p ∈ k.K → ∀ j, j < n p → ∀ b, D p j b → b < W.heap.size ∧ ¬ BSt g vv wv b
  vap : ∀ p, p ∈ k.K → ∀ j, j < n p → ∀ b, (vs p j).ownBlock = some b → ¬ BSt g vv wv b
  gv : ∀ p, (vv p).ownBlock ≠ some g ∧ (wv p).ownBlock ≠ some g
  hvv : ∀ p q, p ≠ q → (vv p).ownBlock = none ∨ (vv p).ownBlock ≠ (vv q).ownBlock
  hww : ∀ p q, p ≠ q → (wv p).ownBlock = none ∨ (wv p).ownBlock ≠ (wv q).ownBlock
  hwv : ∀ p q, (wv p).ownBlock = none ∨ (wv p).ownBlock ≠ (vv q).ownBlock
  avv : ∀ p q, p ∈ k.K → q ∈ k.K → ∀ i j, i < n p → j < n q → (p ≠ q ∨ i ≠ j) → (vs p i).ownBlock = none ∨ (vs p i).ownBlock ≠ (vs q j).ownBlock
  t : ∀ b, T b → b < W.heap.size ∧ ¬ BSt g vv wv b ∧ ∀ p, p ∈ k.K → ∀ j, j < n p → (vs p j).ownBlock ≠ some b
section
variable {k : BKd} {B : Nat} {W W' : World} {g : Nat} {n : Nat → Nat} {vv wv : Nat → Value} {vs us : Nat → Nat → Value} {ln : Nat → Nat → Nat} {cs : Nat → Nat → List Value} {D : Nat → Nat → Nat → Prop} {T : Nat → Prop}
theorem BookX.keep (h : BookX k B W g n vv wv vs us ln cs D T) (hb : Bl W W') : BookX k B W' g n vv wv vs us ln cs D T :=
  ⟨h.base, h.box.keep hb, h.emp, h.few, fun p hp => ownsRow_bl (h.rv p hp) hb, fun p hp => ownsRow_bl (h.ru p hp) hb, fun p hp j hj => ownsRow_bl (h.own p hp j hj) hb, h.small, fun p hp j hj => k.keep (h.q p hp j hj) hb, fun p hp j hj b q => ⟨Nat.lt_of_lt_of_le (h.dlt p hp j hj b q).1 hb.size, (h.dlt p hp j hj b q).2⟩, h.vap, h.gv, h.hvv, h.hww, h.hwv, h.avv, fun b q => ⟨Nat.lt_of_lt_of_le (h.t b q).1 hb.size, (h.t b q).2⟩⟩
theorem BookX.less (h : BookX k B W g n vv wv vs us ln cs D T) {T' : Nat → Prop} (ht : ∀ b, T' b → T b) : BookX k B W g n vv wv vs us ln cs D T' :=
  ⟨h.base, h.box, h.emp, h.few, h.rv, h.ru, h.own, h.small, h.q, h.dlt, h.vap, h.gv, h.hvv, h.hww, h.hwv, h.avv, fun b q => h.t b (ht b q)⟩
theorem BookX.sub (h : BookX k B W g n vv wv vs us ln cs D T) {b : Nat} (hb : BSt g vv wv b) : b < W.heap.size := by
  rcases hb with rfl | ⟨p, q⟩
  · exact h.box.lt
  · by_cases hp : p ∈ k.K
    · rcases q with q | q
      · exact (World.ownsRow.lt (h.rv p hp) b q).2
      · exact (World.ownsRow.lt (h.ru p hp) b q).2
    · obtain ⟨e1, e2⟩ := h.emp p hp
      rw [e1, e2] at q
      rcases q with q | q <;> cases q
/-- what has been made since is left alone -/
theorem BookX.more (h : BookX k B W g n vv wv vs us ln cs D T) (hb : Bl W W') : BookX k B W' g n vv wv vs us ln cs D (fun b => T b ∨ W.heap.size ≤ b ∧ b < W'.heap.size) := by
  have k1 := h.keep hb
  refine ⟨k1.base, k1.box, k1.emp, k1.few, k1.rv, k1.ru, k1.own, k1.small, k1.q, k1.dlt, k1.vap, k1.gv, k1.hvv, k1.hww, k1.hwv, k1.avv, fun b q => ?_⟩
  rcases q with q | ⟨q1, q2⟩
  · exact k1.t b q
  · exact ⟨q2, fun hs => by have := h.sub hs; omega, fun p hp j hj e => by have := (World.ownsRow.lt (h.own p hp j hj) b e).2; omega⟩
/-- what one more list of the kind p leaves -/
structure VPk (k : BKd) (B : Nat) (w W : World) (g n : Nat) (p : Nat) (vv wv : Nat → Value) (vs us : Nat → Nat → Value) (v : Value) (vv' wv' u : Value) (Dv Dn : Nat → Prop) : Prop where
  box : AC W g (hsOf (upd vv p vv') (upd wv p wv'))
  rv : W.ownsRow B (k.L p) 1 vv' (n + 1) ((List.range n).map (vs p) ++ [v])
  ru : W.ownsRow B (k.L p) 1 wv' (n + 1) ((List.range n).map (us p) ++ [u])
  q : k.Q p v u W Dn
  dn : ∀ b, Dn b → b < W.heap.size ∧ (Dv b ∨ w.heap.size ≤ b) ∧ vv'.ownBlock ≠ some b ∧ wv'.ownBlock ≠ some b
  fr : Fr (fun b => b = g ∨ (vv p).ownBlock = some b ∨ (wv p).ownBlock = some b) w W
  bv : ∀ b, vv'.ownBlock = some b → (vv p).ownBlock = some b ∨ w.heap.size ≤ b
  bu : ∀ b, wv'.ownBlock = some b → (wv p).ownBlock = some b ∨ w.heap.size ≤ b
  avu : wv'.ownBlock = none ∨ wv'.ownBlock ≠ vv'.ownBlock
theorem BookX.step {w : World} {p : Nat} {vv' wv' v u : Value} {l : Nat} {ys : List Value} {Dv Dn : Nat → Prop} (h : BookX k B w g n vv wv vs us ln cs D T) (hp : p ∈ k.K) (hn : n p < 250) (hv : w.ownsRow B (k.E p) (k.z p) v l ys) (hl : l ≤ 50000)
    (hT : ∀ b, v.ownBlock = some b → T b) (hD : ∀ b, Dv b → b < w.heap.size ∧ ¬ BSt g vv wv b) (P : VPk k B w W g (n p) p vv wv vs us v vv' wv' u Dv Dn) :
    BookX k B W g (upd n p (n p + 1)) (upd vv p vv') (upd wv p wv') (upd vs p (upd (vs p) (n p) v)) (upd us p (upd (us p) (n p) u)) (upd ln p (upd (ln p) (n p) l)) (upd cs p (upd (cs p) (n p) ys)) (upd D p (upd (D p) (n p) Dn)) (fun b => T b ∧ v.ownBlock ≠ some b)
    ∧ (∀ b, b < w.heap.size → ¬ BSt g vv wv b → ¬ BSt g (upd vv p vv') (upd wv p wv') b) := by
  have hgl := h.box.lt
  have row : ∀ (m : Nat) (f : Nat → Value) (x : Value), (List.range (m + 1)).map (upd f m x) = (List.range m).map f ++ [x] := fun m f x => by
    rw [List.range_succ, List.map_append]
    congr 1
    · exact List.map_congr_left (fun j hj => upd_ne _ _ (by have := List.mem_range.1 hj; omega))
    · simp [upd]
  have old : ∀ b, b < w.heap.size → ¬ BSt g vv wv b → ¬ BSt g (upd vv p vv') (upd wv p wv') b := fun b hb hs hq => by
    rcases hq with q | ⟨r, q⟩
    · exact hs (.inl q)
    · by_cases e : r = p
      · subst e
        rw [upd_same, upd_same] at q
        rcases q with q | q
        · rcases P.bv b q with s | s
          · exact hs (.inr ⟨r, .inl s⟩)
          · omega
        · rcases P.bu b q with s | s
          · exact hs (.inr ⟨r, .inr s⟩)
          · omega
      · rw [upd_ne _ _ e, upd_ne _ _ e] at q
        exact hs (.inr ⟨r, q⟩)
  have frs : ∀ b, ¬ BSt g vv wv b → ¬ (b = g ∨ (vv p).ownBlock = some b ∨ (wv p).ownBlock = some b) := fun b hs q => by
    rcases q with q | q | q
    · exact hs (.inl q)
    · exact hs (.inr ⟨p, .inl q⟩)
    · exact hs (.inr ⟨p, .inr q⟩)
  -- rows of the other kinds stay
  have rvo : ∀ q, q ≠ p → ∀ b, (vv q).ownBlock = some b → ¬ (b = g ∨ (vv p).ownBlock = some b ∨ (wv p).ownBlock = some b) := fun q e b hb r => by
    rcases r with r | r | r
    · exact (h.gv q).1 (r ▸ hb)
    · rcases h.hvv q p e with s | s
      · rw [s] at hb; cases hb
      · exact s (hb.trans r.symm)
    · rcases h.hwv p q with s | s
      · rw [s] at r; cases r
      · exact s (r.trans hb.symm)
  have rwo : ∀ q, q ≠ p → ∀ b, (wv q).ownBlock = some b → ¬ (b = g ∨ (vv p).ownBlock = some b ∨ (wv p).ownBlock = some b) := fun q e b hb r => by
    rcases r with r | r | r
    · exact (h.gv q).2 (r ▸ hb)
    · rcases h.hwv q p with s | s
      · rw [s] at hb; cases hb
      · exact s (hb.trans r.symm)
    · rcases h.hww q p e with s | s
      · rw [s] at hb; cases hb
      · exact s (hb.trans r.symm)
  have rlt : ∀ q b, (vv q).ownBlock = some b ∨ (wv q).ownBlock = some b → b < w.heap.size := fun q b hb => h.sub (.inr ⟨q, hb⟩)
  have vnew : ∀ b, v.ownBlock = some b → b < w.heap.size ∧ ¬ BSt g vv wv b := fun b e => ⟨(h.t b (hT b e)).1, (h.t b (hT b e)).2.1⟩
  have vother : ∀ q, q ∈ k.K → ∀ j, j < n q → v.ownBlock = none ∨ v.ownBlock ≠ (vs q j).ownBlock := fun q hq j hj => by
    cases e : v.ownBlock with
    | none => exact .inl rfl
    | some b => exact .inr (fun e2 => (h.t b (hT b e)).2.2 q hq j hj e2.symm)
  refine ⟨⟨h.base, P.box, fun q hq => ?_, fun q => ?_, fun q hq => ?_, fun q hq => ?_, fun q hq j hj => ?_, fun q hq j hj => ?_, fun q hq j hj => ?_, fun q hq j hj b hb => ?_, fun q hq j hj b hb => ?_, fun q => ?_, fun q r e => ?_, fun q r e => ?_, fun q r => ?_, fun q r hq hr i j hi hj hij => ?_, fun b hb => ?_⟩, old⟩
  · have e : q ≠ p := fun e => hq (e ▸ hp)
    rw [upd_ne _ _ e, upd_ne _ _ e]; exact h.emp q hq
  · by_cases e : q = p
    · subst e; rw [upd_same]; omega
    · rw [upd_ne _ _ e]; exact h.few q
  · by_cases e : q = p
    · subst e; rw [upd_same, upd_same, upd_same, row]; exact P.rv
    · rw [upd_ne _ _ e, upd_ne _ _ e, upd_ne _ _ e]; exact P.fr.own (h.rv q hq) (rvo q e)
  · by_cases e : q = p
    · subst e; rw [upd_same, upd_same, upd_same, row]; exact P.ru
    · rw [upd_ne _ _ e, upd_ne _ _ e, upd_ne _ _ e]; exact P.fr.own (h.ru q hq) (rwo q e)
  · by_cases e : q = p
    · subst e
      rw [upd_same] at hj
      rw [upd_same, upd_same, upd_same]
      by_cases e2 : j = n q
      · subst e2; rw [upd_same, upd_same, upd_same]; exact P.fr.own hv (fun b hb => frs b (vnew b hb).2)
      · rw [upd_ne _ _ e2, upd_ne _ _ e2, upd_ne _ _ e2]
        exact P.fr.own (h.own q hq j (by omega)) (fun b hb => frs b (h.vap q hq j (by omega) b hb))
    · rw [upd_ne _ _ e] at hj
      rw [upd_ne _ _ e, upd_ne _ _ e, upd_ne _ _ e]
      exact P.fr.own (h.own q hq j hj) (fun b hb => frs b (h.vap q hq j hj b hb))
  · by_cases e : q = p
    · subst e
      rw [upd_same] at hj
      rw [upd_same]
      by_cases e2 : j = n q
      · subst e2; rw [upd_same]; exact hl
      · rw [upd_ne _ _ e2]; exact h.small q hq j (by omega)
    · rw [upd_ne _ _ e] at hj
      rw [upd_ne _ _ e]; exact h.small q hq j hj
  · by_cases e : q = p
    · subst e
      rw [upd_same] at hj
      rw [upd_same, upd_same, upd_same]
      by_cases e2 : j = n q
      · subst e2; rw [upd_same, upd_same, upd_same]; exact P.q
      · rw [upd_ne _ _ e2, upd_ne _ _ e2, upd_ne _ _ e2]
        exact k.st P.fr (fun b hb => frs b (h.dlt q hq j (by omega) b hb).2) (h.q q hq j (by omega))
    · rw [upd_ne _ _ e] at hj
      rw [upd_ne _ _ e, upd_ne _ _ e, upd_ne _ _ e]
      exact k.st P.fr (fun b hb => frs b (h.dlt q hq j hj b hb).2) (h.q q hq j hj)
  · by_cases e : q = p
    · subst e
      rw [upd_same] at hj
      rw [upd_same] at hb
      by_cases e2 : j = n q
      · subst e2
        rw [upd_same] at hb
        obtain ⟨d1, d2, d3, d4⟩ := P.dn b hb
        refine ⟨d1, fun hs => ?_⟩
        rcases d2 with d2 | d2
        · exact old b (hD b d2).1 (hD b d2).2 hs
        · rcases hs with s | ⟨r, s⟩
          · omega
          · by_cases e3 : r = q
            · subst e3
              rw [upd_same, upd_same] at s
              rcases s with s | s
              · exact d3 s
              · exact d4 s
            · rw [upd_ne _ _ e3, upd_ne _ _ e3] at s
              have := rlt r b s; omega
      · rw [upd_ne _ _ e2] at hb
        have := h.dlt q hq j (by omega) b hb
        exact ⟨Nat.lt_of_lt_of_le this.1 P.fr.size, old b this.1 this.2⟩
    · rw [upd_ne _ _ e] at hj
      rw [upd_ne _ _ e] at hb
      have := h.dlt q hq j hj b hb
      exact ⟨Nat.lt_of_lt_of_le this.1 P.fr.size, old b this.1 this.2⟩
  · by_cases e : q = p
    · subst e
      rw [upd_same] at hj
      rw [upd_same] at hb
      by_cases e2 : j = n q
      · subst e2
        rw [upd_same] at hb
        exact old b (vnew b hb).1 (vnew b hb).2
      · rw [upd_ne _ _ e2] at hb
        exact old b (World.ownsRow.lt (h.own q hq j (by omega)) b hb).2 (h.vap q hq j (by omega) b hb)
    · rw [upd_ne _ _ e] at hj
      rw [upd_ne _ _ e] at hb
      exact old b (World.ownsRow.lt (h.own q hq j hj) b hb).2 (h.vap q hq j hj b hb)
  · by_cases e : q = p
    · subst e
      rw [upd_same, upd_same]
      refine ⟨fun e => ?_, fun e => ?_⟩
      · rcases P.bv g e with s | s
        · exact (h.gv q).1 s
        · omega
      · rcases P.bu g e with s | s
        · exact (h.gv q).2 s
        · omega
    · rw [upd_ne _ _ e, upd_ne _ _ e]; exact h.gv q
  · by_cases e1 : q = p
    · subst e1
      rw [upd_same, upd_ne _ _ (Ne.symm e)]
      cases eb : vv'.ownBlock with
      | none => exact .inl rfl
      | some b =>
        refine .inr (fun e2 => ?_)
        rcases P.bv b eb with s | s
        · exact rvo r (Ne.symm e) b e2.symm (.inr (.inl s))
        · have := rlt r b (.inl e2.symm); omega
    · rw [upd_ne _ _ e1]
      by_cases e3 : r = p
      · subst e3
        rw [upd_same]
        cases eb : (vv q).ownBlock with
        | none => exact .inl rfl
        | some b =>
          refine .inr (fun e2 => ?_)
          rcases P.bv b e2.symm with s | s
          · exact rvo q e1 b eb (.inr (.inl s))
          · have := rlt q b (.inl eb); omega
      · rw [upd_ne _ _ e3]; exact h.hvv q r e
  · by_cases e1 : q = p
    · subst e1
      rw [upd_same, upd_ne _ _ (Ne.symm e)]
      cases eb : wv'.ownBlock with
      | none => exact .inl rfl
      | some b =>
        refine .inr (fun e2 => ?_)
        rcases P.bu b eb with s | s
        · exact rwo r (Ne.symm e) b e2.symm (.inr (.inr s))
        · have := rlt r b (.inr e2.symm); omega
    · rw [upd_ne _ _ e1]
      by_cases e3 : r = p
      · subst e3
        rw [upd_same]
        cases eb : (wv q).ownBlock with
        | none => exact .inl rfl
        | some b =>
          refine .inr (fun e2 => ?_)
          rcases P.bu b e2.symm with s | s
          · exact rwo q e1 b eb (.inr (.inr s))
          · have := rlt q b (.inr eb); omega
      · rw [upd_ne _ _ e3]; exact h.hww q r e
  · by_cases e1 : q = p
    · subst e1
      rw [upd_same]
      by_cases e3 : r = q
      · subst e3; rw [upd_same]; exact P.avu
      · rw [upd_ne _ _ e3]
        cases eb : wv'.ownBlock with
        | none => exact .inl rfl
        | some b =>
          refine .inr (fun e2 => ?_)
          rcases P.bu b eb with s | s
          · exact rvo r e3 b e2.symm (.inr (.inr s))
          · have := rlt r b (.inl e2.symm); omega
    · rw [upd_ne _ _ e1]
      by_cases e3 : r = p
      · subst e3
        rw [upd_same]
        cases eb : (wv q).ownBlock with
        | none => exact .inl rfl
        | some b =>
          refine .inr (fun e2 => ?_)
          rcases P.bv b e2.symm with s | s
          · exact rwo q e1 b eb (.inr (.inl s))
          · have := rlt q b (.inr eb); omega
      · rw [upd_ne _ _ e3]; exact h.hwv q r
  · by_cases e1 : q = p
    · subst e1
      rw [upd_same] at hi
      rw [upd_same]
      by_cases e2 : r = q
      · subst e2
        rw [upd_same] at hj
        rw [upd_same]
        by_cases e3 : i = n r
        · subst e3
          rw [upd_same, upd_ne _ _ (by omega)]
          exact vother r hr j (by omega)
        · rw [upd_ne _ _ e3]
          by_cases e4 : j = n r
          · subst e4
            rw [upd_same]
            rcases vother r hr i (by omega) with s | s
            · cases hs : (vs r i).ownBlock with
              | none => exact .inl rfl
              | some b => exact .inr (by rw [s]; exact fun h => by cases h)
            · exact .inr (fun h => s h.symm)
          · rw [upd_ne _ _ e4]
            exact h.avv r r hr hr i j (by omega) (by omega) hij
      · rw [upd_ne _ _ e2] at hj
        rw [upd_ne _ _ e2]
        by_cases e3 : i = n q
        · subst e3; rw [upd_same]; exact vother r hr j hj
        · rw [upd_ne _ _ e3]; exact h.avv q r hq hr i j (by omega) hj (.inl (Ne.symm e2))
    · rw [upd_ne _ _ e1] at hi
      rw [upd_ne _ _ e1]
      by_cases e2 : r = p
      · subst e2
        rw [upd_same] at hj
        rw [upd_same]
        by_cases e4 : j = n r
        · subst e4
          rw [upd_same]
          rcases vother q hq i hi with s | s
          · cases hs : (vs q i).ownBlock with
            | none => exact .inl rfl
            | some b => exact .inr (by rw [s]; exact fun h => by cases h)
          · exact .inr (fun h => s h.symm)
        · rw [upd_ne _ _ e4]; exact h.avv q r hq hr i j hi (by omega) (.inl e1)
      · rw [upd_ne _ _ e2] at hj
        rw [upd_ne _ _ e2]
        exact h.avv q r hq hr i j hi hj hij
  · obtain ⟨t1, t2, t3⟩ := h.t b hb.1
    refine ⟨Nat.lt_of_lt_of_le t1 P.fr.size, old b t1 t2, fun q hq j hj => ?_⟩
    by_cases e : q = p
    · subst e
      rw [upd_same] at hj
      rw [upd_same]
      by_cases e2 : j = n q
      · subst e2; rw [upd_same]; exact hb.2
      · rw [upd_ne _ _ e2]; exact t3 q hq j (by omega)
    · rw [upd_ne _ _ e] at hj
      rw [upd_ne _ _ e]; exact t3 q hq j hj
end
/-- a book that is written on, with the blocks T that no call of its functions touches -/
def BQ (k : BKd) (B : Nat) (W : World) (g : Nat) (T : Nat → Prop) : Prop := ∃ n vv wv vs us ln cs D, BookX k B W g n vv wv vs us ln cs D T
section
variable {k : BKd} {B : Nat} {W W' : World} {g : Nat} {T T' : Nat → Prop}
theorem BQ.keep (h : BQ k B W g T) (hb : Bl W W') : BQ k B W' g T := by
  obtain ⟨n, vv, wv, vs, us, ln, cs, D, h⟩ := h
  exact ⟨n, vv, wv, vs, us, ln, cs, D, h.keep hb⟩
theorem BQ.less (h : BQ k B W g T) (ht : ∀ b, T' b → T b) : BQ k B W g T' := by
  obtain ⟨n, vv, wv, vs, us, ln, cs, D, h⟩ := h
  exact ⟨n, vv, wv, vs, us, ln, cs, D, h.less ht⟩
theorem BQ.more (h : BQ k B W g T) (hb : Bl W W') : BQ k B W' g (fun b => T b ∨ W.heap.size ≤ b ∧ b < W'.heap.size) := by
  obtain ⟨n, vv, wv, vs, us, ln, cs, D, h⟩ := h
  exact ⟨n, vv, wv, vs, us, ln, cs, D, h.more hb⟩
theorem BQ.new (hB : B ≤ g) (h : AC W g (hsOf (fun _ => .slice none 0 0) (fun _ => .slice none 0 0))) (ht : ∀ b, T b → b < W.heap.size ∧ b ≠ g) : BQ k B W g T := by
  refine ⟨fun _ => 0, fun _ => .slice none 0 0, fun _ => .slice none 0 0, fun _ _ => undef, fun _ _ => undef, fun _ _ => 0, fun _ _ => [], fun _ _ _ => False, hB, h, fun p hp => ⟨rfl, rfl⟩, fun p => Nat.zero_le _, fun p hp => World.ownsRow_nil _ _ _ _, fun p hp => World.ownsRow_nil _ _ _ _, fun p hp j hj => absurd hj (Nat.not_lt_zero _), fun p hp j hj => absurd hj (Nat.not_lt_zero _), fun p hp j hj => absurd hj (Nat.not_lt_zero _), fun p hp j hj => absurd hj (Nat.not_lt_zero _), fun p hp j hj => absurd hj (Nat.not_lt_zero _), fun p => ⟨(fun e => by cases e), (fun e => by cases e)⟩, fun p q e => .inl rfl, fun p q e => .inl rfl, fun p q => .inl rfl, fun p q hp hq i j hi => absurd hi (Nat.not_lt_zero _), fun b hb => ⟨(ht b hb).1, ?_, fun p hp j hj => absurd hj (Nat.not_lt_zero _)⟩⟩
  rintro (q | ⟨p, q | q⟩)
  · exact (ht b hb).2 q
  · cases q
  · cases q
end
end Go.Proofs.YtfmabjoindlfeaaGreat
end

/- Regions that draw their order and hold calls that may panic (Ext2's laws, with what holds at a panic; the class of worlds is asked only while something is left). · append in a drawn region whose calls may panic; worlds that hold a box. By an AI agent. -/
section
set_option linter.unusedVariables false
namespace Go.Proofs.YtfmabjoindlfeaaGreat
open Go.RowKit

section
variable {P : Program} {ops : Array Oper} {md : Region.Mode} {C : World → Prop} {R : List PanicEntry → World → Prop} {L : List Nat}

def pUpon (P : Program) (R : List PanicEntry → World → Prop) (o : Oper) (a : Act) (K : Act → World → Prop) : Result Next → Prop
  | .ok (.value u) w' => K (a.put o.dst u) w'
  | .ok .skip w' => K (a.put o.dst undef) w'
  | .ok (.enter f args) w' => Calls P f args w' (fun e w'' => (∃ v, e = .returned v ∧ K (a.put o.dst v) w'') ∨ (∃ c, e = .panicked c ∧ R c w''))
  | _ => False
def pOper (P : Program) (R : List PanicEntry → World → Prop) (o : Oper) (a : Act) (w : World) (K : Act → World → Prop) : Prop := pUpon P R o a K ((execOp a.eval o).run P w)
def pOp (P : Program) (R : List PanicEntry → World → Prop) (ops : Array Oper) (i : Nat) (K : Act → World → Prop) (a : Act) (w : World) : Prop :=
  match ops[i]? with
  | none => K a w
  | some o => if Region.wanted o (yielded ops a.tmps) then pOper P R o a w K else K (a.put o.dst undef) w

theorem pUpon_mono {o : Oper} {a : Act} {K K' : Act → World → Prop} (h : ∀ a w, K a w → K' a w) {r : Result Next} (hh : pUpon P R o a K r) : pUpon P R o a K' r := by
  cases r with
  | ok n w' =>
    cases n <;> simp only [pUpon] at hh ⊢
    case value u => exact h _ _ hh
    case skip => exact h _ _ hh
    case enter f args =>
      refine hh.mono fun e w'' hk => ?_
      rcases hk with ⟨v, he, hk⟩ | hk
      · exact .inl ⟨v, he, h _ _ hk⟩
      · exact .inr hk
  | halt x w' => simp only [pUpon] at hh
theorem pOp_mono {i : Nat} {a : Act} {w : World} {K K' : Act → World → Prop} (h : ∀ a w, K a w → K' a w) (hh : pOp P R ops i K a w) : pOp P R ops i K' a w := by
  unfold pOp at *
  split
  · exact h _ _ (by simpa [*] using hh)
  · rename_i o ho
    simp only [ho] at hh
    split
    · rename_i hw; simp only [hw, if_true] at hh; exact pUpon_mono h hh
    · rename_i hw; simp only [hw] at hh; exact h _ _ hh
theorem put_defers (a : Act) (d : Option Nat) (v : Value) : (a.put d v).defers = a.defers := by cases d <;> rfl
theorem wpOp_of_pOp {i : Nat} {a : Act} {w : World} {K : Act → World → Prop} {Q : Exit → Act → World → Prop} (hR : ∀ c w, R c w → Q (.panic c) a w) (hh : pOp P R ops i K a w) : wpOp P ops Q i (fun a' w' => K a' w' ∧ a'.defers = a.defers) a w := by
  unfold pOp at hh
  unfold wpOp
  split
  · rename_i ho; simp only [ho] at hh; exact ⟨hh, rfl⟩
  · rename_i o ho
    simp only [ho] at hh
    split
    · rename_i hw
      simp only [hw, if_true] at hh
      refine .inl ?_
      unfold pOper at hh
      unfold Oper.wp
      generalize (execOp a.eval o).run P w = r at *
      cases r with
      | ok n w' =>
        cases n <;> simp only [pUpon] at hh <;> simp only [Oper.upon]
        case value u => exact ⟨hh, put_defers _ _ _⟩
        case skip => exact ⟨hh, put_defers _ _ _⟩
        case enter f args =>
          refine hh.mono fun e w'' hk => ?_
          rcases hk with ⟨v, rfl, hk⟩ | ⟨c, rfl, hk⟩
          · exact ⟨hk, put_defers _ _ _⟩
          · exact hR _ _ hk
      | halt x w' => simp only [pUpon] at hh
    · rename_i hw; simp only [hw] at hh; exact ⟨hh, put_defers _ _ _⟩

/-- whatever order is picked from here on, and whatever is laid behind meanwhile -/
def wpAnyP (P : Program) (R : List PanicEntry → World → Prop) (md : Region.Mode) (ops : Array Oper) (C : World → Prop) (L : List Nat) (Q : Act → World → Prop) : Nat → Array Bool → Act → World → Prop
  | 0, listed, a, w => Region.ready md ops listed = [] ∧ ∀ w', Bl w w' → Q a w'
  | fuel + 1, listed, a, w =>
    (Region.ready md ops listed = [] → ∀ w', Bl w w' → Q a w') ∧
    ∀ i ∈ Region.ready md ops listed, ∀ w', Bl w w' → pOp P R ops i (fun a'' w'' => (i ∉ L → C w'') ∧ wpAnyP P R md ops C L Q fuel (listed.setIfInBounds i true) a'' w'') a w'

theorem wpAnyP_ext {Q : Act → World → Prop} : ∀ {fuel : Nat} {listed : Array Bool} {a : Act} {w w' : World}, Bl w w' → wpAnyP P R md ops C L Q fuel listed a w → wpAnyP P R md ops C L Q fuel listed a w'
  | 0, _, _, _, _, hb, h => ⟨h.1, fun w'' h2 => h.2 w'' (hb.trans h2)⟩
  | _ + 1, _, _, _, _, hb, h => ⟨fun h0 w'' h2 => h.1 h0 w'' (hb.trans h2), fun i hi w'' h2 => h.2 i hi w'' (hb.trans h2)⟩
theorem wpAny_of_P {Q : Act → World → Prop} {Q' : Exit → Act → World → Prop} (ds : Act) (hQ : ∀ a w, Q a w → Q' .normal a w) (hR : ∀ c a w, a.defers = ds.defers → R c w → Q' (.panic c) a w) : ∀ (fuel : Nat) (listed : Array Bool) (a : Act) (w : World), a.defers = ds.defers →
    wpAnyP P R md ops C L Q fuel listed a w → wpAny P md ops Q' fuel listed a w
  | 0, _, _, _, _, h => ⟨h.1, hQ _ _ (h.2 _ (Bl.refl _))⟩
  | fuel + 1, _, _, _, hd, h => ⟨fun h0 => hQ _ _ (h.1 h0 _ (Bl.refl _)), fun i hi => wpOp_mono (fun _ _ k => wpAny_of_P ds hQ hR fuel _ _ _ (k.2.trans hd) k.1.2) (wpOp_of_pOp (fun c w k => hR c _ w hd k) (h.2 i hi _ (Bl.refl _)))⟩

theorem YE.pOp {i : Nat} {o : Oper} {v : Value} {a : Act} {w : World} (hi : ops[i]? = some o) (hy : YE P ops C o v a) (hw0 : C w) {K : Act → World → Prop} (h : ∀ w', Bl w w' → K (a.put o.dst v) w') : Go.Proofs.YtfmabjoindlfeaaGreat.pOp P R ops i K a w := by
  unfold Go.Proofs.YtfmabjoindlfeaaGreat.pOp
  simp only [hi]
  rcases hy with ⟨hw, hv⟩ | ⟨hw, rfl⟩
  · simp only [hw, if_true]
    have h3 := hv w hw0
    unfold Oper.quietAt at h3
    unfold pOper
    generalize (execOp a.eval o).run P w = r at *
    cases r with
    | ok n w' =>
      cases n <;> simp only [Oper.quietUpon] at h3 <;> simp only [pUpon]
      case value u =>
        obtain ⟨e1, e2⟩ := h3
        rw [e1, e2]; exact h _ (Bl.refl _)
      case skip =>
        obtain ⟨e1, e2⟩ := h3
        rw [e1, ← e2]; exact h _ (Bl.refl _)
      case enter f args =>
        obtain ⟨e1, hc⟩ := h3
        rw [e1]
        exact hc.mono fun e w'' ⟨he, hb⟩ => .inl ⟨v, he, h _ hb⟩
    | halt x w' => simp only [Oper.quietUpon] at h3
  · simp only [hw, Bool.false_eq_true, if_false]; exact h _ (Bl.refl _)

theorem pOp_put {j : Nat} {oi oj : Oper} {v : Value} (hj : ops[j]? = some oj) (hap : oi.apart ops oj = true)
    (hsi : ∀ cs b, oi.op ≠ .select cs b) (hsj : ∀ cs b, oj.op ≠ .select cs b) {K : Act → World → Prop} {a : Act} {w : World}
    (hy : YE P ops C oi v a) (h : pOp P R ops j K (a.put oi.dst v) w) :
    pOp P R ops j (fun a' w' => YE P ops C oi v a' ∧ K (a'.put oi.dst v) w') a w := by
  obtain ⟨h1, h2, h3⟩ := Oper.apart_spec hap
  have keep : ∀ (a : Act), YE P ops C oi v a → ∀ u, YE P ops C oi v (a.put oj.dst u) := fun a hy u =>
    hy.of_same (execOp_put oi hsi a oj.dst u h3) (wanted_put oi a oj.dst u h3)
  unfold Go.Proofs.YtfmabjoindlfeaaGreat.pOp at *
  simp only [hj] at *
  rw [wanted_put oj a oi.dst v h1] at h
  split
  · rename_i hw
    simp only [hw, if_true] at h
    unfold pOper at *
    rw [execOp_put oj hsj a oi.dst v h1] at h
    generalize (execOp a.eval oj).run P w = r at *
    cases r with
    | ok n w' =>
      cases n <;> simp only [pUpon] at h ⊢
      case value u => exact ⟨keep a hy u, by rw [← Act.put_comm a v u h2]; exact h⟩
      case skip => exact ⟨keep a hy _, by rw [← Act.put_comm a v undef h2]; exact h⟩
      case enter f args =>
        refine h.mono fun e w'' hk => ?_
        rcases hk with ⟨u, he, hk⟩ | hk
        · exact .inl ⟨u, he, keep a hy u, by rw [← Act.put_comm a v u h2]; exact hk⟩
        · exact .inr hk
    | halt x w' => simp only [pUpon] at h
  · rename_i hw
    simp only [hw] at h
    exact ⟨keep a hy _, by rw [← Act.put_comm a v undef h2]; exact h⟩


theorem wpAnyP_one {Q : Act → World → Prop} {i fuel : Nat} {listed : Array Bool} {a : Act} {w : World} (hr : Region.ready md ops listed = [i])
    (h : ∀ w', Bl w w' → pOp P R ops i (fun a'' w'' => (i ∉ L → C w'') ∧ wpAnyP P R md ops C L Q fuel (listed.setIfInBounds i true) a'' w'') a w') : wpAnyP P R md ops C L Q (fuel + 1) listed a w :=
  ⟨fun h0 => (by rw [hr] at h0; cases h0), fun j hj => by
    rw [hr, List.mem_singleton] at hj; subst hj; exact h⟩
theorem wpAnyP_done {Q : Act → World → Prop} {fuel : Nat} {listed : Array Bool} {a : Act} {w : World} (hr : Region.ready md ops listed = []) (h : ∀ w', Bl w w' → Q a w') : wpAnyP P R md ops C L Q fuel listed a w := by
  cases fuel with
  | zero => exact ⟨hr, h⟩
  | succ fuel => exact ⟨fun _ => h, fun i hi => by rw [hr] at hi; cases hi⟩
end
end Go.Proofs.YtfmabjoindlfeaaGreat

set_option linter.unusedVariables false
set_option linter.unusedSimpArgs false
namespace Go.Proofs.YtfmabjoindlfeaaGreat
open Go.RowKit
attribute [local go_sem] eOp eOper eUpon pOp pOper pUpon

section
variable {P : Program} {ops : Array Oper} {md : Region.Mode} {C : World → Prop} {R : List PanicEntry → World → Prop} {L : List Nat}
/-- does the j-th stand behind the i-th, through whatever others? -/
def behindT (md : Region.Mode) (ops : Array Oper) (i : Nat) : Nat → Nat → Bool
  | 0, _ => false
  | f + 1, j => match ops[j]? with
    | none => false
    | some o => o.after.any fun e => Region.binds md e && (e.on == i || behindT md ops i f e.on)
/-- what is listed has all that it stands behind listed -/
def Clo (md : Region.Mode) (ops : Array Oper) (listed : Array Bool) : Prop := ∀ j o, ops[j]? = some o → listed.getD j false = true → ∀ e ∈ o.after, Region.binds md e = true → listed.getD e.on false = true
theorem Clo.behind {md : Region.Mode} {ops : Array Oper} {listed : Array Bool} {i : Nat} (h : Clo md ops listed) : ∀ f j, listed.getD j false = true → behindT md ops i f j = true → listed.getD i false = true
  | 0, _, _, hb => by cases hb
  | f + 1, j, hj, hb => by
    unfold behindT at hb
    split at hb
    · cases hb
    · rename_i o ho
      obtain ⟨e, he, hb⟩ := Array.any_eq_true'.1 hb
      simp only [Bool.and_eq_true, Bool.or_eq_true, beq_iff_eq] at hb
      have h1 := h j o ho hj e he hb.1
      rcases hb.2 with h2 | h2
      · rw [← h2]; exact h1
      · exact Clo.behind h f e.on h1 h2
theorem ready_behind {md : Region.Mode} {ops : Array Oper} {listed : Array Bool} {i j : Nat} (h : Clo md ops listed) (hj : j ∈ Region.ready md ops listed) {f : Nat} (hb : behindT md ops i f j = true) : listed.getD i false = true := by
  obtain ⟨_, o, ho, hall⟩ := mem_ready.1 hj
  cases f with
  | zero => cases hb
  | succ f =>
    unfold behindT at hb
    rw [ho] at hb
    obtain ⟨e, he, hb⟩ := Array.any_eq_true'.1 hb
    simp only [Bool.and_eq_true, Bool.or_eq_true, beq_iff_eq] at hb
    have h1 := hall e he hb.1
    rcases hb.2 with h2 | h2
    · rw [← h2]; exact h1
    · exact h.behind f e.on h1 h2
theorem Clo.set {md : Region.Mode} {ops : Array Oper} {listed : Array Bool} {j : Nat} (h : Clo md ops listed) (hj : j ∈ Region.ready md ops listed) : Clo md ops (listed.setIfInBounds j true) := by
  intro k o hk hl e he hb
  by_cases hkj : k = j
  · subst hkj
    obtain ⟨_, o', ho', hall⟩ := mem_ready.1 hj
    rw [hk] at ho'
    obtain rfl := Option.some.inj ho'
    exact getD_set_true (hall e he hb)
  · rw [getD_set_ne false (Ne.symm hkj)] at hl
    exact getD_set_true (h k o hk hl e he hb)
theorem Clo.none (md : Region.Mode) (ops : Array Oper) (n : Nat) : Clo md ops (Array.replicate n false) := by
  intro j o _ hl
  exfalso
  rcases Nat.lt_or_ge j n with h | h
  · simp [h] at hl
  · simp [h] at hl
theorem wpAnyP_firstT (hcl : ∀ w w', C w → Bl w w' → C w') {Q : Act → World → Prop} {i : Nat} {oi : Oper} {v : Value} (hi : ops[i]? = some oi) (hsel : ∀ (j : Nat) (o : Oper) cs b, ops[j]? = some o → o.op ≠ .select cs b) :
    (L.all fun j => behindT md ops i ops.size j) = true → ∀ (fuel : Nat) (listed : Array Bool) (a : Act) (w : World), Clo md ops listed → C w →
      (∀ j oj, ops[j]? = some oj → j ≠ i → listed.getD j true = false → (∀ e ∈ oj.after, Region.binds md e = true → e.on ≠ i) → oi.apart ops oj = true) →
      i ∈ Region.ready md ops listed → YE P ops C oi v a →
      wpAnyP P R md ops C L Q fuel (listed.setIfInBounds i true) (a.put oi.dst v) w → wpAnyP P R md ops C L Q (fuel + 1) listed a w := by
  intro hL fuel
  induction fuel with
  | zero =>
    intro listed a w hclo hb _ hr hy H
    refine ⟨fun h => (by rw [h] at hr; cases hr), fun j hj w' hb' => ?_⟩
    by_cases hji : j = i
    · subst hji; exact hy.pOp hi (hcl _ _ hb hb') fun w'' hb'' => ⟨fun _ => hcl _ _ hb (hb'.trans hb''), wpAnyP_ext (hb'.trans hb'') H⟩
    · have := ready_mono hj hji
      rw [H.1] at this
      cases this
  | succ fuel ih =>
    intro listed a w hclo hb hfree hr hy H
    refine ⟨fun h => (by rw [h] at hr; cases hr), fun j hj w' hb' => ?_⟩
    by_cases hji : j = i
    · subst hji; exact hy.pOp hi (hcl _ _ hb hb') fun w'' hb'' => ⟨fun _ => hcl _ _ hb (hb'.trans hb''), wpAnyP_ext (hb'.trans hb'') H⟩
    · have h1 := H.2 j (ready_mono hj hji) w' hb'
      obtain ⟨hjun, oj, hoj, hall⟩ := mem_ready.1 hj
      have hnot : ∀ e ∈ oj.after, Region.binds md e = true → e.on ≠ i := fun e he hb heq => by
        have h1 := hall e he hb
        have h0 := (mem_ready.1 hr).1
        rw [heq] at h1
        rcases Nat.lt_or_ge i listed.size with h' | h'
        · simp [h'] at h0 h1; rw [h0] at h1; cases h1
        · simp [Array.getElem?_eq_none h'] at h1
      have hri : i ∈ Region.ready md ops (listed.setIfInBounds j true) := ready_mono hr (Ne.symm hji)
      have h2 := pOp_put hoj (hfree j oj hoj hji hjun hnot) (fun cs b => hsel i oi cs b hi) (fun cs b => hsel j oj cs b hoj) hy h1
      have hfree' : ∀ k ok, ops[k]? = some ok → k ≠ i → (listed.setIfInBounds j true).getD k true = false →
          (∀ e ∈ ok.after, Region.binds md e = true → e.on ≠ i) → oi.apart ops ok = true := fun k ok hk hki hun hno => by
        refine hfree k ok hk hki ?_ hno
        by_cases hjk : j = k
        · subst hjk; exact hjun
        · rw [getD_set_ne true hjk] at hun; exact hun
      refine pOp_mono (fun a' w'' h3 => ?_) h2
      have hjL : j ∉ L := fun hm => by
        have h0 := ready_behind hclo hj (List.all_eq_true.1 hL j hm)
        have h2 := (mem_ready.1 hr).1
        rcases Nat.lt_or_ge i listed.size with h' | h'
        · simp [h'] at h0 h2; rw [h2] at h0; cases h0
        · simp [Array.getElem?_eq_none h'] at h0
      have hC : C w'' := h3.2.1 hjL
      refine ⟨fun _ => hC, ih (listed.setIfInBounds j true) a' w'' (hclo.set hj) hC hfree' hri h3.1 ?_⟩
      rw [Array.setIfInBounds_comm _ _ hji]
      exact h3.2.2

theorem wpAnyP_idxT (hcl : ∀ w w', C w → Bl w w' → C w') {Q : Act → World → Prop} (hs : Region.noSelect ops = true) (m : Nat) (w : World) (hw : C w) : ∀ (is : List Nat) (listed : Array Bool) (a : Act), Clo md ops listed → (is.all fun i => L.all fun j => behindT md ops i ops.size j) = true →
    preB md ops is listed = true → wpI P ops C (fun a' => wpAnyP P R md ops C L Q m (setAll is listed) a' w) is a → wpAnyP P R md ops C L Q (is.length + m) listed a w
  | [], _, _, _, _, _, h => by rw [List.length_nil, Nat.zero_add]; exact h
  | i :: is, listed, a, hclo, hbe, hB, h => by
    simp only [preB, Bool.and_eq_true] at hB
    simp only [List.all_cons, Bool.and_eq_true] at hbe
    obtain ⟨⟨hr, hf⟩, hB'⟩ := hB
    obtain ⟨o, h0, h⟩ := h
    rw [List.length_cons, show is.length + 1 + m = (is.length + m) + 1 by omega]
    have key : ∀ v, YE P ops C o v a → wpI P ops C (fun a' => wpAnyP P R md ops C L Q m (setAll (i :: is) listed) a' w) is (a.put o.dst v) → wpAnyP P R md ops C L Q (is.length + m + 1) listed a w := fun v hy hK =>
      wpAnyP_firstT hcl h0 (Region.noSelect_spec hs) hbe.1 (is.length + m) listed a w hclo hw (Region.free_spec h0 hf) (by simpa using hr) hy
        (wpAnyP_idxT hcl hs m w hw is _ _ (hclo.set (by simpa using hr)) hbe.2 hB' hK)
    split at h
    · rename_i hw
      obtain ⟨v, hv, hK⟩ := h
      exact key v (.inl ⟨hw, fun w hb => hv ⟨w, hb⟩⟩) hK
    · rename_i hw
      exact key undef (.inr ⟨by simpa using hw, rfl⟩) h
/-- a region of which the named operations only tell or call and may be taken first; the others may panic; C need not hold behind those of L -/
theorem wp_region_panicsT {id : Nat} {Q : Exit → Act → World → Prop} {a : Act} {w : World} {l : List Oper} (is : List Nat) (m : Nat) (C : World → Prop) (hcl : ∀ w w', C w → Bl w w' → C w') (hw : C w.drew) (L : List Nat) (R : List PanicEntry → World → Prop) (hR : ∀ c t w, R c w → Q (.panic c) { a with tmps := t } w)
    (hm : P.follows .mixedOrders = true) (hn : l.length = is.length + m)
    (hs : Region.noSelect l.toArray = true) (hL : (is.all fun i => L.all fun j => behindT .any l.toArray i l.toArray.size j) = true) (hB : preB .any l.toArray is (Array.replicate l.length false) = true)
    (h : wpI P l.toArray C (fun a' => wpAnyP P R .any l.toArray C L (fun a w => Q .normal a w) m (setAll is (Array.replicate l.length false)) a' w.drew) is a) :
    (Code.region id l.toArray true).wp P Q a w := by
  have hR' : ∀ c a' w, a'.defers = a.defers → R c w → Q (.panic c) a' w := fun c a' w hd hr => by
    have := hR c a'.tmps w hr
    obtain ⟨t, d⟩ := a'
    dsimp only at hd this
    subst hd
    exact this
  refine wp_region_any hm (wpAny_of_P (C := C) (L := L) (R := R) (Q := fun a w => Q .normal a w) a (fun _ _ h => h) hR' _ _ _ _ rfl ?_)
  have hk := wpAnyP_idxT (md := .any) (L := L) (R := R) hcl (Q := fun a w => Q .normal a w) hs m w.drew hw is (Array.replicate l.length false) a (Clo.none _ _ _) hL hB h
  have e : is.length + m = l.toArray.size := by simp; omega
  rw [e] at hk
  simpa using hk
end
section
variable {ops : Array Oper}
theorem pOp_appG {R : List PanicEntry → World → Prop} {i : Nat} {o : Oper} {a : Act} {w : World} {K : Act → World → Prop} (ho' : ops[i]? = some o) (hgd : o.guard = none) (s x : Operand) (T : TypeId)
    (ho : o.op = .call { callee := .builtin .append, args := #[s, x], argTypes := #[T, T] }) {E : TypeId} {size bytes : Nat} (hT : EL T E size bytes) (B : Nat) (v : Value) (n : Nat) (xs : List Value) (hs : a.eval s = v) (hown : w.ownsRow B E size v n xs) (hB : B ≤ w.heap.size)
    (ad : Option Addr) (m c : Nat) (news : List Value) (hx : a.eval x = .slice ad m c) (hsc : SG w size ad m news) (h63 : n + m ≤ maxLen) (hbytes : (n + m) * bytes ≤ 140737488355328)
    (h : ∀ v' w', w'.ownsRow B E size v' (n + m) (xs ++ news) → w.grownBy w' v.ownBlock → K (a.put o.dst v') w') : pOp Tryz.prog R ops i K a w := by
  obtain ⟨v', w', hr, h2, h3⟩ := run_appG hT o.type v n xs hown ad m c news hsc h63 hbytes hB
  unfold pOp
  simp only [ho']
  rw [if_pos (by simp [Region.wanted, hgd])]
  unfold pOper execOp
  simp only [ho, resolve, invoke, builtin, Sem.run_bind, Sem.run_pure, Result.andThen_ok, List.map_toArray, List.map_cons, List.map_nil, hs, hx, hr, pUpon]
  exact h v' w' h2 h3
end
/-- worlds that hold a box -/
def HasBox (g : Nat) (cs : List Value) (W' : World) : Prop := AC W' g cs
theorem HasBox.keep {g : Nat} {cs : List Value} (w w' : World) (h : HasBox g cs w) (k : Bl w w') : HasBox g cs w' := AC.keep h k
end Go.Proofs.YtfmabjoindlfeaaGreat
end
