import Derived.Test.YtfjjnffifnohkaaGreatQFoldTellsUptoP34
import Derived.Test.YtfjjnffifnohkaaGreatQFoldTellsUptoP6
import Derived.Test.YtfjjnffifnohkaaGreatQFoldTellsUptoP15
import Derived.Test.YtfjjnffifnohkaaGreatQFoldTellsUptoP2
import Derived.Test.YtfjjnffifnohkaaGreatQFoldTellsUptoP1
import Derived.Test.YtfjjnffifnohkaaGreatQFoldTellsUptoP19
import Derived.Test.YtfjjnffifnohkaaGreatQFoldTellsUptoP18

/- a book of several kinds of lists, in plain words. By an AI agent. -/
section
set_option linter.unusedVariables false
namespace Go.Proofs.YtfjjnffifnohkaaGreat
open Go.RowKit

theorem own_mono' {W : World} {B B' n z : Nat} {E : TypeId} {v : Value} {cs : List Value} (h : W.ownsRow B E z v n cs) (hb : B' ≤ B) : W.ownsRow B' E z v n cs := by
  obtain ⟨h1, h2 | ⟨g, cap, cur, hv, hB, r⟩⟩ := h
  · exact ⟨h1, .inl h2⟩
  · exact ⟨h1, .inr ⟨g, cap, cur, hv, Nat.le_trans hb hB, r⟩⟩
theorem row_shape' {W : World} {B n z : Nat} {E : TypeId} {v : Value} {cs : List Value} (h : W.ownsRow B E z v n cs) : ∃ a c, v = .slice a n c := by
  obtain ⟨_, ⟨rfl, h2⟩ | ⟨g, cap, cur, rfl, _⟩⟩ := h
  · subst h2; exact ⟨none, 0, rfl⟩
  · exact ⟨_, _, rfl⟩
theorem sg_own {B E z : Nat} {w : World} {a : Option Addr} {n c : Nat} {xs : List Value} (h : w.ownsRow B E z (.slice a n c) n xs) (hx : ∀ u ∈ xs, u.oneCell' = true) : SG w z a n xs := by
  have h0 := h
  obtain ⟨h1, ⟨e, h2⟩ | ⟨g, cap, cur, e, hr⟩⟩ := h
  · subst h2
    refine ⟨h1, fun ad e2 j u hu => ?_, fun _ => rfl, hx⟩
    have : xs = [] := List.eq_nil_of_length_eq_zero (by rw [h1, Nat.zero_mul])
    subst this; simp at hu
  · simp only [Value.slice.injEq, true_and] at e
    obtain ⟨rfl, rfl⟩ := e
    refine ⟨h1, fun ad e2 j u hu => ?_, (fun e2 => by cases e2), hx⟩
    cases e2
    have hj : j < n * z := by
      rw [← h1]
      exact (List.getElem?_eq_some_iff.1 hu).1
    have e3 : (⟨g, 0, none⟩ : Addr).add j = ⟨g, j, none⟩ := by simp [Addr.add]; omega
    rw [e3, h0.cellAt j hj, hu]
/-- the kinds of lists that a book keeps: where they stand in it (K), their elements' type, the lists' type, the cells of an element; what it is that a list and its copy read alike, hanging on the blocks D alone -/
structure BKd where
  K : List Nat
  E : Nat → Nat
  L : Nat → Nat
  z : Nat → Nat
  Q : Nat → Value → Value → World → (Nat → Prop) → Prop
  st : ∀ {p : Nat} {v u : Value} {W W' : World} {S D : Nat → Prop}, Fr S W W' → (∀ b, D b → ¬ S b) → Q p v u W D → Q p v u W' D
theorem BKd.keep (k : BKd) {p : Nat} {v u : Value} {W W' : World} {D : Nat → Prop} (h : k.Q p v u W D) (hb : Bl W W') : k.Q p v u W' D := k.st (S := fun _ => False) ((Fr.refl _ W).bl hb) (fun _ _ h => h) h
/-- the thirty cells of a book -/
def hsOf (vv wv : Nat → Value) : List Value := [vv 0, wv 0, vv 2, wv 2, vv 4, wv 4, vv 6, wv 6, vv 8, wv 8, vv 10, wv 10, vv 12, wv 12, vv 14, wv 14, vv 16, wv 16, vv 18, wv 18, vv 20, wv 20, vv 22, wv 22, vv 24, wv 24, vv 26, wv 26, vv 28, wv 28]
def upd {α : Type} (f : Nat → α) (p : Nat) (x : α) : Nat → α := fun q => if q = p then x else f q
theorem upd_same {α : Type} (f : Nat → α) (p : Nat) (x : α) : upd f p x p = x := if_pos rfl
theorem upd_ne {α : Type} (f : Nat → α) {p q : Nat} (x : α) (h : q ≠ p) : upd f p x q = f q := if_neg h
/-- the book's own blocks -/
def BSt (g : Nat) (vv wv : Nat → Value) (b : Nat) : Prop := b = g ∨ ∃ p, (vv p).ownBlock = some b ∨ (wv p).ownBlock = some b
structure BookX (k : BKd) (B : Nat) (W : World) (g : Nat) (n : Nat → Nat) (vv wv : Nat → Value) (vs us : Nat → Nat → Value) (ln : Nat → Nat → Nat) (cs : Nat → Nat → List Value) (D : Nat → Nat → Nat → Prop) (T : Nat → Prop) : Prop where
  base : B ≤ g
  box : AC W g (hsOf vv wv)
  emp : ∀ p, p ∉ k.K → vv p = .slice none 0 0 ∧ wv p = .slice none 0 0
  few : ∀ p, n p ≤ 250
  rv : ∀ p, p ∈ k.K → W.ownsRow B (k.L p) 1 (vv p) (n p) ((List.range (n p)).map (vs p))
  ru : ∀ p, p ∈ k.K → W.ownsRow B (k.L p) 1 (wv p) (n p) ((List.range (n p)).map (us p))
  own : ∀ p, p ∈ k.K → ∀ j, j < n p → W.ownsRow B (k.E p) (k.z p) (vs p j) (ln p j) (cs p j)
  small : ∀ p, p ∈ k.K → ∀ j, j < n p → ln p j ≤ 50000
  q : ∀ p, p ∈ k.K → ∀ j, j < n p → k.Q p (vs p j) (us p j) W (D p j)
  dlt : ∀ p, p ∈ k.K → ∀ j, j < n p → ∀ b, D p j b → b < W.heap.size ∧ ¬ BSt g vv wv b
  vap : ∀ p, p ∈ k.K → ∀ j, j < n p → ∀ b, (vs p j).ownBlock = some b → ¬ BSt g vv wv b
  gv : ∀ p, (vv p).ownBlock ≠ some g ∧ (wv p).ownBlock ≠ some g
  hvv : ∀ p q, p ≠ q → (vv p).ownBlock = none ∨ (vv p).ownBlock ≠ (vv q).ownBlock
  hww : ∀ p q, p ≠ q → (wv p).ownBlock = none ∨ (wv p).ownBlock ≠ (wv q).ownBlock
  hwv : ∀ p q, (wv p).ownBlock = none ∨ (wv p).ownBlock ≠ (vv q).ownBlock
  avv : ∀ p q, p ∈ k.K → q ∈ k.K → ∀ i j, i < n p → j < n q → (p ≠ q ∨ i ≠ j) → (vs p i).ownBlock = none ∨ (vs p i).ownBlock ≠ (vs q j).ownBlock
  t : ∀ b, T b → b < W.heap.size ∧ ¬ BSt g vv wv b ∧ ∀ p, p ∈ k.K → ∀ j, j < n p → (vs p j).ownBlock ≠ some b
section
variable {k : BKd} {B : Nat} {W W' : World} {g : Nat} {n : Nat → Nat} {vv wv : Nat → Value} {vs us : Nat → Nat → Value} {ln : Nat → Nat → Nat} {cs : Nat → Nat → List Value} {D : Nat → Nat → Nat → Prop} {T : Nat → Prop}
theorem BookX.keep (h : BookX k B W g n vv wv vs us ln cs D T) (hb : Bl W W') : BookX k B W' g n vv wv vs us ln cs D T :=
  ⟨h.base, h.box.keep hb, h.emp, h.few, fun p hp => ownsRow_bl (h.rv p hp) hb, fun p hp => ownsRow_bl (h.ru p hp) hb, fun p hp j hj => ownsRow_bl (h.own p hp j hj) hb, h.small, fun p hp j hj => k.keep (h.q p hp j hj) hb, fun p hp j hj b q => ⟨Nat.lt_of_lt_of_le (h.dlt p hp j hj b q).1 hb.size, (h.dlt p hp j hj b q).2⟩, h.vap, h.gv, h.hvv, h.hww, h.hwv, h.avv, fun b q => ⟨Nat.lt_of_lt_of_le (h.t b q).1 hb.size, (h.t b q).2⟩⟩
theorem BookX.less (h : BookX k B W g n vv wv vs us ln cs D T) {T' : Nat → Prop} (ht : ∀ b, T' b → T b) : BookX k B W g n vv wv vs us ln cs D T' :=
  ⟨h.base, h.box, h.emp, h.few, h.rv, h.ru, h.own, h.small, h.q, h.dlt, h.vap, h.gv, h.hvv, h.hww, h.hwv, h.avv, fun b q => h.t b (ht b q)⟩
theorem BookX.sub (h : BookX k B W g n vv wv vs us ln cs D T) {b : Nat} (hb : BSt g vv wv b) : b < W.heap.size := by
  rcases hb with rfl | ⟨p, q⟩
  · exact h.box.lt
  · by_cases hp : p ∈ k.K
    · rcases q with q | q
      · exact (World.ownsRow.lt (h.rv p hp) b q).2
      · exact (World.ownsRow.lt (h.ru p hp) b q).2
    · obtain ⟨e1, e2⟩ := h.emp p hp
      rw [e1, e2] at q
      rcases q with q | q <;> cases q
/-- what has been made since is left alone -/
theorem BookX.more (h : BookX k B W g n vv wv vs us ln cs D T) (hb : Bl W W') : BookX k B W' g n vv wv vs us ln cs D (fun b => T b ∨ W.heap.size ≤ b ∧ b < W'.heap.size) := by
  have k1 := h.keep hb
  refine ⟨k1.base, k1.box, k1.emp, k1.few, k1.rv, k1.ru, k1.own, k1.small, k1.q, k1.dlt, k1.vap, k1.gv, k1.hvv, k1.hww, k1.hwv, k1.avv, fun b q => ?_⟩
  rcases q with q | ⟨q1, q2⟩
  · exact k1.t b q
  · exact ⟨q2, fun hs => by have := h.sub hs; omega, fun p hp j hj e => by have := (World.ownsRow.lt (h.own p hp j hj) b e).2; omega⟩
/-- what one more list of the kind p leaves -/
structure VPk (k : BKd) (B : Nat) (w W : World) (g n : Nat) (p : Nat) (vv wv : Nat → Value) (vs us : Nat → Nat → Value) (v : Value) (vv' wv' u : Value) (Dv Dn : Nat → Prop) : Prop where
  box : AC W g (hsOf (upd vv p vv') (upd wv p wv'))
  rv : W.ownsRow B (k.L p) 1 vv' (n + 1) ((List.range n).map (vs p) ++ [v])
  ru : W.ownsRow B (k.L p) 1 wv' (n + 1) ((List.range n).map (us p) ++ [u])
  q : k.Q p v u W Dn
  dn : ∀ b, Dn b → b < W.heap.size ∧ (Dv b ∨ w.heap.size ≤ b) ∧ vv'.ownBlock ≠ some b ∧ wv'.ownBlock ≠ some b
  fr : Fr (fun b => b = g ∨ (vv p).ownBlock = some b ∨ (wv p).ownBlock = some b) w W
  bv : ∀ b, vv'.ownBlock = some b → (vv p).ownBlock = some b ∨ w.heap.size ≤ b
  bu : ∀ b, wv'.ownBlock = some b → (wv p).ownBlock = some b ∨ w.heap.size ≤ b
  avu : wv'.ownBlock = none ∨ wv'.ownBlock ≠ vv'.ownBlock
theorem BookX.step {w : World} {p : Nat} {vv' wv' v u : Value} {l : Nat} {ys : List Value} {Dv Dn : Nat → Prop} (h : BookX k B w g n vv wv vs us ln cs D T) (hp : p ∈ k.K) (hn : n p < 250) (hv : w.ownsRow B (k.E p) (k.z p) v l ys) (hl : l ≤ 50000)
    (hT : ∀ b, v.ownBlock = some b → T b) (hD : ∀ b, Dv b → b < w.heap.size ∧ ¬ BSt g vv wv b) (P : VPk k B w W g (n p) p vv wv vs us v vv' wv' u Dv Dn) :
    BookX k B W g (upd n p (n p + 1)) (upd vv p vv') (upd wv p wv') (upd vs p (upd (vs p) (n p) v)) (upd us p (upd (us p) (n p) u)) (upd ln p (upd (ln p) (n p) l)) (upd cs p (upd (cs p) (n p) ys)) (upd D p (upd (D p) (n p) Dn)) (fun b => T b ∧ v.ownBlock ≠ some b)
    ∧ (∀ b, b < w.heap.size → ¬ BSt g vv wv b → ¬ BSt g (upd vv p vv') (upd wv p wv') b) := by
  have hgl := h.box.lt
  have row : ∀ (m : Nat) (f : Nat → Value) (x : Value), (List.range (m + 1)).map (upd f m x) = (List.range m).map f ++ [x] := fun m f x => by
    rw [List.range_succ, List.map_append]
    congr 1
    · exact List.map_congr_left (fun j hj => upd_ne _ _ (by have := List.mem_range.1 hj; omega))
    · simp [upd]
  have old : ∀ b, b < w.heap.size → ¬ BSt g vv wv b → ¬ BSt g (upd vv p vv') (upd wv p wv') b := fun b hb hs hq => by
    rcases hq with q | ⟨r, q⟩
    · exact hs (.inl q)
    · by_cases e : r = p
      · subst e
        rw [upd_same, upd_same] at q
        rcases q with q | q
        · rcases P.bv b q with s | s
          · exact hs (.inr ⟨r, .inl s⟩)
          · omega
        · rcases P.bu b q with s | s
          · exact hs (.inr ⟨r, .inr s⟩)
          · omega
      · rw [upd_ne _ _ e, upd_ne _ _ e] at q
        exact hs (.inr ⟨r, q⟩)
  have frs : ∀ b, ¬ BSt g vv wv b → ¬ (b = g ∨ (vv p).ownBlock = some b ∨ (wv p).ownBlock = some b) := fun b hs q => by
    rcases q with q | q | q
    · exact hs (.inl q)
    · exact hs (.inr ⟨p, .inl q⟩)
    · exact hs (.inr ⟨p, .inr q⟩)
  -- rows of the other kinds stay
  have rvo : ∀ q, q ≠ p → ∀ b, (vv q).ownBlock = some b → ¬ (b = g ∨ (vv p).ownBlock = some b ∨ (wv p).ownBlock = some b) := fun q e b hb r => by
    rcases r with r | r | r
    · exact (h.gv q).1 (r ▸ hb)
    · rcases h.hvv q p e with s | s
      · rw [s] at hb; cases hb
      · exact s (hb.trans r.symm)
    · rcases h.hwv p q with s | s
      · rw [s] at r; cases r
      · exact s (r.trans hb.symm)
  have rwo : ∀ q, q ≠ p → ∀ b, (wv q).ownBlock = some b → ¬ (b = g ∨ (vv p).ownBlock = some b ∨ (wv p).ownBlock = some b) := fun q e b hb r => by
    rcases r with r | r | r
    · exact (h.gv q).2 (r ▸ hb)
    · rcases h.hwv q p with s | s
      · rw [s] at hb; cases hb
      · exact s (hb.trans r.symm)
    · rcases h.hww q p e with s | s
      · rw [s] at hb; cases hb
      · exact s (hb.trans r.symm)
  have rlt : ∀ q b, (vv q).ownBlock = some b ∨ (wv q).ownBlock = some b → b < w.heap.size := fun q b hb => h.sub (.inr ⟨q, hb⟩)
  have vnew : ∀ b, v.ownBlock = some b → b < w.heap.size ∧ ¬ BSt g vv wv b := fun b e => ⟨(h.t b (hT b e)).1, (h.t b (hT b e)).2.1⟩
  have vother : ∀ q, q ∈ k.K → ∀ j, j < n q → v.ownBlock = none ∨ v.ownBlock ≠ (vs q j).ownBlock := fun q hq j hj => by
    cases e : v.ownBlock with
    | none => exact .inl rfl
    | some b => exact .inr (fun e2 => (h.t b (hT b e)).2.2 q hq j hj e2.symm)
  refine ⟨⟨h.base, P.box, fun q hq => ?_, fun q => ?_, fun q hq => ?_, fun q hq => ?_, fun q hq j hj => ?_, fun q hq j hj => ?_, fun q hq j hj => ?_, fun q hq j hj b hb => ?_, fun q hq j hj b hb => ?_, fun q => ?_, fun q r e => ?_, fun q r e => ?_, fun q r => ?_, fun q r hq hr i j hi hj hij => ?_, fun b hb => ?_⟩, old⟩
  · have e : q ≠ p := fun e => hq (e ▸ hp)
    rw [upd_ne _ _ e, upd_ne _ _ e]; exact h.emp q hq
  · by_cases e : q = p
    · subst e; rw [upd_same]; omega
    · rw [upd_ne _ _ e]; exact h.few q
  · by_cases e : q = p
    · subst e; rw [upd_same, upd_same, upd_same, row]; exact P.rv
    · rw [upd_ne _ _ e, upd_ne _ _ e, upd_ne _ _ e]; exact P.fr.own (h.rv q hq) (rvo q e)
  · by_cases e : q = p
    · subst e; rw [upd_same, upd_same, upd_same, row]; exact P.ru
    · rw [upd_ne _ _ e, upd_ne _ _ e, upd_ne _ _ e]; exact P.fr.own (h.ru q hq) (rwo q e)
  · by_cases e : q = p
    · subst e
      rw [upd_same] at hj
      rw [upd_same, upd_same, upd_same]
      by_cases e2 : j = n q
      · subst e2; rw [upd_same, upd_same, upd_same]; exact P.fr.own hv (fun b hb => frs b (vnew b hb).2)
      · rw [upd_ne _ _ e2, upd_ne _ _ e2, upd_ne _ _ e2]
        exact P.fr.own (h.own q hq j (by omega)) (fun b hb => frs b (h.vap q hq j (by omega) b hb))
    · rw [upd_ne _ _ e] at hj
      rw [upd_ne _ _ e, upd_ne _ _ e, upd_ne _ _ e]
      exact P.fr.own (h.own q hq j hj) (fun b hb => frs b (h.vap q hq j hj b hb))
  · by_cases e : q = p
    · subst e
      rw [upd_same] at hj
      rw [upd_same]
      by_cases e2 : j = n q
      · subst e2; rw [upd_same]; exact hl
      · rw [upd_ne _ _ e2]; exact h.small q hq j (by omega)
    · rw [upd_ne _ _ e] at hj
      rw [upd_ne _ _ e]; exact h.small q hq j hj
  · by_cases e : q = p
    · subst e
      rw [upd_same] at hj
      rw [upd_same, upd_same, upd_same]
      by_cases e2 : j = n q
      · subst e2; rw [upd_same, upd_same, upd_same]; exact P.q
      · rw [upd_ne _ _ e2, upd_ne _ _ e2, upd_ne _ _ e2]
        exact k.st P.fr (fun b hb => frs b (h.dlt q hq j (by omega) b hb).2) (h.q q hq j (by omega))
    · rw [upd_ne _ _ e] at hj
      rw [upd_ne _ _ e, upd_ne _ _ e, upd_ne _ _ e]
      exact k.st P.fr (fun b hb => frs b (h.dlt q hq j hj b hb).2) (h.q q hq j hj)
  · by_cases e : q = p
    · subst e
      rw [upd_same] at hj
      rw [upd_same] at hb
      by_cases e2 : j = n q
      · subst e2
        rw [upd_same] at hb
        obtain ⟨d1, d2, d3, d4⟩ := P.dn b hb
        refine ⟨d1, fun hs => ?_⟩
        rcases d2 with d2 | d2
        · exact old b (hD b d2).1 (hD b d2).2 hs
        · rcases hs with s | ⟨r, s⟩
          · omega
          · by_cases e3 : r = q
            · subst e3
              rw [upd_same, upd_same] at s
              rcases s with s | s
              · exact d3 s
              · exact d4 s
            · rw [upd_ne _ _ e3, upd_ne _ _ e3] at s
              have := rlt r b s; omega
      · rw [upd_ne _ _ e2] at hb
        have := h.dlt q hq j (by omega) b hb
        exact ⟨Nat.lt_of_lt_of_le this.1 P.fr.size, old b this.1 this.2⟩
    · rw [upd_ne _ _ e] at hj
      rw [upd_ne _ _ e] at hb
      have := h.dlt q hq j hj b hb
      exact ⟨Nat.lt_of_lt_of_le this.1 P.fr.size, old b this.1 this.2⟩
  · by_cases e : q = p
    · subst e
      rw [upd_same] at hj
      rw [upd_same] at hb
      by_cases e2 : j = n q
      · subst e2
        rw [upd_same] at hb
        exact old b (vnew b hb).1 (vnew b hb).2
      · rw [upd_ne _ _ e2] at hb
        exact old b (World.ownsRow.lt (h.own q hq j (by omega)) b hb).2 (h.vap q hq j (by omega) b hb)
    · rw [upd_ne _ _ e] at hj
      rw [upd_ne _ _ e] at hb
      exact old b (World.ownsRow.lt (h.own q hq j hj) b hb).2 (h.vap q hq j hj b hb)
  · by_cases e : q = p
    · subst e
      rw [upd_same, upd_same]
      refine ⟨fun e => ?_, fun e => ?_⟩
      · rcases P.bv g e with s | s
        · exact (h.gv q).1 s
        · omega
      · rcases P.bu g e with s | s
        · exact (h.gv q).2 s
        · omega
    · rw [upd_ne _ _ e, upd_ne _ _ e]; exact h.gv q
  · by_cases e1 : q = p
    · subst e1
      rw [upd_same, upd_ne _ _ (Ne.symm e)]
      cases eb : vv'.ownBlock with
      | none => exact .inl rfl
      | some b =>
        refine .inr (fun e2 => ?_)
        rcases P.bv b eb with s | s
        · exact rvo r (Ne.symm e) b e2.symm (.inr (.inl s))
        · have := rlt r b (.inl e2.symm); omega
    · rw [upd_ne _ _ e1]
      by_cases e3 : r = p
      · subst e3
        rw [upd_same]
        cases eb : (vv q).ownBlock with
        | none => exact .inl rfl
        | some b =>
          refine .inr (fun e2 => ?_)
          rcases P.bv b e2.symm with s | s
          · exact rvo q e1 b eb (.inr (.inl s))
          · have := rlt q b (.inl eb); omega
      · rw [upd_ne _ _ e3]; exact h.hvv q r e
  · by_cases e1 : q = p
    · subst e1
      rw [upd_same, upd_ne _ _ (Ne.symm e)]
      cases eb : wv'.ownBlock with
      | none => exact .inl rfl
      | some b =>
        refine .inr (fun e2 => ?_)
        rcases P.bu b eb with s | s
        · exact rwo r (Ne.symm e) b e2.symm (.inr (.inr s))
        · have := rlt r b (.inr e2.symm); omega
    · rw [upd_ne _ _ e1]
      by_cases e3 : r = p
      · subst e3
        rw [upd_same]
        cases eb : (wv q).ownBlock with
        | none => exact .inl rfl
        | some b =>
          refine .inr (fun e2 => ?_)
          rcases P.bu b e2.symm with s | s
          · exact rwo q e1 b eb (.inr (.inr s))
          · have := rlt q b (.inr eb); omega
      · rw [upd_ne _ _ e3]; exact h.hww q r e
  · by_cases e1 : q = p
    · subst e1
      rw [upd_same]
      by_cases e3 : r = q
      · subst e3; rw [upd_same]; exact P.avu
      · rw [upd_ne _ _ e3]
        cases eb : wv'.ownBlock with
        | none => exact .inl rfl
        | some b =>
          refine .inr (fun e2 => ?_)
          rcases P.bu b eb with s | s
          · exact rvo r e3 b e2.symm (.inr (.inr s))
          · have := rlt r b (.inl e2.symm); omega
    · rw [upd_ne _ _ e1]
      by_cases e3 : r = p
      · subst e3
        rw [upd_same]
        cases eb : (wv q).ownBlock with
        | none => exact .inl rfl
        | some b =>
          refine .inr (fun e2 => ?_)
          rcases P.bv b e2.symm with s | s
          · exact rwo q e1 b eb (.inr (.inl s))
          · have := rlt q b (.inr eb); omega
      · rw [upd_ne _ _ e3]; exact h.hwv q r
  · by_cases e1 : q = p
    · subst e1
      rw [upd_same] at hi
      rw [upd_same]
      by_cases e2 : r = q
      · subst e2
        rw [upd_same] at hj
        rw [upd_same]
        by_cases e3 : i = n r
        · subst e3
          rw [upd_same, upd_ne _ _ (by omega)]
          exact vother r hr j (by omega)
        · rw [upd_ne _ _ e3]
          by_cases e4 : j = n r
          · subst e4
            rw [upd_same]
            rcases vother r hr i (by omega) with s | s
            · cases hs : (vs r i).ownBlock with
              | none => exact .inl rfl
              | some b => exact .inr (by rw [s]; exact fun h => by cases h)
            · exact .inr (fun h => s h.symm)
          · rw [upd_ne _ _ e4]
            exact h.avv r r hr hr i j (by omega) (by omega) hij
      · rw [upd_ne _ _ e2] at hj
        rw [upd_ne _ _ e2]
        by_cases e3 : i = n q
        · subst e3; rw [upd_same]; exact vother r hr j hj
        · rw [upd_ne _ _ e3]; exact h.avv q r hq hr i j (by omega) hj (.inl (Ne.symm e2))
    · rw [upd_ne _ _ e1] at hi
      rw [upd_ne _ _ e1]
      by_cases e2 : r = p
      · subst e2
        rw [upd_same] at hj
        rw [upd_same]
        by_cases e4 : j = n r
        · subst e4
          rw [upd_same]
          rcases vother q hq i hi with s | s
          · cases hs : (vs q i).ownBlock with
            | none => exact .inl rfl
            | some b => exact .inr (by rw [s]; exact fun h => by cases h)
          · exact .inr (fun h => s h.symm)
        · rw [upd_ne _ _ e4]; exact h.avv q r hq hr i j hi (by omega) (.inl e1)
      · rw [upd_ne _ _ e2] at hj
        rw [upd_ne _ _ e2]
        exact h.avv q r hq hr i j hi hj hij
  · obtain ⟨t1, t2, t3⟩ := h.t b hb.1
    refine ⟨Nat.lt_of_lt_of_le t1 P.fr.size, old b t1 t2, fun q hq j hj => ?_⟩
    by_cases e : q = p
    · subst e
      rw [upd_same] at hj
      rw [upd_same]
      by_cases e2 : j = n q
      · subst e2; rw [upd_same]; exact hb.2
      · rw [upd_ne _ _ e2]; exact t3 q hq j (by omega)
    · rw [upd_ne _ _ e] at hj
      rw [upd_ne _ _ e]; exact t3 q hq j hj
end
/-- a book that is written on, with the blocks T that no call of its functions touches -/
def BQ (k : BKd) (B : Nat) (W : World) (g : Nat) (T : Nat → Prop) : Prop := ∃ n vv wv vs us ln cs D, BookX k B W g n vv wv vs us ln cs D T
section
variable {k : BKd} {B : Nat} {W W' : World} {g : Nat} {T T' : Nat → Prop}
theorem BQ.keep (h : BQ k B W g T) (hb : Bl W W') : BQ k B W' g T := by
  obtain ⟨n, vv, wv, vs, us, ln, cs, D, h⟩ := h
  exact ⟨n, vv, wv, vs, us, ln, cs, D, h.keep hb⟩
theorem BQ.less (h : BQ k B W g T) (ht : ∀ b, T' b → T b) : BQ k B W g T' := by
  obtain ⟨n, vv, wv, vs, us, ln, cs, D, h⟩ := h
  exact ⟨n, vv, wv, vs, us, ln, cs, D, h.less ht⟩
theorem BQ.more (h : BQ k B W g T) (hb : Bl W W') : BQ k B W' g (fun b => T b ∨ W.heap.size ≤ b ∧ b < W'.heap.size) := by
  obtain ⟨n, vv, wv, vs, us, ln, cs, D, h⟩ := h
  exact ⟨n, vv, wv, vs, us, ln, cs, D, h.more hb⟩
theorem BQ.new (hB : B ≤ g) (h : AC W g (hsOf (fun _ => .slice none 0 0) (fun _ => .slice none 0 0))) (ht : ∀ b, T b → b < W.heap.size ∧ b ≠ g) : BQ k B W g T := by
  refine ⟨fun _ => 0, fun _ => .slice none 0 0, fun _ => .slice none 0 0, fun _ _ => undef, fun _ _ => undef, fun _ _ => 0, fun _ _ => [], fun _ _ _ => False, hB, h, fun p hp => ⟨rfl, rfl⟩, fun p => Nat.zero_le _, fun p hp => World.ownsRow_nil _ _ _ _, fun p hp => World.ownsRow_nil _ _ _ _, fun p hp j hj => absurd hj (Nat.not_lt_zero _), fun p hp j hj => absurd hj (Nat.not_lt_zero _), fun p hp j hj => absurd hj (Nat.not_lt_zero _), fun p hp j hj => absurd hj (Nat.not_lt_zero _), fun p hp j hj => absurd hj (Nat.not_lt_zero _), fun p => ⟨(fun e => by cases e), (fun e => by cases e)⟩, fun p q e => .inl rfl, fun p q e => .inl rfl, fun p q => .inl rfl, fun p q hp hq i j hi => absurd hi (Nat.not_lt_zero _), fun b hb => ⟨(ht b hb).1, ?_, fun p hp j hj => absurd hj (Nat.not_lt_zero _)⟩⟩
  rintro (q | ⟨p, q | q⟩)
  · exact (ht b hb).2 q
  · cases q
  · cases q
end
end Go.Proofs.YtfjjnffifnohkaaGreat
end

/- Regions that draw their order and hold calls that may panic (Ext2's laws, with what holds at a panic; the class of worlds is asked only while something is left). · append in a drawn region whose calls may panic; worlds that hold a box. By an AI agent. -/
section
set_option linter.unusedVariables false
namespace Go.Proofs.YtfjjnffifnohkaaGreat
open Go.RowKit

section
variable {P : Program} {ops : Array Oper} {md : Region.Mode} {C : World → Prop} {R : List PanicEntry → World → Prop} {L : List Nat}

def pUpon (P : Program) (R : List PanicEntry → World → Prop) (o : Oper) (a : Act) (K : Act → World → Prop) : Result Next → Prop
  | .ok (.value u) w' => K (a.put o.dst u) w'
  | .ok .skip w' => K (a.put o.dst undef) w'
  | .ok (.enter f args) w' => Calls P f args w' (fun e w'' => (∃ v, e = .returned v ∧ K (a.put o.dst v) w'') ∨ (∃ c, e = .panicked c ∧ R c w''))
  | _ => False
def pOper (P : Program) (R : List PanicEntry → World → Prop) (o : Oper) (a : Act) (w : World) (K : Act → World → Prop) : Prop := pUpon P R o a K ((execOp a.eval o).run P w)
def pOp (P : Program) (R : List PanicEntry → World → Prop) (ops : Array Oper) (i : Nat) (K : Act → World → Prop) (a : Act) (w : World) : Prop :=
  match ops[i]? with
  | none => K a w
  | some o => if Region.wanted o (yielded ops a.tmps) then pOper P R o a w K else K (a.put o.dst undef) w

theorem pUpon_mono {o : Oper} {a : Act} {K K' : Act → World → Prop} (h : ∀ a w, K a w → K' a w) {r : Result Next} (hh : pUpon P R o a K r) : pUpon P R o a K' r := by
  cases r with
  | ok n w' =>
    cases n <;> simp only [pUpon] at hh ⊢
    case value u => exact h _ _ hh
    case skip => exact h _ _ hh
    case enter f args =>
      refine hh.mono fun e w'' hk => ?_
      rcases hk with ⟨v, he, hk⟩ | hk
      · exact .inl ⟨v, he, h _ _ hk⟩
      · exact .inr hk
  | halt x w' => simp only [pUpon] at hh
theorem pOp_mono {i : Nat} {a : Act} {w : World} {K K' : Act → World → Prop} (h : ∀ a w, K a w → K' a w) (hh : pOp P R ops i K a w) : pOp P R ops i K' a w := by
  unfold pOp at *
  split
  · exact h _ _ (by simpa [*] using hh)
  · rename_i o ho
    simp only [ho] at hh
    split
    · rename_i hw; simp only [hw, if_true] at hh; exact pUpon_mono h hh
    · rename_i hw; simp only [hw] at hh; exact h _ _ hh
theorem put_defers (a : Act) (d : Option Nat) (v : Value) : (a.put d v).defers = a.defers := by cases d <;> rfl
theorem wpOp_of_pOp {i : Nat} {a : Act} {w : World} {K : Act → World → Prop} {Q : Exit → Act → World → Prop} (hR : ∀ c w, R c w → Q (.panic c) a w) (hh : pOp P R ops i K a w) : wpOp P ops Q i (fun a' w' => K a' w' ∧ a'.defers = a.defers) a w := by
  unfold pOp at hh
  unfold wpOp
  split
  · rename_i ho; simp only [ho] at hh; exact ⟨hh, rfl⟩
  · rename_i o ho
    simp only [ho] at hh
    split
    · rename_i hw
      simp only [hw, if_true] at hh
      refine .inl ?_
      unfold pOper at hh
      unfold Oper.wp
      generalize (execOp a.eval o).run P w = r at *
      cases r with
      | ok n w' =>
        cases n <;> simp only [pUpon] at hh <;> simp only [Oper.upon]
        case value u => exact ⟨hh, put_defers _ _ _⟩
        case skip => exact ⟨hh, put_defers _ _ _⟩
        case enter f args =>
          refine hh.mono fun e w'' hk => ?_
          rcases hk with ⟨v, rfl, hk⟩ | ⟨c, rfl, hk⟩
          · exact ⟨hk, put_defers _ _ _⟩
          · exact hR _ _ hk
      | halt x w' => simp only [pUpon] at hh
    · rename_i hw; simp only [hw] at hh; exact ⟨hh, put_defers _ _ _⟩

/-- whatever order is picked from here on, and whatever is laid behind meanwhile -/
def wpAnyP (P : Program) (R : List PanicEntry → World → Prop) (md : Region.Mode) (ops : Array Oper) (C : World → Prop) (L : List Nat) (Q : Act → World → Prop) : Nat → Array Bool → Act → World → Prop
  | 0, listed, a, w => Region.ready md ops listed = [] ∧ ∀ w', Bl w w' → Q a w'
  | fuel + 1, listed, a, w =>
    (Region.ready md ops listed = [] → ∀ w', Bl w w' → Q a w') ∧
    ∀ i ∈ Region.ready md ops listed, ∀ w', Bl w w' → pOp P R ops i (fun a'' w'' => (i ∉ L → C w'') ∧ wpAnyP P R md ops C L Q fuel (listed.setIfInBounds i true) a'' w'') a w'

theorem wpAnyP_ext {Q : Act → World → Prop} : ∀ {fuel : Nat} {listed : Array Bool} {a : Act} {w w' : World}, Bl w w' → wpAnyP P R md ops C L Q fuel listed a w → wpAnyP P R md ops C L Q fuel listed a w'
  | 0, _, _, _, _, hb, h => ⟨h.1, fun w'' h2 => h.2 w'' (hb.trans h2)⟩
  | _ + 1, _, _, _, _, hb, h => ⟨fun h0 w'' h2 => h.1 h0 w'' (hb.trans h2), fun i hi w'' h2 => h.2 i hi w'' (hb.trans h2)⟩
theorem wpAny_of_P {Q : Act → World → Prop} {Q' : Exit → Act → World → Prop} (ds : Act) (hQ : ∀ a w, Q a w → Q' .normal a w) (hR : ∀ c a w, a.defers = ds.defers → R c w → Q' (.panic c) a w) : ∀ (fuel : Nat) (listed : Array Bool) (a : Act) (w : World), a.defers = ds.defers →
    wpAnyP P R md ops C L Q fuel listed a w → wpAny P md ops Q' fuel listed a w
  | 0, _, _, _, _, h => ⟨h.1, hQ _ _ (h.2 _ (Bl.refl _))⟩
  | fuel + 1, _, _, _, hd, h => ⟨fun h0 => hQ _ _ (h.1 h0 _ (Bl.refl _)), fun i hi => wpOp_mono (fun _ _ k => wpAny_of_P ds hQ hR fuel _ _ _ (k.2.trans hd) k.1.2) (wpOp_of_pOp (fun c w k => hR c _ w hd k) (h.2 i hi _ (Bl.refl _)))⟩

theorem YE.pOp {i : Nat} {o : Oper} {v : Value} {a : Act} {w : World} (hi : ops[i]? = some o) (hy : YE P ops C o v a) (hw0 : C w) {K : Act → World → Prop} (h : ∀ w', Bl w w' → K (a.put o.dst v) w') : Go.Proofs.YtfjjnffifnohkaaGreat.pOp P R ops i K a w := by
  unfold Go.Proofs.YtfjjnffifnohkaaGreat.pOp
  simp only [hi]
  rcases hy with ⟨hw, hv⟩ | ⟨hw, rfl⟩
  · simp only [hw, if_true]
    have h3 := hv w hw0
    unfold Oper.quietAt at h3
    unfold pOper
    generalize (execOp a.eval o).run P w = r at *
    cases r with
    | ok n w' =>
      cases n <;> simp only [Oper.quietUpon] at h3 <;> simp only [pUpon]
      case value u =>
        obtain ⟨e1, e2⟩ := h3
        rw [e1, e2]; exact h _ (Bl.refl _)
      case skip =>
        obtain ⟨e1, e2⟩ := h3
        rw [e1, ← e2]; exact h _ (Bl.refl _)
      case enter f args =>
        obtain ⟨e1, hc⟩ := h3
        rw [e1]
        exact hc.mono fun e w'' ⟨he, hb⟩ => .inl ⟨v, he, h _ hb⟩
    | halt x w' => simp only [Oper.quietUpon] at h3
  · simp only [hw, Bool.false_eq_true, if_false]; exact h _ (Bl.refl _)

theorem pOp_put {j : Nat} {oi oj : Oper} {v : Value} (hj : ops[j]? = some oj) (hap : oi.apart ops oj = true)
    (hsi : ∀ cs b, oi.op ≠ .select cs b) (hsj : ∀ cs b, oj.op ≠ .select cs b) {K : Act → World → Prop} {a : Act} {w : World}
    (hy : YE P ops C oi v a) (h : pOp P R ops j K (a.put oi.dst v) w) :
    pOp P R ops j (fun a' w' => YE P ops C oi v a' ∧ K (a'.put oi.dst v) w') a w := by
  obtain ⟨h1, h2, h3⟩ := Oper.apart_spec hap
  have keep : ∀ (a : Act), YE P ops C oi v a → ∀ u, YE P ops C oi v (a.put oj.dst u) := fun a hy u =>
    hy.of_same (execOp_put oi hsi a oj.dst u h3) (wanted_put oi a oj.dst u h3)
  unfold Go.Proofs.YtfjjnffifnohkaaGreat.pOp at *
  simp only [hj] at *
  rw [wanted_put oj a oi.dst v h1] at h
  split
  · rename_i hw
    simp only [hw, if_true] at h
    unfold pOper at *
    rw [execOp_put oj hsj a oi.dst v h1] at h
    generalize (execOp a.eval oj).run P w = r at *
    cases r with
    | ok n w' =>
      cases n <;> simp only [pUpon] at h ⊢
      case value u => exact ⟨keep a hy u, by rw [← Act.put_comm a v u h2]; exact h⟩
      case skip => exact ⟨keep a hy _, by rw [← Act.put_comm a v undef h2]; exact h⟩
      case enter f args =>
        refine h.mono fun e w'' hk => ?_
        rcases hk with ⟨u, he, hk⟩ | hk
        · exact .inl ⟨u, he, keep a hy u, by rw [← Act.put_comm a v u h2]; exact hk⟩
        · exact .inr hk
    | halt x w' => simp only [pUpon] at h
  · rename_i hw
    simp only [hw] at h
    exact ⟨keep a hy _, by rw [← Act.put_comm a v undef h2]; exact h⟩


theorem wpAnyP_one {Q : Act → World → Prop} {i fuel : Nat} {listed : Array Bool} {a : Act} {w : World} (hr : Region.ready md ops listed = [i])
    (h : ∀ w', Bl w w' → pOp P R ops i (fun a'' w'' => (i ∉ L → C w'') ∧ wpAnyP P R md ops C L Q fuel (listed.setIfInBounds i true) a'' w'') a w') : wpAnyP P R md ops C L Q (fuel + 1) listed a w :=
  ⟨fun h0 => (by rw [hr] at h0; cases h0), fun j hj => by
    rw [hr, List.mem_singleton] at hj; subst hj; exact h⟩
theorem wpAnyP_done {Q : Act → World → Prop} {fuel : Nat} {listed : Array Bool} {a : Act} {w : World} (hr : Region.ready md ops listed = []) (h : ∀ w', Bl w w' → Q a w') : wpAnyP P R md ops C L Q fuel listed a w := by
  cases fuel with
  | zero => exact ⟨hr, h⟩
  | succ fuel => exact ⟨fun _ => h, fun i hi => by rw [hr] at hi; cases hi⟩
end
end Go.Proofs.YtfjjnffifnohkaaGreat

set_option linter.unusedVariables false
set_option linter.unusedSimpArgs false
namespace Go.Proofs.YtfjjnffifnohkaaGreat
open Go.RowKit
attribute [local go_sem] eOp eOper eUpon pOp pOper pUpon

section
variable {P : Program} {ops : Array Oper} {md : Region.Mode} {C : World → Prop} {R : List PanicEntry → World → Prop} {L : List Nat}
/-- does the j-th stand behind the i-th, through whatever others? -/
def behindT (md : Region.Mode) (ops : Array Oper) (i : Nat) : Nat → Nat → Bool
  | 0, _ => false
  | f + 1, j => match ops[j]? with
    | none => false
    | some o => o.after.any fun e => Region.binds md e && (e.on == i || behindT md ops i f e.on)
/-- what is listed has all that it stands behind listed -/
def Clo (md : Region.Mode) (ops : Array Oper) (listed : Array Bool) : Prop := ∀ j o, ops[j]? = some o → listed.getD j false = true → ∀ e ∈ o.after, Region.binds md e = true → listed.getD e.on false = true
theorem Clo.behind {md : Region.Mode} {ops : Array Oper} {listed : Array Bool} {i : Nat} (h : Clo md ops listed) : ∀ f j, listed.getD j false = true → behindT md ops i f j = true → listed.getD i false = true
  | 0, _, _, hb => by cases hb
  | f + 1, j, hj, hb => by
    unfold behindT at hb
    split at hb
    · cases hb
    · rename_i o ho
      obtain ⟨e, he, hb⟩ := Array.any_eq_true'.1 hb
      simp only [Bool.and_eq_true, Bool.or_eq_true, beq_iff_eq] at hb
      have h1 := h j o ho hj e he hb.1
      rcases hb.2 with h2 | h2
      · rw [← h2]; exact h1
      · exact Clo.behind h f e.on h1 h2
theorem ready_behind {md : Region.Mode} {ops : Array Oper} {listed : Array Bool} {i j : Nat} (h : Clo md ops listed) (hj : j ∈ Region.ready md ops listed) {f : Nat} (hb : behindT md ops i f j = true) : listed.getD i false = true := by
  obtain ⟨_, o, ho, hall⟩ := mem_ready.1 hj
  cases f with
  | zero => cases hb
  | succ f =>
    unfold behindT at hb
    rw [ho] at hb
    obtain ⟨e, he, hb⟩ := Array.any_eq_true'.1 hb
    simp only [Bool.and_eq_true, Bool.or_eq_true, beq_iff_eq] at hb
    have h1 := hall e he hb.1
    rcases hb.2 with h2 | h2
    · rw [← h2]; exact h1
    · exact h.behind f e.on h1 h2
theorem Clo.set {md : Region.Mode} {ops : Array Oper} {listed : Array Bool} {j : Nat} (h : Clo md ops listed) (hj : j ∈ Region.ready md ops listed) : Clo md ops (listed.setIfInBounds j true) := by
  intro k o hk hl e he hb
  by_cases hkj : k = j
  · subst hkj
    obtain ⟨_, o', ho', hall⟩ := mem_ready.1 hj
    rw [hk] at ho'
    obtain rfl := Option.some.inj ho'
    exact getD_set_true (hall e he hb)
  · rw [getD_set_ne false (Ne.symm hkj)] at hl
    exact getD_set_true (h k o hk hl e he hb)
theorem Clo.none (md : Region.Mode) (ops : Array Oper) (n : Nat) : Clo md ops (Array.replicate n false) := by
  intro j o _ hl
  exfalso
  rcases Nat.lt_or_ge j n with h | h
  · simp [h] at hl
  · simp [h] at hl
theorem wpAnyP_firstT (hcl : ∀ w w', C w → Bl w w' → C w') {Q : Act → World → Prop} {i : Nat} {oi : Oper} {v : Value} (hi : ops[i]? = some oi) (hsel : ∀ (j : Nat) (o : Oper) cs b, ops[j]? = some o → o.op ≠ .select cs b) :
    (L.all fun j => behindT md ops i ops.size j) = true → ∀ (fuel : Nat) (listed : Array Bool) (a : Act) (w : World), Clo md ops listed → C w →
      (∀ j oj, ops[j]? = some oj → j ≠ i → listed.getD j true = false → (∀ e ∈ oj.after, Region.binds md e = true → e.on ≠ i) → oi.apart ops oj = true) →
      i ∈ Region.ready md ops listed → YE P ops C oi v a →
      wpAnyP P R md ops C L Q fuel (listed.setIfInBounds i true) (a.put oi.dst v) w → wpAnyP P R md ops C L Q (fuel + 1) listed a w := by
  intro hL fuel
  induction fuel with
  | zero =>
    intro listed a w hclo hb _ hr hy H
    refine ⟨fun h => (by rw [h] at hr; cases hr), fun j hj w' hb' => ?_⟩
    by_cases hji : j = i
    · subst hji; exact hy.pOp hi (hcl _ _ hb hb') fun w'' hb'' => ⟨fun _ => hcl _ _ hb (hb'.trans hb''), wpAnyP_ext (hb'.trans hb'') H⟩
    · have := ready_mono hj hji
      rw [H.1] at this
      cases this
  | succ fuel ih =>
    intro listed a w hclo hb hfree hr hy H
    refine ⟨fun h => (by rw [h] at hr; cases hr), fun j hj w' hb' => ?_⟩
    by_cases hji : j = i
    · subst hji; exact hy.pOp hi (hcl _ _ hb hb') fun w'' hb'' => ⟨fun _ => hcl _ _ hb (hb'.trans hb''), wpAnyP_ext (hb'.trans hb'') H⟩
    · have h1 := H.2 j (ready_mono hj hji) w' hb'
      obtain ⟨hjun, oj, hoj, hall⟩ := mem_ready.1 hj
      have hnot : ∀ e ∈ oj.after, Region.binds md e = true → e.on ≠ i := fun e he hb heq => by
        have h1 := hall e he hb
        have h0 := (mem_ready.1 hr).1
        rw [heq] at h1
        rcases Nat.lt_or_ge i listed.size with h' | h'
        · simp [h'] at h0 h1; rw [h0] at h1; cases h1
        · simp [Array.getElem?_eq_none h'] at h1
      have hri : i ∈ Region.ready md ops (listed.setIfInBounds j true) := ready_mono hr (Ne.symm hji)
      have h2 := pOp_put hoj (hfree j oj hoj hji hjun hnot) (fun cs b => hsel i oi cs b hi) (fun cs b => hsel j oj cs b hoj) hy h1
      have hfree' : ∀ k ok, ops[k]? = some ok → k ≠ i → (listed.setIfInBounds j true).getD k true = false →
          (∀ e ∈ ok.after, Region.binds md e = true → e.on ≠ i) → oi.apart ops ok = true := fun k ok hk hki hun hno => by
        refine hfree k ok hk hki ?_ hno
        by_cases hjk : j = k
        · subst hjk; exact hjun
        · rw [getD_set_ne true hjk] at hun; exact hun
      refine pOp_mono (fun a' w'' h3 => ?_) h2
      have hjL : j ∉ L := fun hm => by
        have h0 := ready_behind hclo hj (List.all_eq_true.1 hL j hm)
        have h2 := (mem_ready.1 hr).1
        rcases Nat.lt_or_ge i listed.size with h' | h'
        · simp [h'] at h0 h2; rw [h2] at h0; cases h0
        · simp [Array.getElem?_eq_none h'] at h0
      have hC : C w'' := h3.2.1 hjL
      refine ⟨fun _ => hC, ih (listed.setIfInBounds j true) a' w'' (hclo.set hj) hC hfree' hri h3.1 ?_⟩
      rw [Array.setIfInBounds_comm _ _ hji]
      exact h3.2.2

theorem wpAnyP_idxT (hcl : ∀ w w', C w → Bl w w' → C w') {Q : Act → World → Prop} (hs : Region.noSelect ops = true) (m : Nat) (w : World) (hw : C w) : ∀ (is : List Nat) (listed : Array Bool) (a : Act), Clo md ops listed → (is.all fun i => L.all fun j => behindT md ops i ops.size j) = true →
    preB md ops is listed = true → wpI P ops C (fun a' => wpAnyP P R md ops C L Q m (setAll is listed) a' w) is a → wpAnyP P R md ops C L Q (is.length + m) listed a w
  | [], _, _, _, _, _, h => by rw [List.length_nil, Nat.zero_add]; exact h
  | i :: is, listed, a, hclo, hbe, hB, h => by
    simp only [preB, Bool.and_eq_true] at hB
    simp only [List.all_cons, Bool.and_eq_true] at hbe
    obtain ⟨⟨hr, hf⟩, hB'⟩ := hB
    obtain ⟨o, h0, h⟩ := h
    rw [List.length_cons, show is.length + 1 + m = (is.length + m) + 1 by omega]
    have key : ∀ v, YE P ops C o v a → wpI P ops C (fun a' => wpAnyP P R md ops C L Q m (setAll (i :: is) listed) a' w) is (a.put o.dst v) → wpAnyP P R md ops C L Q (is.length + m + 1) listed a w := fun v hy hK =>
      wpAnyP_firstT hcl h0 (Region.noSelect_spec hs) hbe.1 (is.length + m) listed a w hclo hw (Region.free_spec h0 hf) (by simpa using hr) hy
        (wpAnyP_idxT hcl hs m w hw is _ _ (hclo.set (by simpa using hr)) hbe.2 hB' hK)
    split at h
    · rename_i hw
      obtain ⟨v, hv, hK⟩ := h
      exact key v (.inl ⟨hw, fun w hb => hv ⟨w, hb⟩⟩) hK
    · rename_i hw
      exact key undef (.inr ⟨by simpa using hw, rfl⟩) h
/-- a region of which the named operations only tell or call and may be taken first; the others may panic; C need not hold behind those of L -/
theorem wp_region_panicsT {id : Nat} {Q : Exit → Act → World → Prop} {a : Act} {w : World} {l : List Oper} (is : List Nat) (m : Nat) (C : World → Prop) (hcl : ∀ w w', C w → Bl w w' → C w') (hw : C w.drew) (L : List Nat) (R : List PanicEntry → World → Prop) (hR : ∀ c t w, R c w → Q (.panic c) { a with tmps := t } w)
    (hm : P.follows .mixedOrders = true) (hn : l.length = is.length + m)
    (hs : Region.noSelect l.toArray = true) (hL : (is.all fun i => L.all fun j => behindT .any l.toArray i l.toArray.size j) = true) (hB : preB .any l.toArray is (Array.replicate l.length false) = true)
    (h : wpI P l.toArray C (fun a' => wpAnyP P R .any l.toArray C L (fun a w => Q .normal a w) m (setAll is (Array.replicate l.length false)) a' w.drew) is a) :
    (Code.region id l.toArray true).wp P Q a w := by
  have hR' : ∀ c a' w, a'.defers = a.defers → R c w → Q (.panic c) a' w := fun c a' w hd hr => by
    have := hR c a'.tmps w hr
    obtain ⟨t, d⟩ := a'
    dsimp only at hd this
    subst hd
    exact this
  refine wp_region_any hm (wpAny_of_P (C := C) (L := L) (R := R) (Q := fun a w => Q .normal a w) a (fun _ _ h => h) hR' _ _ _ _ rfl ?_)
  have hk := wpAnyP_idxT (md := .any) (L := L) (R := R) hcl (Q := fun a w => Q .normal a w) hs m w.drew hw is (Array.replicate l.length false) a (Clo.none _ _ _) hL hB h
  have e : is.length + m = l.toArray.size := by simp; omega
  rw [e] at hk
  simpa using hk
end
section
variable {ops : Array Oper}
end
/-- worlds that hold a box -/
def HasBox (g : Nat) (cs : List Value) (W' : World) : Prop := AC W' g cs
theorem HasBox.keep {g : Nat} {cs : List Value} (w w' : World) (h : HasBox g cs w) (k : Bl w w') : HasBox g cs w' := AC.keep h k
end Go.Proofs.YtfjjnffifnohkaaGreat
end

/- a list more in a book: what the call leaves, in plain words. By an AI agent. -/
section
set_option linter.unusedVariables false
namespace Go.Proofs.YtfjjnffifnohkaaGreat
open Go.RowKit

theorem grown_set' (w : World) (g j : Nat) (u : Value) : w.grownBy (w.setCell ⟨g, j, none⟩ u) (some g) := ⟨rfl, rfl, rfl, by simp, fun k hk hne => Below.heap_setCell _ _ _ _ (fun e => hne (by rw [e]))⟩
theorem AC.setc {w : World} {g : Nat} {cs : List Value} (h : AC w g cs) (j : Nat) (v : Value) : AC (w.setCell ⟨g, j, none⟩ v) g (cs.set j v) := by
  obtain ⟨t, h⟩ := h
  exact ⟨t, by rw [heap_setCell_same w g j _ t v h]; simp⟩
theorem AC.at_ {w : World} {g : Nat} {cs : List Value} (h : AC w g cs) {j : Nat} {v : Value} (hj : cs[j]? = some v) : w.cell? ⟨g, j, none⟩ = some v := h.cell j v hj
theorem pOp_appk {ops : Array Oper} {R : List PanicEntry → World → Prop} {i : Nat} {o : Oper} {a : Act} {w : World} {K : Act → World → Prop} (ho' : ops[i]? = some o) (hgd : o.guard = none) (s x : Operand) (T : TypeId)
    (ho : o.op = .call { callee := .builtin .append, args := #[s, x], argTypes := #[T, T] }) {E : TypeId} {size bytes : Nat} (hT : EL T E size bytes) (B : Nat) (v : Value) (n : Nat) (xs : List Value) (hs : a.eval s = v) (hown : w.ownsRow B E size v n xs) (hB : B ≤ w.heap.size)
    (ad : Option Addr) (m c : Nat) (news : List Value) (hx : a.eval x = .slice ad m c) (hsc : SG w size ad m news) (h63 : n + m ≤ maxLen) (hbytes : (n + m) * bytes ≤ 140737488355328)
    (h : ∀ v' w', w'.ownsRow B E size v' (n + m) (xs ++ news) → w.grownBy w' v.ownBlock → (∀ b, v'.ownBlock = some b → v.ownBlock = some b ∨ w.heap.size ≤ b) → K (a.put o.dst v') w') : pOp Tryz.prog R ops i K a w := by
  obtain ⟨v', w', hr, h2, h3, h4, h5⟩ := run_appK hT o.type v n xs hown ad m c news hsc h63 hbytes hB
  unfold pOp
  simp only [ho']
  rw [if_pos (by simp [Region.wanted, hgd])]
  unfold pOper execOp
  simp only [ho, resolve, invoke, builtin, Sem.run_bind, Sem.run_pure, Result.andThen_ok, List.map_toArray, List.map_cons, List.map_nil, hs, hx, hr, pUpon]
  exact h v' w' h2 h3 h5
/-- what a call that keeps one more list leaves -/
structure RPk (L p B : Nat) (R : Value → World → (Nat → Prop) → Prop) (w W : World) (g n : Nat) (hs : List Value) (vv wv : Value) (vcs ucs : List Value) (v vv' wv' u : Value) (Dn : Nat → Prop) : Prop where
  box : AC W g ((hs.set p vv').set (p + 1) wv')
  rv : W.ownsRow B L 1 vv' (n + 1) (vcs ++ [v])
  ru : W.ownsRow B L 1 wv' (n + 1) (ucs ++ [u])
  rd : R u W Dn
  dn : ∀ b, Dn b → b < W.heap.size ∧ w.heap.size ≤ b ∧ vv'.ownBlock ≠ some b ∧ wv'.ownBlock ≠ some b
  fr : Fr (fun b => b = g ∨ vv.ownBlock = some b ∨ wv.ownBlock = some b) w W
  bv : ∀ b, vv'.ownBlock = some b → vv.ownBlock = some b ∨ w.heap.size ≤ b
  bu : ∀ b, wv'.ownBlock = some b → wv.ownBlock = some b ∨ w.heap.size ≤ b
  avu : wv'.ownBlock = none ∨ wv'.ownBlock ≠ vv'.ownBlock
end Go.Proofs.YtfjjnffifnohkaaGreat
end

/- a book of several kinds: from what a call leaves to the state of the book; rows that have grown. By an AI agent. -/
section
set_option linter.unusedVariables false
namespace Go.Proofs.YtfjjnffifnohkaaGreat
open Go.RowKit

section
variable {k : BKd} {B : Nat} {w W : World} {g : Nat} {n : Nat → Nat} {vv wv : Nat → Value} {vs us : Nat → Nat → Value} {ln : Nat → Nat → Nat} {cs : Nat → Nat → List Value} {D : Nat → Nat → Nat → Prop} {T : Nat → Prop}
theorem BookX.vpk {p : Nat} {R : Value → World → (Nat → Prop) → Prop} {v vv' wv' u : Value} {Dn Dv : Nat → Prop} (h : BookX k B w g n vv wv vs us ln cs D T)
    (P : RPk (k.L p) p B R w W g (n p) (hsOf vv wv) (vv p) (wv p) ((List.range (n p)).map (vs p)) ((List.range (n p)).map (us p)) v vv' wv' u Dn)
    (hp : ((hsOf vv wv).set p vv').set (p + 1) wv' = hsOf (upd vv p vv') (upd wv p wv')) (hD : ∀ b, Dv b → b < w.heap.size ∧ ¬ BSt g vv wv b) (hQ : R u W Dn → k.Q p v u W (fun b => Dn b ∨ Dv b)) :
    VPk k B w W g (n p) p vv wv vs us v vv' wv' u Dv (fun b => Dn b ∨ Dv b) := by
  refine ⟨by rw [← hp]; exact P.box, P.rv, P.ru, hQ P.rd, fun b hb => ?_, P.fr, P.bv, P.bu, P.avu⟩
  rcases hb with hb | hb
  · obtain ⟨d1, d2, d3, d4⟩ := P.dn b hb
    exact ⟨d1, .inr d2, d3, d4⟩
  · obtain ⟨e1, e2⟩ := hD b hb
    refine ⟨Nat.lt_of_lt_of_le e1 P.fr.size, .inl hb, fun e => ?_, fun e => ?_⟩
    · rcases P.bv b e with q | q
      · exact e2 (.inr ⟨p, .inl q⟩)
      · omega
    · rcases P.bu b e with q | q
      · exact e2 (.inr ⟨p, .inr q⟩)
      · omega
theorem BookX.bq (h : BookX k B w g n vv wv vs us ln cs D T) : BQ k B w g T := ⟨n, vv, wv, vs, us, ln, cs, D, h⟩
end
theorem Fr.wider {S S' : Nat → Prop} {w w' : World} (h : Fr S w w') (hs : ∀ b, S b → S' b) : Fr S' w w' := ⟨h.os, h.tape, h.output, h.size, fun k hk q => h.block k hk (fun q2 => q (hs k q2))⟩
/-! ### rows that have grown -/
structure GRs (E L : Nat) (m : MK) (B b0 n : Nat) (vs : Nat → Value) (ms : Nat → Nat) (W : World) (out : Value) (gs : Nat → Value) : Prop where
  row : W.ownsRow b0 L 1 out n ((List.range n).map gs)
  ogs : ∀ j, j < n → W.ownsRow B E m.z (gs j) (ms j + 72) (m.row j 0 (ms j + 72))
  ovs : ∀ j, j < n → W.ownsRow B E m.z (vs j) (ms j) (m.row j 0 (ms j))
  apg : ∀ j, j < n → ∀ b, (gs j).ownBlock = some b → (vs j).ownBlock = some b ∨ b0 ≤ b
section
variable {E L : Nat} {m : MK} {B b0 n : Nat} {vs : Nat → Value} {ms : Nat → Nat} {W W' : World} {out : Value} {gs : Nat → Value}
theorem GRk.grs {w : World} (h : GRk E L m B n vs ms w W n out gs) : GRs E L m B w.heap.size n vs ms W out gs := ⟨h.row, h.ogs, h.ovs, fun j hj b e => (h.apg j hj b e).imp_right (fun q => q.1)⟩
theorem GRs.fr {S : Nat → Prop} (h : GRs E L m B b0 n vs ms W out gs) (hf : Fr S W W') (h1 : ∀ b, S b → b < b0) (h2 : ∀ j, j < n → ∀ b, (vs j).ownBlock = some b → ¬ S b) : GRs E L m B b0 n vs ms W' out gs := by
  refine ⟨hf.own h.row (fun b e hs => ?_), fun j hj => hf.own (h.ogs j hj) (fun b e hs => ?_), fun j hj => hf.own (h.ovs j hj) (h2 j hj), h.apg⟩
  · have := (World.ownsRow.lt h.row b e).1
    have := h1 b hs; omega
  · rcases h.apg j hj b e with q | q
    · exact h2 j hj b q hs
    · have := h1 b hs; omega
theorem GRs.keep (h : GRs E L m B b0 n vs ms W out gs) (hb : Bl W W') : GRs E L m B b0 n vs ms W' out gs := ⟨ownsRow_bl h.row hb, fun j hj => ownsRow_bl (h.ogs j hj) hb, fun j hj => ownsRow_bl (h.ovs j hj) hb, h.apg⟩
end
/-- own rows of a kind, in a world -/
def OWk (B E z n : Nat) (vs : Nat → Value) (ln : Nat → Nat) (cs : Nat → List Value) (W : World) : Prop := ∀ j, j < n → W.ownsRow B E z (vs j) (ln j) (cs j)
theorem OWk.fr {B E z n : Nat} {vs : Nat → Value} {ln : Nat → Nat} {cs : Nat → List Value} {W W' : World} {S : Nat → Prop} (h : OWk B E z n vs ln cs W) (hf : Fr S W W') (h2 : ∀ b, SBk n vs b → ¬ S b) : OWk B E z n vs ln cs W' := fun j hj => hf.own (h j hj) (fun b e => h2 b ⟨j, hj, e⟩)
theorem OWk.keep {B E z n : Nat} {vs : Nat → Value} {ln : Nat → Nat} {cs : Nat → List Value} {W W' : World} (h : OWk B E z n vs ln cs W) (hb : Bl W W') : OWk B E z n vs ln cs W' := fun j hj => ownsRow_bl (h j hj) hb
section
variable {k : BKd} {B : Nat} {w : World} {g : Nat} {n : Nat → Nat} {vv wv : Nat → Value} {vs us : Nat → Nat → Value} {ln : Nat → Nat → Nat} {cs : Nat → Nat → List Value} {D : Nat → Nat → Nat → Prop} {T : Nat → Prop}
/-- what of a book's state says which blocks lie apart -/
theorem BookX.sb_g (h : BookX k B w g n vv wv vs us ln cs D T) {p : Nat} (hp : p ∈ k.K) : ¬ SBk (n p) (vs p) g := fun ⟨j, hj, e⟩ => h.vap p hp j hj g e (.inl rfl)
theorem BookX.sb_row (h : BookX k B w g n vv wv vs us ln cs D T) {p q : Nat} (hp : p ∈ k.K) {b : Nat} (e : (vv q).ownBlock = some b) : ¬ SBk (n p) (vs p) b := fun ⟨j, hj, e2⟩ => h.vap p hp j hj b e2 (.inr ⟨q, .inl e⟩)
theorem BookX.sb_sb (h : BookX k B w g n vv wv vs us ln cs D T) {p q : Nat} (hp : p ∈ k.K) (hq : q ∈ k.K) (hpq : p ≠ q) {b : Nat} (hb : SBk (n q) (vs q) b) : ¬ SBk (n p) (vs p) b := fun ⟨j, hj, e2⟩ => by
  obtain ⟨i, hi, e1⟩ := hb
  rcases h.avv p q hp hq j i hj hi (.inl hpq) with s | s
  · rw [s] at e2; cases e2
  · exact s (e2.trans e1.symm)
theorem BookX.sb_lt (h : BookX k B w g n vv wv vs us ln cs D T) {p : Nat} (hp : p ∈ k.K) {b : Nat} (hb : SBk (n p) (vs p) b) : b < w.heap.size ∧ B ≤ b ∧ ¬ T b := by
  obtain ⟨j, hj, e⟩ := hb
  have := World.ownsRow.lt (h.own p hp j hj) b e
  exact ⟨this.2, this.1, fun t => (h.t b t).2.2 p hp j hj e⟩
theorem BookX.ap (h : BookX k B w g n vv wv vs us ln cs D T) {p : Nat} (hp : p ∈ k.K) : ∀ i j, i < n p → j < n p → i ≠ j → (vs p i).ownBlock = none ∨ (vs p i).ownBlock ≠ (vs p j).ownBlock := fun i j hi hj hij => h.avv p p hp hp i j hi hj (.inr hij)
end
end Go.Proofs.YtfjjnffifnohkaaGreat
end

/- bedrockbook over vectors, in the words of all kinds. By an AI agent. -/
section
set_option linter.unusedVariables false
namespace Go.Proofs.YtfjjnffifnohkaaGreat
open Go.RowKit

theorem IA.ofOwn {B : Nat} {w : World} {a : Option Addr} {n c : Nat} {xs : List Int} (h : w.ownsRow B 3 1 (.slice a n c) n (xs.map (Value.int .i64))) (hl : xs.length = n) (hn : n ≤ 1000000) (hw : ∀ x ∈ xs, -9223372036854775808 ≤ x ∧ x ≤ 9223372036854775807) : IA w a n xs := by
  have ho : OI B w (.slice a n c) xs := by unfold OI; rw [hl]; exact h
  obtain ⟨a', n', c', e, i⟩ := ho.si (by omega) hw
  cases e
  exact i
theorem IA.fr {S : Nat → Prop} {w w' : World} (h : Fr S w w') {a : Option Addr} {n : Nat} {xs : List Int} (hp : IA w a n xs) (hs : ∀ b off, a = some ⟨b, off, none⟩ → 0 < n → ¬ S b) : IA w' a n xs := ⟨hp.len, hp.cap, fun j hj => by
  obtain ⟨b, off, e, hc⟩ := hp.cells j hj
  exact ⟨b, off, e, fun j hj => h.cell (hc j hj) (hs b off e (by omega))⟩, hp.wf⟩
def mkV : MK := ⟨1, fun i k => [.int .i64 (-1000000 * (i : Int) - (k : Int) - 9)], fun _ _ => rfl, by decide⟩
theorem markV_cells (i f n : Nat) : (markL i f n).map (Value.int .i64) = mkV.row i f n := by
  induction n with
  | zero => rfl
  | succ n ih => rw [mkV.row_succ, markL_succ, List.map_append, ih]; rfl
/-- a list and its copy read alike -/
def TwoV (v u : Value) (W : World) (D : Nat → Prop) : Prop := ∃ (ps : List Int) (a b : Option Addr) (n c d : Nat), v = .slice a n c ∧ u = .slice b n d ∧ IA W a n ps ∧ IA W b n ps ∧ (∀ x off, a = some ⟨x, off, none⟩ → 0 < n → D x) ∧ (∀ x off, b = some ⟨x, off, none⟩ → 0 < n → D x)
theorem TwoV.st {v u : Value} {W W' : World} {S D : Nat → Prop} (hf : Fr S W W') (hd : ∀ b, D b → ¬ S b) (h : TwoV v u W D) : TwoV v u W' D := by
  obtain ⟨ps, a, b, n, c, d, e1, e2, r1, r2, d1, d2⟩ := h
  exact ⟨ps, a, b, n, c, d, e1, e2, r1.fr hf (fun x off e hn => hd x (d1 x off e hn)), r2.fr hf (fun x off e hn => hd x (d2 x off e hn)), d1, d2⟩
/-- what own rows of vectors hold -/
theorem TwoV.ints {B : Nat} {v u : Value} {W : World} {D : Nat → Prop} {n : Nat} {cs : List Value} (h : TwoV v u W D) (ho : W.ownsRow B 3 1 v n cs) : ∃ xs : List Int, xs.length = n ∧ cs = xs.map (Value.int .i64) := by
  obtain ⟨ps, a, b, m, c, d, rfl, rfl, r1, r2, d1, d2⟩ := h
  obtain ⟨a2, c2, e⟩ := row_shape' ho
  cases e
  refine ⟨ps, r1.len, ?_⟩
  have hl := ho.1
  rw [Nat.mul_one] at hl
  refine List.ext_getElem (by rw [hl, List.length_map, r1.len]) fun j h1 h2 => ?_
  have hj : j < n := by omega
  obtain ⟨b', off, e, hc⟩ := r1.cells j hj
  subst e
  obtain ⟨_, ⟨e, _⟩ | ⟨g, cap, cur, e, _⟩⟩ := id ho
  · cases e
  · simp only [Value.slice.injEq, Option.some.injEq, Addr.mk.injEq, and_true, true_and] at e
    obtain ⟨⟨rfl, rfl⟩, rfl⟩ := e
    have q1 := hc j hj
    rw [Nat.zero_add, ho.cellAt j (by omega), List.getElem?_eq_getElem h1] at q1
    rw [List.getElem_map]
    have := Option.some.inj q1
    rw [this, nth_eq (by rw [r1.len]; exact hj)]
theorem pick_ints {B n : Nat} {vs us : Nat → Value} {ln : Nat → Nat} {cs : Nat → List Value} {D : Nat → Nat → Prop} {W : World} (hq : ∀ j, j < n → TwoV (vs j) (us j) W (D j)) (ho : ∀ j, j < n → W.ownsRow B 3 1 (vs j) (ln j) (cs j)) :
    ∃ xs : Nat → List Int, ∀ j, j < n → (xs j).length = ln j ∧ cs j = (xs j).map (Value.int .i64) := by
  classical
  refine ⟨fun j => if h : j < n then ((hq j h).ints (ho j h)).choose else [], fun j hj => ?_⟩
  dsimp only
  rw [dif_pos hj]
  exact ((hq j hj).ints (ho j hj)).choose_spec
theorem stillVecsk_any (g : Nat) (va ua : Option Addr) (n cv cu : Nat) (vs us : Nat → Value) (D : Nat → Nat → Prop) (w : World) (hn : n ≤ 250) (hc4 : w.cell? ⟨g, 4, none⟩ = some (.slice va n cv)) (hc5 : w.cell? ⟨g, 5, none⟩ = some (.slice ua n cu))
    (hv : LA w va n vs) (hu : LA w ua n us) (h : ∀ j, j < n → TwoV (vs j) (us j) w (D j)) :
    Calls Tryz.prog 55 #[.pointer (some ⟨g, 0, none⟩)] w fun e w' => e = .returned (.bool true) ∧ Bl w w' := by
  classical
  refine stillVecs_any g va ua n cv cu vs us (fun j => if h2 : j < n then (h j h2).choose else []) w hn hc4 hc5 hv hu (fun j hj => ?_)
  rw [dif_pos hj]
  obtain ⟨a, b, m, c, d, e1, e2, r1, r2, _⟩ := (h j hj).choose_spec
  exact ⟨⟨a, m, c, e1, r1⟩, ⟨b, m, d, e2, r2⟩⟩
theorem putVecsk_any (B g : Nat) (va : Option Addr) (n cv : Nat) (vs : Nat → Value) (xs : Nat → List Int) (w : World) (hn : n ≤ 250) (hc4 : w.cell? ⟨g, 4, none⟩ = some (.slice va n cv)) (hv : LA w va n vs)
    (h : ∀ j, j < n → w.ownsRow B 3 1 (vs j) (xs j).length ((xs j).map (Value.int .i64)) ∧ (xs j).length ≤ 100000) (hap : ∀ i j, i < n → j < n → i ≠ j → (vs i).ownBlock = none ∨ (vs i).ownBlock ≠ (vs j).ownBlock)
    (hg : ¬ SBk n vs g) (hva : ∀ b off, va = some ⟨b, off, none⟩ → ¬ SBk n vs b) :
    Calls Tryz.prog 75 #[.pointer (some ⟨g, 0, none⟩)] w fun e w' => e = .returned (.tuple #[]) ∧ Fr (SBk n vs) w w' ∧ ∀ j, j < n → w'.ownsRow B 3 1 (vs j) (xs j).length (mkV.row j 0 (xs j).length) := by
  refine (putVecs_any B g va n cv vs xs w hn hc4 hv h hap hg hva).mono ?_
  rintro e w' ⟨rfl, hf, ho⟩
  refine ⟨rfl, hf, fun j hj => ?_⟩
  have := ho j hj
  unfold OI at this
  rwa [markL_len, markV_cells] at this
theorem growVecsk_any (B g : Nat) (va : Option Addr) (n cv : Nat) (vs : Nat → Value) (ms : Nat → Nat) (w : World) (hn : n ≤ 250) (hB : B ≤ w.heap.size) (hc4 : w.cell? ⟨g, 4, none⟩ = some (.slice va n cv)) (hv : LA w va n vs)
    (h : ∀ j, j < n → w.ownsRow B 3 1 (vs j) (ms j) (mkV.row j 0 (ms j)) ∧ ms j ≤ 50000) (hap : ∀ i j, i < n → j < n → i ≠ j → (vs i).ownBlock = none ∨ (vs i).ownBlock ≠ (vs j).ownBlock)
    (hg : ¬ SBk n vs g) (hva : ∀ b off, va = some ⟨b, off, none⟩ → ¬ SBk n vs b) :
    Calls Tryz.prog 85 #[.pointer (some ⟨g, 0, none⟩)] w fun e w' => ∃ out gs, e = .returned out ∧ GRk 3 23 mkV B n vs ms w w' n out gs := by
  refine (growVecs_any B g va n cv vs ms w hn hB hc4 hv (fun j hj => ⟨by unfold OI; rw [markL_len, markV_cells]; exact (h j hj).1, (h j hj).2⟩) hap hg hva).mono ?_
  rintro e w' ⟨out, gs, rfl, hr⟩
  refine ⟨out, gs, rfl, ⟨hr.fr, hr.row, fun j hj => ?_, fun j hj => ?_, hr.apg⟩⟩
  · have := hr.ogs j hj
    unfold OI at this
    rwa [markL_len, markV_cells] at this
  · have := hr.ovs j hj
    unfold OI at this
    rwa [markL_len, markV_cells] at this
theorem markedVecsk_any (la : Option Addr) (n lc : Nat) (vs : Nat → Value) (ms : Nat → Nat) (B : Nat) (w : World) (hn : n ≤ 250) (hv : LA w la n vs) (h : ∀ j, j < n → w.ownsRow B 3 1 (vs j) (ms j) (mkV.row j 0 (ms j)) ∧ ms j ≤ 100000) :
    Calls Tryz.prog 100 #[.slice la n lc] w fun e w' => e = .returned (.bool true) ∧ Bl w w' := by
  refine markedVecs_any la n lc vs ms w hn hv (fun j hj => ⟨?_, (h j hj).2⟩)
  have ho : OI B w (vs j) (markL j 0 (ms j)) := by unfold OI; rw [markL_len, markV_cells]; exact (h j hj).1
  exact ho.si (by rw [markL_len]; have := (h j hj).2; omega) (markL_wf (by omega) (by have := (h j hj).2; omega))
theorem el_rowsV : EL 29 23 1 24 := el_rows
theorem copyVecsk_any (a : Option Addr) (n c : Nat) (xs : List Int) (w : World) (hx : IA w a n xs) :
    Calls Tryz.prog 187 #[.slice a n c] w fun e w' => ∃ v, e = .returned v ∧ w'.ownsRow w.heap.size 3 1 v n (xs.map (Value.int .i64)) ∧ Bl w w' := by
  refine (copyVecs_any a n c xs w hx).mono ?_
  rintro e w' ⟨v, rfl, hf, hb⟩
  have := hf.own
  unfold OI at this
  rw [hx.len] at this
  exact ⟨v, rfl, this, hb⟩
end Go.Proofs.YtfjjnffifnohkaaGreat
end

/- bedrockbook.Book.Vecs: one more list is kept. By an AI agent. -/
section
set_option linter.unusedVariables false
namespace Go.Proofs.YtfjjnffifnohkaaGreat
open Go.RowKit
attribute [local go_sem] eOp eOper eUpon pOp pOper pUpon

/-- the copy reads as the list -/
def CpV (ps : List (Int)) (u : Value) (W : World) (D : Nat → Prop) : Prop := ∃ a n c, u = .slice a n c ∧ IA W a n ps ∧ ∀ x off, a = some ⟨x, off, none⟩ → 0 < n → D x
set_option maxHeartbeats 2000000 in
set_option maxRecDepth 100000 in
theorem regVecs_any (B g n : Nat) (hs : List Value) (vv wv : Value) (vcs ucs : List Value) (a : Option Addr) (nv c : Nat) (ps : List (Int)) (w : World) (hn : n < 250) (hB : B ≤ w.heap.size) (hbox : AC w g hs) (hhl : hs.length = 30) (h4 : hs[4]? = some vv) (h5 : hs[5]? = some wv)
    (hv : w.ownsRow B 23 1 vv n vcs) (hu : w.ownsRow B 23 1 wv n ucs) (hgv : vv.ownBlock ≠ some g) (hgu : wv.ownBlock ≠ some g) (hvu : wv.ownBlock = none ∨ wv.ownBlock ≠ vv.ownBlock) (hx : IA w a nv ps) (hnv : nv ≤ 1000000)
    (hxg : ∀ b off, a = some ⟨b, off, none⟩ → 0 < nv → ¬ (b = g ∨ vv.ownBlock = some b ∨ wv.ownBlock = some b)) :
    Calls Tryz.prog 139 #[.pointer (some ⟨g, 0, none⟩), .slice a nv c] w fun e w' => e = .returned (.tuple #[]) ∧ ∃ vv' wv' u Dn, RPk 23 4 B (CpV ps) w w' g n hs vv wv vcs ucs (.slice a nv c) vv' wv' u Dn := by
  obtain ⟨va, cv, rfl⟩ := row_shape' hv
  have HBX := Lib.hid hbox
  have HU := Lib.hid hu
  have HV := Lib.hid hv
  have HX := Lib.hid hx
  have HXG := Lib.hid hxg
  have HGV := Lib.hid hgv
  have HGU := Lib.hid hgu
  have HVU := Lib.hid hvu
  have HH4 := Lib.hid h4
  have HH5 := Lib.hid h5
  have HHL := Lib.hid hhl
  have hgl := hbox.lt
  clear hu hv hx hxg hgv hgu hvu hbox h4 h5 hhl
  have c4 := HBX.out.at_ HH4.out
  have hn1 : decide ((n : Int) < 250) = true := decide_eq_true (by omega)
  have hn2 : decide (n < 250) = true := decide_eq_true hn
  go_enter Tryz.func139, Tryz.ntmps139
  have hbA := (Bl.refl w).alloc (.cells #[.slice a nv c] 23)
  have hlit : (w.alloc (.cells #[.slice a nv c] 23)).heap[w.heap.size]? = some (.cells [.slice a nv c].toArray 23 (0, 0)) := heap_alloc_new w _
  have HLT := Lib.hid (SG.lit (size := 1) hlit rfl (by intro u hu; simp at hu; subst hu; rfl))
  have hva := ownsRow_bl HV.out hbA
  have HBA := Lib.hid hbA
  clear hlit hbA
  go_wp2_with (at_builtin; refine wpList_appK rfl _ _ _ rfl el_rowsV B _ _ _ rfl hva ?cB (some ⟨w.heap.size, 0, none⟩) 1 1 _ rfl HLT.out ?cM ?cN ?_)
  case cB => simp; omega
  case cM => unfold maxLen; omega
  case cN => omega
  intro vv' w1 ho hg _ hb
  obtain ⟨va', cv', rfl⟩ := row_shape' ho
  have hfr : Fr (fun b => b = g ∨ (Value.slice va n cv).ownBlock = some b ∨ wv.ownBlock = some b) w w1 := ((Fr.refl _ w).bl HBA.out).grown hg (fun i e => .inr (.inl e))
  have hbx : AC w1 g hs := by
    have h1 := HBX.out.keep HBA.out
    obtain ⟨t, h2⟩ := h1
    exact ⟨t, by rw [hg.block g (lt_of_heap h2) (fun e => HGV.out e.symm)]; exact h2⟩
  have hu1 : w1.ownsRow B 23 1 wv n ucs := World.ownsRow.kept (ownsRow_bl HU.out HBA.out) hg HVU.out
  have c4' := hbx.at_ HH4.out
  have f4 := hbx.frozen 4
  have HFR := Lib.hid hfr
  have HB1 := Lib.hid hbx
  have HU1 := Lib.hid hu1
  have HO := Lib.hid ho
  have HBV := Lib.hid hb
  have HSZ := Lib.hid (show w.heap.size < w1.heap.size from by have := hg.size; simp at this; omega)
  clear c4 ho hg hb hfr hbx hu1 hva hn1 hn2 hgl
  go_upto_region 2 with fail
  have HFR2 := Lib.hid (HFR.out.grown (grown_set' w1 g 4 (.slice va' (n + 1) cv')) (fun i e => .inl (Option.some.inj e).symm))
  have HB2 := Lib.hid (HB1.out.setc 4 (.slice va' (n + 1) cv'))
  have hvg : (Value.slice va' (n + 1) cv').ownBlock ≠ some g := fun e => by
    rcases HBV.out g e with q | q
    · exact HGV.out q
    · have := HBX.out.lt; have := HBA.out.size; omega
  have HVG := Lib.hid hvg
  have HO2 := Lib.hid (World.ownsRow.kept HO.out (grown_set' w1 g 4 (.slice va' (n + 1) cv')) (.inr hvg))
  have HU2 := Lib.hid (World.ownsRow.kept HU1.out (grown_set' w1 g 4 (.slice va' (n + 1) cv')) (.inr HGU.out))
  have HX2 := Lib.hid (HX.out.fr HFR2.out HXG.out)
  have hsz2 : w.heap.size < (w1.setCell ⟨g, 4, none⟩ (.slice va' (n + 1) cv')).heap.size := by simp; exact HSZ.out
  have HSZ2 := Lib.hid hsz2
  obtain ⟨hs2, hhs2⟩ : ∃ x, hs.set 4 (.slice va' (n + 1) cv') = x := ⟨_, rfl⟩
  rw [hhs2] at HB2
  obtain ⟨ua, cu, hwv⟩ := row_shape' HU2.out
  subst hwv
  have H25 := Lib.hid (show hs2[5]? = some (.slice ua n cu) by rw [← hhs2, List.getElem?_set_ne (by decide)]; exact HH5.out)
  have HHS2 := Lib.hid hhs2
  clear hvg hsz2 f4 c4' HFR HB1 HO HU1 HLT hhs2
  generalize w1.setCell _ _ = w2 at *
  refine wp_region_panicsT [0, 1, 2, 3, 4, 5] 6 (HasBox g hs2) HasBox.keep (HB2.out.keep ((Bl.refl w2).drew)) [11] (fun c W' => False) ?hR (by kernel_rfl) rfl (by kernel_rfl) (by kernel_rfl) (by kernel_rfl) ?_
  case hR => intro c tt W' h; exact h.elim
  have HBZ := Lib.hid ((Bl.refl w2).drew)
  generalize w2.drew = Z at *
  have HBXZ := Lib.hid (HB2.out.keep HBZ.out)
  haveI : Nonempty (ExtC (HasBox g hs2)) := ⟨⟨Z, HBXZ.out⟩⟩
  have d5 : ∀ q : ExtC (HasBox g hs2), _ := fun q => AC.at_ q.ok H25.out
  repeat (refine wpI_step rfl (fun K hK => ?_); go_simp; first | (refine hK _ ?_; clear hK K) | (apply Exists.intro; refine ⟨fun q => ?_, hK _ ?_⟩; fail; clear hK K))
  refine wpI_nil ?_
  clear d5 this
  refine wpAnyP_one (i := 6) (by kernel_rfl) ?_
  intro Y1 hy1
  have HY1 := Lib.hid (HBZ.out.trans hy1)
  clear hy1
  go_simp
  refine (copyVecsk_any a nv c ps Y1 (HX2.out.keep HY1.out)).mono ?_
  rintro e Y2 ⟨u, rfl, hfi, hb2⟩
  have HY2 := Lib.hid (HY1.out.trans hb2)
  have HFI := Lib.hid hfi
  have hszA := HY1.out.size
  obtain ⟨a5, c5, hu5⟩ := row_shape' hfi
  subst hu5
  clear hb2 hfi
  go_simp
  refine ⟨HB2.out.keep HY2.out, ?_⟩
  refine wpAnyP_one (i := 7) (by kernel_rfl) ?_
  intro Y3 hy3
  go_simp
  have hbl := hy3.alloc (.cells #[.slice a5 nv c5] 23)
  have hlit : (Y3.alloc (.cells #[.slice a5 nv c5] 23)).heap[Y3.heap.size]? = some (.cells [.slice a5 nv c5].toArray 23 (0, 0)) := heap_alloc_new Y3 _
  have HLT := Lib.hid (SG.lit (size := 1) hlit rfl (by intro u hu; simp at hu; subst hu; rfl))
  have HY3 := Lib.hid (HY2.out.trans hbl)
  have HFI3 := Lib.hid (ownsRow_bl HFI.out hbl)
  refine ⟨HB2.out.keep HY3.out, ?_⟩
  clear hlit hbl hy3 HFI HY2
  generalize Y3.alloc _ = Y4 at *
  generalize Y3.heap.size = gl at *
  refine wpAnyP_one (i := 8) (by kernel_rfl) ?_
  intro Y5 hy5
  have HY5 := Lib.hid (HY3.out.trans hy5)
  have HFI5 := Lib.hid (ownsRow_bl HFI3.out hy5)
  have HL5 := Lib.hid (HLT.out.keep hy5)
  have HU5 := Lib.hid (ownsRow_bl HU2.out HY5.out)
  have HB5 := Lib.hid (HB2.out.keep HY5.out)
  have HO5 := Lib.hid (ownsRow_bl HO2.out HY5.out)
  have hsz5 := HY5.out.size
  clear hy5 HFI3 HLT HY3
  refine pOp_appk rfl rfl _ _ _ rfl el_rowsV B (.slice ua n cu) n ucs rfl HU5.out (by have := HSZ2.out; omega) (some ⟨gl, 0, none⟩) 1 1 _ rfl HL5.out (by unfold maxLen; omega) (by omega) ?_
  intro wv' Y6 ho6 hg6 hb6
  have hul : ∀ b, (Value.slice ua n cu).ownBlock = some b → b < w.heap.size := fun b e => (World.ownsRow.lt HU.out b e).2
  have hvu' : (Value.slice va' (n + 1) cv').ownBlock = none ∨ (Value.slice va' (n + 1) cv').ownBlock ≠ (Value.slice ua n cu).ownBlock := by
    cases e : (Value.slice va' (n + 1) cv').ownBlock with
    | none => exact .inl rfl
    | some b =>
      refine .inr (fun e2 => ?_)
      rcases HBV.out b e with q | q
      · rcases HVU.out with r | r
        · rw [r] at e2; cases e2
        · exact r (e2.symm.trans q.symm)
      · have := hul b e2.symm; omega
  have hbx6 : AC Y6 g hs2 := by
    obtain ⟨t, h2⟩ := HB5.out
    exact ⟨t, by rw [hg6.block g (lt_of_heap h2) (fun e => HGU.out e.symm)]; exact h2⟩
  have hfo6 : Y6.ownsRow Y1.heap.size 3 1 (.slice a5 nv c5) nv (ps.map (Value.int .i64)) := World.ownsRow.kept HFI5.out hg6 (by
    cases e : (Value.slice a5 nv c5).ownBlock with
    | none => exact .inl rfl
    | some b => exact .inr (fun e2 => by have := hul b e2.symm; have := (World.ownsRow.lt HFI5.out b e).1; have := HSZ2.out; omega))
  have HFI6 := Lib.hid hfo6
  have HO6 := Lib.hid (World.ownsRow.kept HO5.out hg6 hvu')
  have HB6 := Lib.hid hbx6
  have HW6 := Lib.hid ho6
  have HFR6 := Lib.hid ((HFR2.out.bl HY5.out).grown hg6 (fun i e => .inr (.inr e)))
  have HBU := Lib.hid (fun b (e : wv'.ownBlock = some b) => (hb6 b e).imp_right (fun q => Nat.le_trans (Nat.le_of_lt HSZ2.out) (Nat.le_trans hsz5 q)))
  have hau : ∀ b, (Value.slice a5 nv c5).ownBlock = some b → w2.heap.size ≤ b ∧ b < Y5.heap.size := fun b e => by
    have h1 := World.ownsRow.lt HFI5.out b e
    exact ⟨Nat.le_trans hszA h1.1, h1.2⟩
  have HAU : Hid (∀ b, (Value.slice a5 nv c5).ownBlock = some b → wv'.ownBlock ≠ some b) := Lib.hid (fun b e e2 => by
    have h1 := hau b e
    rcases hb6 b e2 with q | q
    · have := hul b q; have := HSZ2.out; omega
    · omega)
  have HAV : Hid (∀ b, (Value.slice a5 nv c5).ownBlock = some b → (Value.slice va' (n + 1) cv').ownBlock ≠ some b) := Lib.hid (fun b e e2 => by
    have h1 := hau b e
    have := (World.ownsRow.lt HO2.out b e2).2
    omega)
  have HAVU : Hid (wv'.ownBlock = none ∨ wv'.ownBlock ≠ (Value.slice va' (n + 1) cv').ownBlock) := Lib.hid (by
    cases e : wv'.ownBlock with
    | none => exact .inl rfl
    | some b =>
      refine .inr (fun e2 => ?_)
      rcases hb6 b e with q | q
      · rcases hvu' with r | r
        · rw [r] at e2; cases e2
        · exact r (e2.symm.trans q.symm)
      · have := (World.ownsRow.lt HO2.out b e2.symm).2; omega)
  have hwg : wv'.ownBlock ≠ some g := fun e => by
    rcases hb6 g e with q | q
    · exact HGU.out q
    · have := HBX.out.lt; have := HSZ2.out; omega
  have HWG := Lib.hid hwg
  refine ⟨fun _ => hbx6, ?_⟩
  simp only [Act.put, List.setIfInBounds_toArray]
  obtain ⟨wa, wc, hws⟩ := row_shape' ho6
  subst hws
  clear ho6 hg6 hb6 hul hvu' hbx6 hfo6 hau hwg HB5 HO5 HU5 HFI5 HL5 HY5 hsz5 HFR2 HO2 HU2 HX2 HB2
  refine wpAnyP_one (i := 9) (by kernel_rfl) ?_
  intro Y7 hy7
  go_simp
  refine ⟨HB6.out.keep hy7, ?_⟩
  refine wpAnyP_one (i := 10) (by kernel_rfl) ?_
  intro Y8 hy8
  go_simp
  refine ⟨HB6.out.keep (hy7.trans hy8), ?_⟩
  refine wpAnyP_one (i := 11) (by kernel_rfl) ?_
  intro Y9 hy9
  have HY9 := Lib.hid ((hy7.trans hy8).trans hy9)
  clear hy7 hy8 hy9
  have HB9 := Lib.hid (HB6.out.keep HY9.out)
  have c5' := HB9.out.at_ H25.out
  have f5' := HB9.out.frozen 5
  have HB10 := Lib.hid (HB9.out.setc 5 (.slice wa (n + 1) wc))
  have hgs := grown_set' Y9 g 5 (.slice wa (n + 1) wc)
  have HO10 := Lib.hid (World.ownsRow.kept (ownsRow_bl HO6.out HY9.out) hgs (.inr HVG.out))
  have HW10 := Lib.hid (World.ownsRow.kept (ownsRow_bl HW6.out HY9.out) hgs (.inr HWG.out))
  have hug : (Value.slice a5 nv c5).ownBlock ≠ some g := fun e => by
    have h1 := (World.ownsRow.lt HFI6.out g e).1
    have h2 := HBX.out.lt
    have h3 := HSZ2.out
    omega
  have HF10 := Lib.hid (World.ownsRow.kept (ownsRow_bl HFI6.out HY9.out) hgs (.inr hug))
  have HFR10 := Lib.hid ((HFR6.out.bl HY9.out).grown hgs (fun i e => .inl (Option.some.inj e).symm))
  clear hgs hug HO6 HW6 HFI6 HFR6 HB6 HB9 HY9
  go_simp
  clear c5' f5'
  generalize World.setCell _ _ _ = Y10 at *
  refine wpAnyP_done (by kernel_rfl) ?_
  intro Y11 hy11
  have HY := Lib.hid hy11
  clear hy11
  go_wp2_with fail
  go_end0
  have ho11 := ownsRow_bl HF10.out HY.out
  refine ⟨rfl, _, _, _, fun b => (Value.slice a5 nv c5).ownBlock = some b, ?_, ownsRow_bl HO10.out HY.out, ownsRow_bl HW10.out HY.out, ⟨a5, nv, c5, rfl, IA.ofOwn ho11 HX.out.len hnv HX.out.wf, fun x off e hp => ?_⟩, fun b e => ⟨(World.ownsRow.lt ho11 b e).2, ?_, HAV.out b e, HAU.out b e⟩, HFR10.out.bl HY.out, fun b e => (HBV.out b e).imp_right (fun q => by have := HBA.out.size; omega), HBU.out, HAVU.out⟩
  · rw [HHS2.out]; exact HB10.out.keep HY.out
  · obtain ⟨_, ⟨e3, h2⟩ | ⟨gi, cap, cur, e3, _⟩⟩ := ho11
    · cases e3; omega
    · simp only [Value.slice.injEq] at e3; rw [e3.1] at e ⊢; cases e; rfl
  · have h1 := (World.ownsRow.lt ho11 b e).1
    have h3 := HSZ2.out
    omega
theorem fullVecs_any (g : Nat) (hs : List Value) (va : Option Addr) (cv : Nat) (v : Value) (w : World) (hbox : AC w g hs) (h4 : hs[4]? = some (.slice va 250 cv)) :
    Calls Tryz.prog 139 #[.pointer (some ⟨g, 0, none⟩), v] w fun e w' => e = .returned (.tuple #[]) ∧ w = w' := by
  have c4 := hbox.at_ h4
  clear hbox h4
  go_enter Tryz.func139, Tryz.ntmps139
  go_wp2_with fail
  go_end0
  exact ⟨rfl, rfl⟩
end Go.Proofs.YtfjjnffifnohkaaGreat
end

/- bedrockbook.name: the name of a mark. By an AI agent. -/
section
set_option linter.unusedVariables false
namespace Go.Proofs.YtfjjnffifnohkaaGreat
open Go.RowKit

def nameN (i k : Nat) : List Int := [109, 65 + ((i % 26 : Nat) : Int), 65 + ((i / 26 % 26 : Nat) : Int), 48 + ((k % 10 : Nat) : Int), 48 + ((k / 10 % 10 : Nat) : Int), 48 + ((k / 100 % 10 : Nat) : Int)]
def nameB (i k : Nat) : ByteArray := strOfNums (nameN i k)
theorem nameB_size (i k : Nat) : (nameB i k).size = 6 := by
  unfold nameB
  rw [strOfNums_size]
  rfl
theorem name_any (i k : Nat) (w : World) (hi : i < 250) (hk : k < 100000) :
    Calls Tryz.prog 192 #[.int .i64 i, .int .i64 k] w fun e w' => e = .returned (.string (nameB i k)) ∧ Bl w w' := by
  have t1 : Int.tmod (i : Int) 26 = ((i % 26 : Nat) : Int) := by rw [Int.tmod_eq_emod_of_nonneg (by omega)]; omega
  have t2 : Int.tdiv (i : Int) 26 = ((i / 26 : Nat) : Int) := by rw [Int.tdiv_eq_ediv_of_nonneg (by omega)]; omega
  have t3 : Int.tmod ((i / 26 : Nat) : Int) 26 = ((i / 26 % 26 : Nat) : Int) := by rw [Int.tmod_eq_emod_of_nonneg (by omega)]; omega
  have t4 : Int.tmod (k : Int) 10 = ((k % 10 : Nat) : Int) := by rw [Int.tmod_eq_emod_of_nonneg (by omega)]; omega
  have t5 : Int.tdiv (k : Int) 10 = ((k / 10 : Nat) : Int) := by rw [Int.tdiv_eq_ediv_of_nonneg (by omega)]; omega
  have t6 : Int.tmod ((k / 10 : Nat) : Int) 10 = ((k / 10 % 10 : Nat) : Int) := by rw [Int.tmod_eq_emod_of_nonneg (by omega)]; omega
  have t7 : Int.tdiv (k : Int) 100 = ((k / 100 : Nat) : Int) := by rw [Int.tdiv_eq_ediv_of_nonneg (by omega)]; omega
  have t8 : Int.tmod ((k / 100 : Nat) : Int) 10 = ((k / 100 % 10 : Nat) : Int) := by rw [Int.tmod_eq_emod_of_nonneg (by omega)]; omega
  have b1 : i % 26 < 26 := Nat.mod_lt _ (by decide)
  have b2 : i / 26 % 26 < 26 := Nat.mod_lt _ (by decide)
  have b3 : k % 10 < 10 := Nat.mod_lt _ (by decide)
  have b4 : k / 10 % 10 < 10 := Nat.mod_lt _ (by decide)
  have b5 : k / 100 % 10 < 10 := Nat.mod_lt _ (by decide)
  have d1 : i / 26 < 250 := by omega
  have d2 : k / 10 < 100000 := by omega
  have d3 : k / 100 < 100000 := by omega
  have HN : Hid (nameB i k = strOfNums (nameN i k)) := Lib.hid rfl
  unfold nameN at HN
  generalize i % 26 = n1 at *
  generalize i / 26 % 26 = n2 at *
  generalize k % 10 = n3 at *
  generalize k / 10 % 10 = n4 at *
  generalize k / 100 % 10 = n5 at *
  generalize i / 26 = m1 at *
  generalize k / 10 = m2 at *
  generalize k / 100 = m3 at *
  have w1 : IntKind.u8.wrap (65 + (n1 : Int)) = 65 + (n1 : Int) := by rw [IntKind.wrap_u8]; omega
  have w2 : IntKind.u8.wrap (65 + (n2 : Int)) = 65 + (n2 : Int) := by rw [IntKind.wrap_u8]; omega
  have w3 : IntKind.u8.wrap (48 + (n3 : Int)) = 48 + (n3 : Int) := by rw [IntKind.wrap_u8]; omega
  have w4 : IntKind.u8.wrap (48 + (n4 : Int)) = 48 + (n4 : Int) := by rw [IntKind.wrap_u8]; omega
  have w5 : IntKind.u8.wrap (48 + (n5 : Int)) = 48 + (n5 : Int) := by rw [IntKind.wrap_u8]; omega
  have hab : OB w.heap.size (w.alloc (.cells #[.int .u8 109, .int .u8 (65 + (n1 : Int)), .int .u8 (65 + (n2 : Int)), .int .u8 (48 + (n3 : Int)), .int .u8 (48 + (n4 : Int)), .int .u8 (48 + (n5 : Int))] 5)) (.slice (some ⟨w.heap.size, 0, none⟩) 6 6) [109, 65 + (n1 : Int), 65 + (n2 : Int), 48 + (n3 : Int), 48 + (n4 : Int), 48 + (n5 : Int)] :=
    ⟨by simp, .inr ⟨w.heap.size, 6, #[.int .u8 109, .int .u8 (65 + (n1 : Int)), .int .u8 (65 + (n2 : Int)), .int .u8 (48 + (n3 : Int)), .int .u8 (48 + (n4 : Int)), .int .u8 (48 + (n5 : Int))], rfl, Nat.le_refl _, heap_alloc_new w _, Nat.le_refl _, by decide, by simp, by simp⟩⟩
  have hst := hab.string rfl
  have hbl := (Bl.refl w).alloc (.cells #[.int .u8 109, .int .u8 (65 + (n1 : Int)), .int .u8 (65 + (n2 : Int)), .int .u8 (48 + (n3 : Int)), .int .u8 (48 + (n4 : Int)), .int .u8 (48 + (n5 : Int))] 5)
  clear hab
  go_enter Tryz.func192, Tryz.ntmps192
  go_wp2_with fail
  go_ret
  exact ⟨by rw [HN.out]; rfl, hbl⟩
end Go.Proofs.YtfjjnffifnohkaaGreat
end

/- bedrockbook over versions: what they read as, their marks (printed by gen/bookr.py). By an AI agent. -/
section
namespace Go.Proofs.YtfjjnffifnohkaaGreat
open Go.RowKit

theorem el_vers : EL 22 59 8 96 := el_of Tryz.underlying22 (by kernel_rfl) (by decide)
/-- a slice that reads as versions whose lists lie where xs says -/
structure RV (W : World) (a : Option Addr) (n : Nat) (xs : List VC) : Prop where
  len : xs.length = n
  cap : n ≤ 1000000
  cells : ∀ j, j < n → ∃ b off, a = some ⟨b, off, none⟩ ∧ ∀ j, j < n → ∀ r, r < 8 → W.cell? ⟨b, off + j * 8 + r, none⟩ = (el xs j).cs[r]?
  ia : ∀ x ∈ xs, IA W x.ad x.n x.at_
  ok : ∀ x ∈ xs, x.act.Ok
theorem RV.keep {W W' : World} {a : Option Addr} {n : Nat} {xs : List VC} (h : RV W a n xs) (k : Bl W W') : RV W' a n xs := by
  refine ⟨h.len, h.cap, fun j0 hj0 => ?_, fun x hx => (h.ia x hx).keep k, h.ok⟩
  obtain ⟨b, off, e, hc⟩ := h.cells j0 hj0
  refine ⟨b, off, e, fun j hj r hr => ?_⟩
  have h1 := hc j hj r hr
  cases h2 : (el xs j).cs[r]? with
  | none => rw [List.getElem?_eq_none_iff, VC.cs_len] at h2; omega
  | some u => rw [h2] at h1; exact k.cell h1
theorem RV.get {W : World} {b off n : Nat} {xs : List VC} (h : RV W (some ⟨b, off, none⟩) n xs) {k : Nat} (hk : k < n) (r : Nat) (hr : r < 8) : W.cell? ⟨b, off + k * 8 + r, none⟩ = (el xs k).cs[r]? := by
  obtain ⟨b', off', e, hc⟩ := h.cells k hk
  cases e
  exact hc k hk r hr
theorem vcs_get (x : VC) : x.cs[0]? = some (.string x.key) ∧ x.cs[1]? = some (.slice x.ad x.n x.ca) ∧ x.cs[2]? = some (.int .i64 x.origin) ∧ x.cs[3]? = some (.int .i64 x.tx) ∧ x.cs[4]? = some (.int .i64 x.act.k) ∧ x.cs[5]? = some (.float .f64 x.act.x) ∧ x.cs[6]? = some (.int .i64 x.act.n) ∧ x.cs[7]? = some (.string x.act.s) := ⟨rfl, rfl, rfl, rfl, rfl, rfl, rfl, rfl⟩
theorem el_memR {xs : List VC} {j : Nat} (h : j < xs.length) : el xs j ∈ xs := el_mem h
theorem RV.va {W : World} {a : Option Addr} {n : Nat} {xs : List VC} (h : RV W a n xs) : VA W a n (xs.map VC.ver) := by
  have hc := h.cap
  refine ⟨by rw [List.length_map]; exact h.len, by omega, fun j0 hj0 => ?_⟩
  obtain ⟨b, off, e, hcl⟩ := h.cells j0 hj0
  refine ⟨b, off, e, fun j hj => ?_⟩
  have hjl : j < xs.length := by rw [h.len]; exact hj
  have hm := el_memR hjl
  have hv : nthR (xs.map VC.ver) j = (el xs j).ver := by
    rw [nthR_eq (by rw [List.length_map]; exact hjl), List.getElem_map, el_eq hjl]
  rw [hv]
  obtain ⟨g0, g1, g2, g3, g4, g5, g6, g7⟩ := vcs_get (el xs j)
  have k0 := hcl j hj 0 (by omega)
  rw [Nat.add_zero] at k0
  exact ⟨k0.trans g0, ⟨_, _, _, (hcl j hj 1 (by omega)).trans g1, h.ia _ hm⟩, (hcl j hj 2 (by omega)).trans g2, (hcl j hj 3 (by omega)).trans g3, (hcl j hj 4 (by omega)).trans g4, (hcl j hj 5 (by omega)).trans g5, (hcl j hj 6 (by omega)).trans g6, (hcl j hj 7 (by omega)).trans g7, h.ok _ hm⟩
theorem RV.own {B : Nat} {w : World} {a : Option Addr} {n c : Nat} {xs : List VC} (h : w.ownsRow B 59 8 (.slice a n c) n (flat xs)) (hl : xs.length = n) (hn : n ≤ 1000000) (hia : ∀ x ∈ xs, IA w x.ad x.n x.at_) (hok : ∀ x ∈ xs, x.act.Ok) : RV w a n xs := by
  refine ⟨hl, hn, fun j0 hj0 => ?_, hia, hok⟩
  obtain ⟨h1, ⟨e, h2⟩ | ⟨g, cap, cur, e, hB, hg, hnc, hm, hs, ht⟩⟩ := h
  · cases e; omega
  · simp only [Value.slice.injEq, true_and] at e
    obtain ⟨rfl, rfl⟩ := e
    refine ⟨g, 0, rfl, fun j hj r hr => ?_⟩
    have ho : w.ownsRow B 59 8 (.slice (some ⟨g, 0, none⟩) n c) n (flat xs) := ⟨h1, .inr ⟨g, c, cur, rfl, hB, hg, hnc, hm, hs, ht⟩⟩
    rw [Nat.zero_add, ho.cellAt (j * 8 + r) (by omega)]
    exact flat_get xs j r (by omega) hr
theorem flat_one' (xs : List VC) : ∀ u ∈ flat xs, u.oneCell' = true := by
  intro u hu
  obtain ⟨p, _, hp⟩ := List.mem_flatMap.1 hu
  simp only [VC.cs, verC, List.mem_cons, List.not_mem_nil, or_false] at hp
  rcases hp with rfl | rfl | rfl | rfl | rfl | rfl | rfl | rfl <;> rfl
theorem RV.sg8 {w : World} {a : Option Addr} {n : Nat} {xs : List VC} (h : RV w a n xs) : SG w 8 a n (flat xs) := by
  refine ⟨by rw [flat_len, h.len], fun ad e j u hu => ?_, fun e => ?_, flat_one' xs⟩
  · have hjl : j < n * 8 := by
      have := (List.getElem?_eq_some_iff.1 hu).1
      rwa [flat_len, h.len] at this
    have hi : j / 8 < n := by omega
    obtain ⟨b, off, e', hc⟩ := h.cells (j / 8) hi
    rw [e] at e'
    obtain rfl := Option.some.inj e'
    have hg := flat_get xs (j / 8) (j % 8) (by rw [h.len]; exact hi) (by omega)
    rw [show j / 8 * 8 + j % 8 = j by omega, hu] at hg
    rw [Addr.add_lit, show off + j = off + j / 8 * 8 + j % 8 by omega, hc (j / 8) hi (j % 8) (by omega)]
    exact hg.symm
  · subst e
    by_cases hn : 0 < n
    · obtain ⟨b, off, e', _⟩ := h.cells 0 hn
      cases e'
    · omega
theorem RV.fr {S : Nat → Prop} {w w' : World} (h : Fr S w w') {a : Option Addr} {n : Nat} {xs : List VC} (hp : RV w a n xs) (hs : ∀ b off, a = some ⟨b, off, none⟩ → 0 < n → ¬ S b) (hv : ∀ x ∈ xs, ∀ b off, x.ad = some ⟨b, off, none⟩ → 0 < x.n → ¬ S b) : RV w' a n xs := by
  refine ⟨hp.len, hp.cap, fun j0 hj0 => ?_, fun x hx => IA.fr h (hp.ia x hx) (hv x hx), hp.ok⟩
  obtain ⟨b, off, e, hc⟩ := hp.cells j0 hj0
  have hS := hs b off e (by omega)
  refine ⟨b, off, e, fun j hj r hr => ?_⟩
  have h1 := hc j hj r hr
  cases h2 : (el xs j).cs[r]? with
  | none => rw [List.getElem?_eq_none_iff, VC.cs_len] at h2; omega
  | some u => rw [h2] at h1; exact h.cell h1 hS
/-- the marks -/
def vcN (nm : ByteArray) : VC := ⟨nm, none, 0, 0, [], 0, 0, ⟨0, 0, 0, ⟨#[]⟩⟩⟩
def markR (i f n : Nat) : List VC := (List.range n).map fun k => vcN (nameB i (f + k))
def mkR : MK := ⟨8, fun i k => (vcN (nameB i k)).cs, fun _ _ => rfl, by decide⟩
theorem markR_len (i f n : Nat) : (markR i f n).length = n := by simp [markR]
theorem markR_cells (i f n : Nat) : flat (markR i f n) = mkR.row i f n := by
  unfold flat markR MK.row
  rw [List.flatMap_map]
  rfl
theorem markR_mem {i f n : Nat} {x : VC} (h : x ∈ markR i f n) : ∃ nm, x = vcN nm := by
  simp only [markR, List.mem_map, List.mem_range] at h
  obtain ⟨k, _, rfl⟩ := h
  exact ⟨_, rfl⟩
theorem markR_rv {B : Nat} {w : World} {i n c : Nat} {a : Option Addr} (h : w.ownsRow B 59 8 (.slice a n c) n (mkR.row i 0 n)) (hn : n ≤ 1000000) : RV w a n (markR i 0 n) := by
  rw [← markR_cells] at h
  refine RV.own h (markR_len i 0 n) hn (fun x hx => ?_) (fun x hx => ?_)
  · obtain ⟨nm, rfl⟩ := markR_mem hx; exact IA.nil _ _
  · obtain ⟨nm, rfl⟩ := markR_mem hx; exact (show ActL.Ok ⟨0, 0, 0, ⟨#[]⟩⟩ from ⟨by decide, by decide, by decide, by decide⟩)
theorem markR_fr {S : Nat → Prop} {w w' : World} (h : Fr S w w') {a : Option Addr} {i n m : Nat} (hp : RV w a n (markR i 0 m)) (hs : ∀ b off, a = some ⟨b, off, none⟩ → 0 < n → ¬ S b) : RV w' a n (markR i 0 m) :=
  hp.fr h hs (fun x hx b off e h0 => by obtain ⟨nm, rfl⟩ := markR_mem hx; exact absurd h0 (Nat.lt_irrefl 0))
theorem own_eights {w : World} {B E g n c : Nat} {xs : List Value} (h : w.ownsRow B E 8 (.slice (some ⟨g, 0, none⟩) n c) n xs) {o : Nat} (ho : o + 8 ≤ n * 8) :
    ∃ v0 v1 v2 v3 v4 v5 v6 v7, w.cell? ⟨g, o, none⟩ = some v0 ∧ w.cell? ⟨g, o + 1, none⟩ = some v1 ∧ w.cell? ⟨g, o + 2, none⟩ = some v2 ∧ w.cell? ⟨g, o + 3, none⟩ = some v3 ∧ w.cell? ⟨g, o + 4, none⟩ = some v4 ∧ w.cell? ⟨g, o + 5, none⟩ = some v5 ∧ w.cell? ⟨g, o + 6, none⟩ = some v6 ∧ w.cell? ⟨g, o + 7, none⟩ = some v7 ∧
      w.frozen? ⟨g, o, none⟩ = false ∧ w.frozen? ⟨g, o + 1, none⟩ = false ∧ w.frozen? ⟨g, o + 2, none⟩ = false ∧ w.frozen? ⟨g, o + 3, none⟩ = false ∧ w.frozen? ⟨g, o + 4, none⟩ = false ∧ w.frozen? ⟨g, o + 5, none⟩ = false ∧ w.frozen? ⟨g, o + 6, none⟩ = false ∧ w.frozen? ⟨g, o + 7, none⟩ = false := by
  have hl := h.1
  have key : ∀ r, r < 8 → w.cell? ⟨g, o + r, none⟩ = some (xs[o + r]?.getD undef) := fun r hr => by
    rw [h.cellAt (o + r) (by omega), List.getElem?_eq_getElem (by omega)]; rfl
  exact ⟨_, _, _, _, _, _, _, _, key 0 (by omega), key 1 (by omega), key 2 (by omega), key 3 (by omega), key 4 (by omega), key 5 (by omega), key 6 (by omega), key 7 (by omega), h.frozenAt _, h.frozenAt _, h.frozenAt _, h.frozenAt _, h.frozenAt _, h.frozenAt _, h.frozenAt _, h.frozenAt _⟩

set_option maxHeartbeats 1000000 in
theorem markVersions_any (i f n : Nat) (w : World) (hi250 : i < 250) (hf : f + n ≤ 100000) :
    Calls Tryz.prog 155 #[.int .i64 i, .int .i64 f, .int .i64 n] w fun e w' => ∃ v, e = .returned v ∧ w'.ownsRow w.heap.size 59 8 v n (mkR.row i f n) ∧ Bl w w' := by
  have hfi : (f : Int) + (n : Int) ≤ 100000 := by omega
  have hsf := store_fl
  go_enter Tryz.func155, Tryz.ntmps155
  go_wp2_with fail
  go_loopw [7, 8] (fun v c wr => ∃ k : Nat, k ≤ n ∧ c = .int .i64 ((f + k : Nat) : Int) ∧ Bl w wr ∧ wr.ownsRow w.heap.size 59 8 v k (mkR.row i f k)) (fun _ c _ => f + n - (intOf c).toNat)
  case atStart => exact ⟨0, Nat.zero_le _, rfl, Bl.refl _, World.ownsRow_nil _ _ _ _⟩
  case round =>
    obtain ⟨k, hk, rfl, hbl, hown⟩ := hrel
    have hbs := hbl.size
    obtain ⟨c, hc⟩ : ∃ c, f + k = c := ⟨_, rfl⟩
    rw [hc]
    by_cases hlt : k < n
    · have hlt2 : (c : Int) < (f : Int) + (n : Int) := by omega
      have hlt3 : c < f + n := by omega
      have hcb : c < 100000 := by omega
      have HC := Lib.hid hc
      clear hc
      go_wp2_with fail
      refine (name_any i c wr hi250 hcb).mono ?_
      rintro e W1 ⟨rfl, hb1⟩
      obtain ⟨nm, hnm⟩ : ∃ x, nameB i c = x := ⟨_, rfl⟩
      have HNM := Lib.hid hnm
      rw [hnm]
      have hbA := hb1.alloc (.cells #[.string nm, .slice none 0 0, .int .i64 0, .int .i64 0, .int .i64 0, .float .f64 0, .int .i64 0, .string ⟨#[]⟩] 59)
      have howA := ownsRow_bl hown hbA
      have hsz := hbA.size
      have HBA := Lib.hid (hbl.trans hbA)
      have HOA := Lib.hid howA
      clear hnm hb1 hown howA hbA hbl
      go_wp2_with (at_builtin; refine wpList_appG rfl _ _ _ rfl el_vers w.heap.size _ _ _ rfl HOA.out ?c1 _ 1 1 [.string nm, .slice none 0 0, .int .i64 0, .int .i64 0, .int .i64 0, .float .f64 0, .int .i64 0, .string ⟨#[]⟩] rfl (SG.lit (heap_alloc_new _ _) rfl (by simp [Value.oneCell'])) ?c2 ?c3 ?_)
      case c1 => omega
      case c2 => unfold maxLen; omega
      case c3 => omega
      intro v' w1 hown' hgrow
      have HB1 := Lib.hid (HBA.out.ownRow HOA.out (Nat.le_refl _) hgrow)
      have HO1 := Lib.hid (show w1.ownsRow w.heap.size 59 8 v' (k + 1) (mkR.row i f (k + 1)) by
        rw [mkR.row_succ, HC.out]
        show w1.ownsRow w.heap.size 59 8 v' (k + 1) (mkR.row i f k ++ (vcN (nameB i c)).cs)
        rw [HNM.out]
        exact hown')
      clear hown' hgrow HBA HOA
      go_wp2_with fail
      go_roundw
      case rel => exact ⟨k + 1, by omega, by have := HC.out; go_num, HB1.out, HO1.out⟩
      case measure => simp [intOf]; omega
    · have hge : ¬ ((c : Int) < (f : Int) + (n : Int)) := by omega
      have e1 : k = n := by omega
      subst e1
      go_wp2_with fail
      go_ret
      exact ⟨_, rfl, hown, hbl⟩
end Go.Proofs.YtfjjnffifnohkaaGreat
end
