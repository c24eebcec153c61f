import Derived.Test.YtibabgokmacnaaaGreatQGossipPlaysUptoP26

/- A book of vectors, with the vectors that are still to be put on it. By an AI agent. -/
section
set_option linter.unusedVariables false
namespace Go.Proofs.YtibabgokmacnaaaGreat
open Go.RowKit

theorem Fr.mono {S S' : Nat → Prop} {w w' : World} (h : Fr S w w') (hs : ∀ b, S b → S' b) : Fr S' w w' := ⟨h.os, h.tape, h.output, h.size, fun k hk q => h.block k hk (fun q2 => q (hs k q2))⟩
/-- behind Fr nothing has turned that the world w0 had, where all that may turn lies behind it -/
theorem Bl.fr {w0 w w' : World} {S : Nat → Prop} (h : Bl w0 w) (k : Fr S w w') (hs : ∀ b, S b → w0.heap.size ≤ b) : Bl w0 w' := Below.trans h (k.below h.size hs)
/-- the blocks that a call of Vec may turn -/
def BS (g : Nat) (vv wv : Value) (b : Nat) : Prop := b = g ∨ vv.ownBlock = some b ∨ wv.ownBlock = some b
structure BPx (B : Nat) (W : World) (g n : Nat) (vv wv : Value) (vs us : Nat → Value) (xs : Nat → List Int) (ps : List (Value × List Int)) (T : Nat → Prop) : Prop where
  bo : BO B W g n vv wv vs us xs
  fi : ∀ p ∈ ps, FI B W p.1 p.2 ∧ p.2.length ≤ 50000
  ap : ∀ p ∈ ps, ∀ b, p.1.ownBlock = some b → ¬ BS g vv wv b
  av : ∀ p ∈ ps, ∀ j, j < n → p.1.ownBlock = none ∨ p.1.ownBlock ≠ (vs j).ownBlock
  pw : ps.Pairwise (fun p q => p.1.ownBlock = none ∨ p.1.ownBlock ≠ q.1.ownBlock)
  t : ∀ b, T b → b < W.heap.size ∧ ¬ BS g vv wv b
def BP (B : Nat) (W : World) (g : Nat) (ps : List (Value × List Int)) (T : Nat → Prop) : Prop := ∃ n vv wv vs us xs, BPx B W g n vv wv vs us xs ps T
theorem BP.keep {B : Nat} {W W' : World} {g : Nat} {ps : List (Value × List Int)} {T : Nat → Prop} (h : BP B W g ps T) (hb : Bl W W') : BP B W' g ps T := by
  obtain ⟨n, vv, wv, vs, us, xs, h⟩ := h
  exact ⟨n, vv, wv, vs, us, xs, h.bo.keep hb, fun p hp => ⟨(h.fi p hp).1.keep hb, (h.fi p hp).2⟩, h.ap, h.av, h.pw, fun b hb' => ⟨Nat.lt_of_lt_of_le (h.t b hb').1 hb.size, (h.t b hb').2⟩⟩
theorem BP.less {B : Nat} {W : World} {g : Nat} {ps : List (Value × List Int)} {T T' : Nat → Prop} (h : BP B W g ps T) (ht : ∀ b, T' b → T b) : BP B W g ps T' := by
  obtain ⟨n, vv, wv, vs, us, xs, h⟩ := h
  exact ⟨n, vv, wv, vs, us, xs, h.bo, h.fi, h.ap, h.av, h.pw, fun b hb => h.t b (ht b hb)⟩
theorem BPx.sub {B : Nat} {W : World} {g n : Nat} {vv wv : Value} {vs us : Nat → Value} {xs : Nat → List Int} {ps : List (Value × List Int)} {T : Nat → Prop} (h : BPx B W g n vv wv vs us xs ps T) {b : Nat} (hb : BS g vv wv b) : b < W.heap.size := by
  rcases hb with rfl | q | q
  · exact h.bo.box.lt
  · exact (World.ownsRow.lt h.bo.rv b q).2
  · exact (World.ownsRow.lt h.bo.ru b q).2
/-- what a call makes is left alone -/
theorem BP.more {B : Nat} {W W' : World} {g : Nat} {ps : List (Value × List Int)} {T : Nat → Prop} (h : BP B W g ps T) (hb : Bl W W') : BP B W' g ps (fun b => T b ∨ W.heap.size ≤ b ∧ b < W'.heap.size) := by
  obtain ⟨n, vv, wv, vs, us, xs, h⟩ := h
  refine ⟨n, vv, wv, vs, us, xs, h.bo.keep hb, fun p hp => ⟨(h.fi p hp).1.keep hb, (h.fi p hp).2⟩, h.ap, h.av, h.pw, fun b hb' => ?_⟩
  rcases hb' with q | ⟨q1, q2⟩
  · exact ⟨Nat.lt_of_lt_of_le (h.t b q).1 hb.size, (h.t b q).2⟩
  · exact ⟨q2, fun q => by have := h.sub q; omega⟩
/-- one more vector is to be kept: the call has just made it -/
theorem BP.push {B : Nat} {W W' : World} {g : Nat} {ps : List (Value × List Int)} {T : Nat → Prop} (h : BP B W g ps T) (hb : Bl W W') (hB : B ≤ W.heap.size) {v : Value} {ys : List Int} (hv : FI W.heap.size W' v ys) (hl : ys.length ≤ 50000) : BP B W' g (ps ++ [(v, ys)]) T := by
  have h0 := h
  obtain ⟨n, vv, wv, vs, us, xs, h⟩ := h
  refine ⟨n, vv, wv, vs, us, xs, h.bo.keep hb, fun p hp => ?_, fun p hp b e => ?_, fun p hp j hj => ?_, ?_, fun b hb' => ⟨Nat.lt_of_lt_of_le (h.t b hb').1 hb.size, (h.t b hb').2⟩⟩
  · rcases List.mem_append.1 hp with q | q
    · exact ⟨(h.fi p q).1.keep hb, (h.fi p q).2⟩
    · rw [List.mem_singleton] at q; subst q
      exact ⟨⟨own_mono hv.own hB, hv.cap, hv.wf⟩, hl⟩
  · rcases List.mem_append.1 hp with q | q
    · exact h.ap p q b e
    · rw [List.mem_singleton] at q; subst q
      have h1 := (World.ownsRow.lt hv.own b e).1
      exact fun q => by have := h.sub q; omega
  · rcases List.mem_append.1 hp with q | q
    · exact h.av p q j hj
    · rw [List.mem_singleton] at q; subst q
      cases e : v.ownBlock with
      | none => exact .inl rfl
      | some b =>
        refine .inr (fun e2 => ?_)
        have h1 := (World.ownsRow.lt hv.own b e).1
        have h2 := (World.ownsRow.lt (h.bo.fv j hj).own b e2.symm).2
        omega
  · refine List.pairwise_append.2 ⟨h.pw, List.pairwise_singleton _ _, fun p hp q hq => ?_⟩
    rw [List.mem_singleton] at hq; subst hq
    cases e : p.1.ownBlock with
    | none => exact .inl rfl
    | some b =>
      refine .inr (fun e2 => ?_)
      have h1 := (World.ownsRow.lt hv.own b e2.symm).1
      have h2 := (World.ownsRow.lt (h.fi p hp).1.own b e).2
      omega
theorem BP.new {B : Nat} {W : World} {g : Nat} {T : Nat → Prop} (hB : B ≤ g) (h : AC W g (bookCs (.slice none 0 0) (.slice none 0 0))) (ht : ∀ b, T b → b < W.heap.size ∧ b ≠ g) : BP B W g [] T := by
  refine ⟨0, _, _, _, _, _, ⟨BO.new hB h, fun p hp => ?_, fun p hp => ?_, fun p hp => ?_, List.Pairwise.nil, fun b hb => ⟨(ht b hb).1, ?_⟩⟩⟩
  · cases hp
  · cases hp
  · cases hp
  · rintro (q | q | q)
    · exact (ht b hb).2 q
    · cases q
    · cases q
theorem bp_vec (B g : Nat) (v : Value) (ys : List Int) (ps : List (Value × List Int)) (T : Nat → Prop) (w : World) (hB : B ≤ w.heap.size) (h : BP B w g ((v, ys) :: ps) T) :
    Calls Tryz.prog 30 #[.pointer (some ⟨g, 0, none⟩), v] w fun e w' => e = .returned (.tuple #[]) ∧ BP B w' g ps T ∧ Fr (fun b => ¬ T b) w w' := by
  obtain ⟨n, vv, wv, vs, us, xs, h⟩ := h
  have hv := (h.fi _ (List.mem_cons_self ..)).1
  have hvl := (h.fi _ (List.mem_cons_self ..)).2
  have hva := h.ap _ (List.mem_cons_self ..)
  have hpw := List.pairwise_cons.1 h.pw
  by_cases hn : n < 250
  · obtain ⟨a, m, c, rfl, hia⟩ := hv.si
    refine (bookVec_any B g n vv wv _ _ a m c ys w hn hB h.bo.base h.bo.box h.bo.rv h.bo.ru h.bo.gv h.bo.gu h.bo.vu hia (fun b off e => by subst e; exact hva b rfl)).mono ?_
    rintro e w' ⟨rfl, vv', wv', u, p⟩
    have old : ∀ b, b < w.heap.size → ¬ BS g vv wv b → ¬ BS g vv' wv' b := fun b hb hs hq => by
      rcases hq with q | q | q
      · exact hs (.inl q)
      · rcases p.bv b q with r | r
        · exact hs (.inr (.inl r))
        · omega
      · rcases p.bu b q with r | r
        · exact hs (.inr (.inr r))
        · omega
    refine ⟨rfl, ⟨n + 1, vv', wv', _, _, _, h.bo.step hn hB hv hvl hva (h.av _ (List.mem_cons_self ..)) p, fun q hq => ?_, fun q hq b e => ?_, fun q hq j hj => ?_, hpw.2, fun b hb => ?_⟩, p.fr.mono (fun b hb ht => (h.t b ht).2 hb)⟩
    · exact ⟨(h.fi q (List.mem_cons_of_mem _ hq)).1.fr p.fr (h.ap q (List.mem_cons_of_mem _ hq)), (h.fi q (List.mem_cons_of_mem _ hq)).2⟩
    · exact old b (World.ownsRow.lt (h.fi q (List.mem_cons_of_mem _ hq)).1.own b e).2 (h.ap q (List.mem_cons_of_mem _ hq) b e)
    · by_cases e : j = n
      · subst e
        rw [if_pos rfl]
        rcases hpw.1 q hq with r | r
        · cases hq2 : q.1.ownBlock with
          | none => exact .inl rfl
          | some b => exact .inr (by rw [r]; exact fun h => by cases h)
        · exact .inr (fun h => r h.symm)
      · rw [if_neg e]
        exact h.av q (List.mem_cons_of_mem _ hq) j (by omega)
    · exact ⟨Nat.lt_of_lt_of_le (h.t b hb).1 p.fr.size, old b (h.t b hb).1 (h.t b hb).2⟩
  · obtain rfl : n = 250 := by have := h.bo.few; omega
    obtain ⟨va, cv, rfl, _⟩ := row_la h.bo.rv
    refine (bookVec_full g va cv wv v w h.bo.box).mono ?_
    rintro e w' ⟨rfl, rfl⟩
    exact ⟨rfl, ⟨250, _, wv, vs, us, xs, h.bo, fun q hq => h.fi q (List.mem_cons_of_mem _ hq), fun q hq => h.ap q (List.mem_cons_of_mem _ hq), fun q hq => h.av q (List.mem_cons_of_mem _ hq), hpw.2, h.t⟩, Fr.refl _ _⟩
theorem bp_apart (B g : Nat) (T : Nat → Prop) (w : World) (hB : B ≤ w.heap.size) (h : BP B w g [] T) :
    Calls Tryz.prog 31 #[.pointer (some ⟨g, 0, none⟩)] w fun e w' => e = .returned (.bool true) ∧ Fr (fun b => B ≤ b) w w' := by
  obtain ⟨n, vv, wv, vs, us, xs, h⟩ := h
  obtain ⟨va, ua, cv, cu, hk⟩ := h.bo.bk
  refine (apart_any B g va ua n cv cu vs us xs w hB (Lib.hid hk)).mono ?_
  rintro e w' ⟨rfl, hf⟩
  refine ⟨rfl, hf.mono (fun b hb => ?_)⟩
  obtain ⟨j, hj, e⟩ := hb
  exact (World.ownsRow.lt (h.bo.fv j hj).own b e).1
end Go.Proofs.YtibabgokmacnaaaGreat
end

/- a vector put on the book, by name of the world before. By an AI agent. -/
section
set_option linter.unusedVariables false
namespace Go.Proofs.YtibabgokmacnaaaGreat
open Go.RowKit

theorem BP.si {B : Nat} {W : World} {g : Nat} {ps : List (Value × List Int)} {T : Nat → Prop} (h : BP B W g ps T) {v : Value} {zs : List Int} (hp : (v, zs) ∈ ps) : SI W v zs := by
  obtain ⟨n, vv, wv, vs, us, xs, h⟩ := h
  exact (h.fi _ hp).1.si
theorem bp_vecS (w : World) (v : Value) (zs : List Int) (ps : List (Value × List Int)) (W : World) (hb : Bl w W) (h : BP w.heap.size W w.heap.size ((v, zs) :: ps) (fun b => b < w.heap.size)) :
    Calls Tryz.prog 30 #[.pointer (some ⟨w.heap.size, 0, none⟩), v] W fun e W' => e = .returned (.tuple #[]) ∧ BP w.heap.size W' w.heap.size ps (fun b => b < w.heap.size) ∧ Bl w W' := by
  refine (bp_vec _ _ v zs ps _ W hb.size h).mono ?_
  rintro e W' ⟨rfl, hp, hf⟩
  exact ⟨rfl, hp, hb.fr hf (fun b q => Nat.le_of_not_lt q)⟩
end Go.Proofs.YtibabgokmacnaaaGreat
end
