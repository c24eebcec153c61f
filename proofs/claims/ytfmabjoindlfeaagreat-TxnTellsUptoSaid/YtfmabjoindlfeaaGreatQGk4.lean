import Derived.Test.YtfmabjoindlfeaaGreatQTxnTellsUptoP6

/- one more list in a book, where blocks (U) are known that are no rows of the book's own. By an AI agent. -/
section
set_option linter.unusedVariables false
namespace Go.Proofs.YtfmabjoindlfeaaGreat
open Go.RowKit

/-- a book that leaves T alone, and whose own rows lie in no block of U -/
def BQU (k : BKd) (B : Nat) (W : World) (g : Nat) (T U : Nat → Prop) : Prop := ∃ n vv wv vs us ln cs D, BookX k B W g n vv wv vs us ln cs D T ∧ ∀ b, U b → b < W.heap.size ∧ ¬ BSt g vv wv b
section
variable {k : BKd} {B : Nat} {w W : World} {g : Nat} {T T' U U' : Nat → Prop} {n : Nat → Nat} {vv wv : Nat → Value} {vs us : Nat → Nat → Value} {ln : Nat → Nat → Nat} {cs : Nat → Nat → List Value} {D : Nat → Nat → Nat → Prop}
theorem BQU.bq (h : BQU k B W g T U) : BQ k B W g T := by
  obtain ⟨n, vv, wv, vs, us, ln, cs, D, h, -⟩ := h
  exact ⟨n, vv, wv, vs, us, ln, cs, D, h⟩
theorem BQ.bqu (h : BQ k B W g T) (hu : ∀ b, U b → T b) : BQU k B W g T U := by
  obtain ⟨n, vv, wv, vs, us, ln, cs, D, h⟩ := h
  exact ⟨n, vv, wv, vs, us, ln, cs, D, h, fun b hb => ⟨(h.t b (hu b hb)).1, (h.t b (hu b hb)).2.1⟩⟩
theorem BQU.less (h : BQU k B W g T U) (ht : ∀ b, T' b → T b) (hu : ∀ b, U' b → U b) : BQU k B W g T' U' := by
  obtain ⟨n, vv, wv, vs, us, ln, cs, D, h, h2⟩ := h
  exact ⟨n, vv, wv, vs, us, ln, cs, D, h.less ht, fun b hb => h2 b (hu b hb)⟩
theorem BQU.keep (h : BQU k B W g T U) {W' : World} (hb : Bl W W') : BQU k B W' g T U := by
  obtain ⟨n, vv, wv, vs, us, ln, cs, D, h, h2⟩ := h
  exact ⟨n, vv, wv, vs, us, ln, cs, D, h.keep hb, fun b q => ⟨Nat.lt_of_lt_of_le (h2 b q).1 hb.size, (h2 b q).2⟩⟩
theorem BookX.bqu (h : BookX k B w g n vv wv vs us ln cs D T) (hu : ∀ b, U b → b < w.heap.size ∧ ¬ BSt g vv wv b) : BQU k B w g T U := ⟨n, vv, wv, vs, us, ln, cs, D, h, hu⟩
theorem BookX.regU {p : Nat} {v vv' wv' u : Value} {l : Nat} {ys : List Value} {Dv Dn : Nat → Prop} (h : BookX k B w g n vv wv vs us ln cs D T) (hu : ∀ b, U b → b < w.heap.size ∧ ¬ BSt g vv wv b) (hp : p ∈ k.K) (hn : n p < 250) (hv : w.ownsRow B (k.E p) (k.z p) v l ys) (hl : l ≤ 50000)
    (hT : ∀ b, v.ownBlock = some b → T b) (hD : ∀ b, Dv b → b < w.heap.size ∧ ¬ BSt g vv wv b) (P : VPk k B w W g (n p) p vv wv vs us v vv' wv' u Dv Dn) :
    BQU k B W g (fun b => T b ∧ v.ownBlock ≠ some b) U ∧ Fr (fun b => ¬ (T b ∨ U b)) w W := by
  have hs := h.step hp hn hv hl hT hD P
  refine ⟨hs.1.bqu (fun b hb => ⟨Nat.lt_of_lt_of_le (hu b hb).1 P.fr.size, hs.2 b (hu b hb).1 (hu b hb).2⟩), ⟨P.fr.os, P.fr.tape, P.fr.output, P.fr.size, fun b hb ht => P.fr.block b hb (fun q => ?_)⟩⟩
  have hs : ¬ BSt g vv wv b := by
    rcases Classical.not_not.1 ht with q | q
    · exact (h.t b q).2.1
    · exact (hu b q).2
  rcases q with q | q | q
  · exact hs (.inl q)
  · exact hs (.inr ⟨p, .inl q⟩)
  · exact hs (.inr ⟨p, .inr q⟩)
end
end Go.Proofs.YtfmabjoindlfeaaGreat
end
