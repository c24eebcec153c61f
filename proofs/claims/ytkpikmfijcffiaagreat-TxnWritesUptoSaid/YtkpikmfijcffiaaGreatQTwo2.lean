import Derived.Test.YtkpikmfijcffiaaGreatQBkApW
import Derived.Test.YtkpikmfijcffiaaGreatQTxnWritesUptoP24
import Derived.Test.YtkpikmfijcffiaaGreatQTxnWritesUptoP37

/- two lists of writes laid into a book one behind the other. By an AI agent. -/
section
set_option linter.unusedVariables false
namespace Go.Proofs.YtkpikmfijcffiaaGreat
open Go.RowKit

theorem addLs_ok {ws : List (ByteArray × ActL)} {key : ByteArray} {x : ActL} (h : ∀ p ∈ ws, WrOk p) (hx : WrOk (key, x)) : ∀ p ∈ addLs ws key x, WrOk p := fun p hp => by
  unfold addLs at hp
  split at hp
  · rcases List.mem_append.1 hp with q | q
    · exact h p q
    · rw [List.mem_singleton] at q; subst q; exact hx
  · simp at hp
theorem addLs_len (ws : List (ByteArray × ActL)) (key : ByteArray) (x : ActL) : (addLs ws key x).length ≤ ws.length + 1 := by
  unfold addLs
  split <;> simp
theorem Bl.fr2 {w0 w w' : World} {S : Nat → Prop} (h : Bl w0 w) (k : Fr S w w') (hs : ∀ b, S b → w0.heap.size ≤ b) : Bl w0 w' := Below.trans h (k.below h.size hs)
/-- the round's lists, ahead of the book's calls: w1 the world that holds the arguments' boxes, wr the round's first world, W now -/
structure TwoM (w1 W : World) (g : Nat) (m : Value) (mk : Nat) (ms : List (ByteArray × ActL)) (o : Value) (ok : Nat) (os : List (ByteArray × ActL)) : Prop where
  bl : Bl w1 W
  bq : BQ bkW w1.heap.size W g (fun b => b < w1.heap.size ∨ m.ownBlock = some b ∨ o.ownBlock = some b)
  hm : OWR w1.heap.size W m mk ms
  ho : OWR w1.heap.size W o ok os
  ap : m.ownBlock = none ∨ m.ownBlock ≠ o.ownBlock
theorem OWR.wider {B B' : Nat} {w : World} {v : Value} {k : Nat} {ps : List (ByteArray × ActL)} (h : OWR B w v k ps) (hb : B' ≤ B) : OWR B' w v k ps := ⟨h.1, own_mono' h.2 hb⟩
theorem TwoM.new {w1 wr wa wa' wb wb' W : World} {g : Nat} {m : Value} {mk : Nat} {ms : List (ByteArray × ActL)} {o : Value} {ok : Nat} {os : List (ByteArray × ActL)} (hbl : Bl w1 wr) (hq : BQ bkW w1.heap.size wr g (fun b => b < w1.heap.size))
    (ha : Bl wr wa) (hm : OWR wa.heap.size wa' m mk ms) (hab : Bl wa' wb) (ho : OWR wb.heap.size wb' o ok os) (haa : Bl wa wa') (hbb : Bl wb wb') (hW : Bl wb' W) : TwoM w1 W g m mk ms o ok os := by
  have l1 := hbl.size
  have l2 := ha.size
  have l3 := hab.size
  have l4 := haa.size
  have l5 := hbb.size
  have l6 := hW.size
  have B1 := ha.trans (haa.trans (hab.trans (hbb.trans hW)))
  have hmW := hm.keep (hab.trans (hbb.trans hW))
  refine ⟨hbl.trans B1, (hq.more B1).less (fun b hb => ?_), hmW.wider (by omega), (ho.keep hW).wider (by omega), ?_⟩
  · rcases hb with q | q | q
    · exact .inl q
    · have := World.ownsRow.lt hmW.2 b q
      exact .inr ⟨by omega, this.2⟩
    · have := World.ownsRow.lt (ho.keep hW).2 b q
      exact .inr ⟨by omega, this.2⟩
  · cases e : m.ownBlock with
    | none => exact .inl rfl
    | some b =>
      refine .inr (fun e2 => ?_)
      have h1 := World.ownsRow.lt hm.2 b e
      have h2 := World.ownsRow.lt ho.2 b e2.symm
      omega
theorem TwoM.keep {w1 W W' : World} {g : Nat} {m : Value} {mk : Nat} {ms : List (ByteArray × ActL)} {o : Value} {ok : Nat} {os : List (ByteArray × ActL)} (h : TwoM w1 W g m mk ms o ok os) (hb : Bl W W') : TwoM w1 W' g m mk ms o ok os :=
  ⟨h.bl.trans hb, h.bq.keep hb, h.hm.keep hb, h.ho.keep hb, h.ap⟩
/-- behind the first list -/
structure OneM (w1 W : World) (g : Nat) (o : Value) (ok : Nat) (os : List (ByteArray × ActL)) : Prop where
  bl : Bl w1 W
  bq : BQ bkW w1.heap.size W g (fun b => b < w1.heap.size ∨ o.ownBlock = some b)
  ho : OWR w1.heap.size W o ok os
theorem two_first (w1 W : World) (g : Nat) (m : Value) (mk : Nat) (ms : List (ByteArray × ActL)) (o : Value) (ok : Nat) (os : List (ByteArray × ActL)) (h : TwoM w1 W g m mk ms o ok os) (hmk : mk ≤ 50000) (hok : ∀ p ∈ ms, WrOk p) :
    Calls Tryz.prog 18 #[.pointer (some ⟨g, 0, none⟩), m] W fun e W' => e = .returned (.tuple #[]) ∧ OneM w1 W' g o ok os := by
  obtain ⟨ma, mc, e⟩ := h.hm.form
  subst e
  refine (bqW_Writes w1.heap.size g ma mk mc ms _ W h.bl.size h.bq h.hm.2 h.hm.1 hmk hok (fun b hb => .inr (.inl hb))).mono ?_
  rintro e W' ⟨rfl, hq, hf⟩
  have hno : ∀ b, o.ownBlock = some b → (Value.slice ma mk mc).ownBlock ≠ some b := fun b e e2 => by
    rcases h.ap with q | q
    · rw [q] at e2; cases e2
    · exact q (e2.trans e.symm)
  refine ⟨rfl, h.bl.fr2 hf (fun b hb => Nat.le_of_not_lt (fun q => hb (.inl q))), hq.less (fun b hb => ?_), h.ho.1, hf.own h.ho.2 (fun b e => not_not_intro (.inr (.inr e)))⟩
  rcases hb with q | q
  · exact ⟨.inl q, fun e => by have := World.ownsRow.lt h.hm.2 b e; omega⟩
  · exact ⟨.inr (.inr q), hno b q⟩
theorem one_last (w1 W : World) (g : Nat) (o : Value) (ok : Nat) (os : List (ByteArray × ActL)) (h : OneM w1 W g o ok os) (hok : ok ≤ 50000) (hoo : ∀ p ∈ os, WrOk p) :
    Calls Tryz.prog 18 #[.pointer (some ⟨g, 0, none⟩), o] W fun e W' => e = .returned (.tuple #[]) ∧ Bl w1 W' ∧ BQ bkW w1.heap.size W' g (fun b => b < w1.heap.size) := by
  obtain ⟨oa, oc, e⟩ := h.ho.form
  subst e
  refine (bqW_Writes w1.heap.size g oa ok oc os _ W h.bl.size h.bq h.ho.2 h.ho.1 hok hoo (fun b hb => .inr hb)).mono ?_
  rintro e W' ⟨rfl, hq, hf⟩
  refine ⟨rfl, h.bl.fr2 hf (fun b hb => Nat.le_of_not_lt (fun q => hb (.inl q))), hq.less (fun b hb => ⟨.inl hb, fun e => by have := World.ownsRow.lt h.ho.2 b e; omega⟩)⟩
end Go.Proofs.YtkpikmfijcffiaaGreat
end
