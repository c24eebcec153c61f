/- Regions that draw their order: the operations that may be taken first, named by their numbers. By an AI agent. -/
import Derived.Test.YtgdlcoicejgdkaaDoorExt
namespace Go.Proofs.YtgdlcoicejgdkaaDoor
open Go.RowKit

section
variable {P : Program} {ops : Array Oper} {md : Region.Mode} {C : World → Prop}

/-- may these operations be taken first, one behind the other? -/
def preB (md : Region.Mode) (ops : Array Oper) : List Nat → Array Bool → Bool
  | [], _ => true
  | i :: is, listed => (Region.ready md ops listed).contains i && Region.free md ops listed i && preB md ops is (listed.setIfInBounds i true)
def setAll : List Nat → Array Bool → Array Bool
  | [], listed => listed
  | i :: is, listed => setAll is (listed.setIfInBounds i true)
def wpI (P : Program) (ops : Array Oper) (C : World → Prop) (Q : Act → Prop) : List Nat → Act → Prop
  | [], a => Q a
  | i :: is, a => ∃ o, ops[i]? = some o ∧ if Region.wanted o (yielded ops a.tmps) then ∃ v, (∀ n : ExtC C, o.quietAt P a (fun w'' => Bl n.at w'') n.at v) ∧ wpI P ops C Q is (a.put o.dst v) else wpI P ops C Q is (a.put o.dst undef)
theorem wpI_nil {Q : Act → Prop} {a : Act} (h : Q a) : wpI P ops C Q [] a := h
theorem wpI_step {Q : Act → Prop} {a : Act} {i : Nat} {is : List Nat} {o : Oper} (ho : ops[i]? = some o)
    (h : ∀ K : Act → Prop, (∀ a, wpI P ops C Q is a → K a) → if Region.wanted o (yielded ops a.tmps) then ∃ v, (∀ n : ExtC C, o.quietAt P a (fun w'' => Bl n.at w'') n.at v) ∧ K (a.put o.dst v) else K (a.put o.dst undef)) : wpI P ops C Q (i :: is) a :=
  ⟨o, ho, h _ (fun _ h => h)⟩
theorem wpAnyE_idx (hcl : ∀ w w', C w → Bl w w' → C w') {Q : Act → World → Prop} (hs : Region.noSelect ops = true) (m : Nat) (w : World) (hw : C w) : ∀ (is : List Nat) (listed : Array Bool) (a : Act),
    preB md ops is listed = true → wpI P ops C (fun a' => wpAnyE P md ops C Q m (setAll is listed) a' w) is a → wpAnyE P md ops C Q (is.length + m) listed a w
  | [], _, _, _, h => by rw [List.length_nil, Nat.zero_add]; exact h
  | i :: is, listed, a, hB, h => by
    simp only [preB, Bool.and_eq_true] at hB
    obtain ⟨⟨hr, hf⟩, hB'⟩ := hB
    obtain ⟨o, h0, h⟩ := h
    rw [List.length_cons, show is.length + 1 + m = (is.length + m) + 1 by omega]
    have key : ∀ v, YE P ops C o v a → wpI P ops C (fun a' => wpAnyE P md ops C Q m (setAll (i :: is) listed) a' w) is (a.put o.dst v) → wpAnyE P md ops C Q (is.length + m + 1) listed a w := fun v hy hK =>
      wpAnyE_first hcl h0 (Region.noSelect_spec hs) (is.length + m) listed a w hw (Region.free_spec h0 hf) (by simpa using hr) hy
        (wpAnyE_idx hcl hs m w hw is _ _ hB' hK)
    split at h
    · rename_i hw
      obtain ⟨v, hv, hK⟩ := h
      exact key v (.inl ⟨hw, fun w hb => hv ⟨w, hb⟩⟩) hK
    · rename_i hw
      exact key undef (.inr ⟨by simpa using hw, rfl⟩) h
/-- a region of which the named operations only tell or call and may be taken first -/
theorem wp_region_idx {id : Nat} {Q : Exit → Act → World → Prop} {a : Act} {w : World} {l : List Oper} (is : List Nat) (m : Nat) (C : World → Prop) (hcl : ∀ w w', C w → Bl w w' → C w') (hw : C w.drew) (hm : P.follows .mixedOrders = true) (hn : l.length = is.length + m)
    (hs : Region.noSelect l.toArray = true) (hB : preB .any l.toArray is (Array.replicate l.length false) = true)
    (h : wpI P l.toArray C (fun a' => wpAnyE P .any l.toArray C (fun a w => Q .normal a w) m (setAll is (Array.replicate l.length false)) a' w.drew) is a) :
    (Code.region id l.toArray true).wp P Q a w := by
  refine wp_region_any hm (wpAny_of_E (C := C) (Q := fun a w => Q .normal a w) (fun _ _ h => h) _ _ _ _ ?_)
  have hk := wpAnyE_idx (md := .any) hcl (Q := fun a w => Q .normal a w) hs m w.drew hw is (Array.replicate l.length false) a hB h
  have e : is.length + m = l.toArray.size := by simp; omega
  rw [e] at hk
  simpa using hk
end
/-! a narrower class of worlds from here on -/
section
variable {P : Program} {ops : Array Oper} {md : Region.Mode}
theorem wpAnyE_sub {C C' : World → Prop} (h : ∀ w, C' w → C w) {Q : Act → World → Prop} : ∀ {fuel : Nat} {listed : Array Bool} {a : Act} {w : World}, wpAnyE P md ops C' Q fuel listed a w → wpAnyE P md ops C Q fuel listed a w
  | 0, _, _, _, hh => hh
  | _ + 1, _, _, _, hh => ⟨hh.1, fun i hi w' hb => eOp_mono (fun _ _ k => ⟨h _ k.1, wpAnyE_sub h k.2⟩) (hh.2 i hi w' hb)⟩
end

/-! the walk of all operations, shut: nothing of it is laid open but one operation at a time (where a guard is not met the open form would be reckoned to its end) -/
section
variable {P : Program} {ops : Array Oper} {C : World → Prop}
structure wpS (P : Program) (ops : Array Oper) (C : World → Prop) (Q : Act → Prop) (l : List Oper) (a : Act) : Prop where
  out : wpE P ops C Q l a
theorem wpS_nil {Q : Act → Prop} {a : Act} (h : Q a) : wpS P ops C Q [] a := ⟨h⟩
theorem wpS_step {Q : Act → Prop} {a : Act} {o : Oper} {rest : List Oper}
    (h : ∀ K : Act → Prop, (∀ a, wpS P ops C Q rest a → K a) → if Region.wanted o (yielded ops a.tmps) then ∃ v, (∀ n : ExtC C, o.quietAt P a (fun w'' => Bl n.at w'') n.at v) ∧ K (a.put o.dst v) else K (a.put o.dst undef)) : wpS P ops C Q (o :: rest) a :=
  ⟨wpE_step fun K hK => h K fun a k => hK a k.out⟩
theorem wp_region_allS {id : Nat} {Q : Exit → Act → World → Prop} {a : Act} {w : World} {l : List Oper} (hm : P.follows .mixedOrders = true) (hB : Region.lexB .any l.toArray = true)
    (h : wpS P l.toArray (Bl w.drew) (fun a' => ∀ n : Ext w.drew, Q .normal a' n.at) l a) : (Code.region id l.toArray true).wp P Q a w :=
  wp_region_extall hm hB h.out
theorem wp_region_preS {id : Nat} {Q : Exit → Act → World → Prop} {a : Act} {w : World} {l : List Oper} (n m : Nat) (hm : P.follows .mixedOrders = true) (hn : l.length = n + m)
    (hs : Region.noSelect l.toArray = true) (hB : lexPre .any l.toArray (l.take n).length 0 (Array.replicate l.length false) = true)
    (h : wpS P l.toArray (Bl w.drew) (fun a' => wpAnyE P .any l.toArray (Bl w.drew) (fun a w => Q .normal a w) m (lexSet (l.take n).length 0 (Array.replicate l.length false)) a' w.drew) (l.take n) a) :
    (Code.region id l.toArray true).wp P Q a w :=
  wp_region_ext n m hm hn hs hB h.out
end
end Go.Proofs.YtgdlcoicejgdkaaDoor
