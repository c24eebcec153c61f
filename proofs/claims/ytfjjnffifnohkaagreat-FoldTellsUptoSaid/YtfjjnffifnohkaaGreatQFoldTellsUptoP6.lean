import Derived.Deep.QuietTactic
import Derived.Test.YtfjjnffifnohkaaGreatQFoldTellsUptoP1
import Derived.Test.YtfjjnffifnohkaaGreatQFoldTellsUptoP5
import Derived.Outline
import Derived.Deep.DeepCutAuto

/- Regions that draw their order and whose calls make memory: an operation that tells the same in every world that goes on from the region's first one, and only goes on from the world that it got, may be taken first. · Regions that draw their order: the operations that may be taken first, named by their numbers. By an AI agent. -/
section
namespace Go.Proofs.YtfjjnffifnohkaaGreat
open Go.RowKit

/-- a world of a class -/
def ExtC (C : World → Prop) : Type := { w' : World // C w' }
def ExtC.at {C : World → Prop} (n : ExtC C) : World := n.val
theorem ExtC.ok {C : World → Prop} (n : ExtC C) : C n.at := n.property
/-- a world that goes on from w -/
abbrev Ext (w : World) : Type := ExtC (Bl w)
theorem ExtC.bl {w : World} (n : Ext w) : Bl w n.at := n.property
instance (w : World) : Nonempty (Ext w) := ⟨⟨w, Bl.refl w⟩⟩

section
variable {P : Program} {ops : Array Oper} {md : Region.Mode} {C : World → Prop}

/-- what is asked of an operation: it returns -/
def eUpon (P : Program) (o : Oper) (a : Act) (K : Act → World → Prop) : Result Next → Prop
  | .ok (.value u) w' => K (a.put o.dst u) w'
  | .ok .skip w' => K (a.put o.dst undef) w'
  | .ok (.enter f args) w' => Calls P f args w' (fun e w'' => ∃ v, e = .returned v ∧ K (a.put o.dst v) w'')
  | _ => False
def eOper (P : Program) (o : Oper) (a : Act) (w : World) (K : Act → World → Prop) : Prop := eUpon P o a K ((execOp a.eval o).run P w)
def eOp (P : Program) (ops : Array Oper) (i : Nat) (K : Act → World → Prop) (a : Act) (w : World) : Prop :=
  match ops[i]? with
  | none => K a w
  | some o => if Region.wanted o (yielded ops a.tmps) then eOper P o a w K else K (a.put o.dst undef) w

theorem eUpon_mono {o : Oper} {a : Act} {K K' : Act → World → Prop} (h : ∀ a w, K a w → K' a w) {r : Result Next} (hh : eUpon P o a K r) : eUpon P o a K' r := by
  cases r with
  | ok n w' =>
    cases n <;> simp only [eUpon] at hh ⊢
    case value u => exact h _ _ hh
    case skip => exact h _ _ hh
    case enter f args => exact hh.mono fun e w'' ⟨v, he, hk⟩ => ⟨v, he, h _ _ hk⟩
  | halt x w' => simp only [eUpon] at hh
theorem eOp_mono {i : Nat} {a : Act} {w : World} {K K' : Act → World → Prop} (h : ∀ a w, K a w → K' a w) (hh : eOp P ops i K a w) : eOp P ops i K' a w := by
  unfold eOp at *
  split
  · exact h _ _ (by simpa [*] using hh)
  · rename_i o ho
    simp only [ho] at hh
    split
    · rename_i hw; simp only [hw, if_true] at hh; exact eUpon_mono h hh
    · rename_i hw; simp only [hw] at hh; exact h _ _ hh
theorem wpOp_of_eOp {i : Nat} {a : Act} {w : World} {K : Act → World → Prop} {Q : Exit → Act → World → Prop} (hh : eOp P ops i K a w) : wpOp P ops Q i K a w := by
  unfold eOp at hh
  unfold wpOp
  split
  · rename_i ho; simp only [ho] at hh; exact hh
  · rename_i o ho
    simp only [ho] at hh
    split
    · rename_i hw
      simp only [hw, if_true] at hh
      refine .inl ?_
      unfold eOper at hh
      unfold Oper.wp
      generalize (execOp a.eval o).run P w = r at *
      cases r with
      | ok n w' =>
        cases n <;> simp only [eUpon] at hh <;> simp only [Oper.upon]
        case value u => exact hh
        case skip => exact hh
        case enter f args => exact hh.mono fun e w'' ⟨v, he, hk⟩ => by subst he; exact hk
      | halt x w' => simp only [eUpon] at hh
    · rename_i hw; simp only [hw] at hh; exact hh

/-- whatever order is picked from here on, and whatever is laid behind meanwhile -/
def wpAnyE (P : Program) (md : Region.Mode) (ops : Array Oper) (C : World → Prop) (Q : Act → World → Prop) : Nat → Array Bool → Act → World → Prop
  | 0, listed, a, w => Region.ready md ops listed = [] ∧ ∀ w', Bl w w' → Q a w'
  | fuel + 1, listed, a, w =>
    (Region.ready md ops listed = [] → ∀ w', Bl w w' → Q a w') ∧
    ∀ i ∈ Region.ready md ops listed, ∀ w', Bl w w' → eOp P ops i (fun a'' w'' => C w'' ∧ wpAnyE P md ops C Q fuel (listed.setIfInBounds i true) a'' w'') a w'

theorem wpAnyE_ext {Q : Act → World → Prop} : ∀ {fuel : Nat} {listed : Array Bool} {a : Act} {w w' : World}, Bl w w' → wpAnyE P md ops C Q fuel listed a w → wpAnyE P md ops C Q fuel listed a w'
  | 0, _, _, _, _, hb, h => ⟨h.1, fun w'' h2 => h.2 w'' (hb.trans h2)⟩
  | _ + 1, _, _, _, _, hb, h => ⟨fun h0 w'' h2 => h.1 h0 w'' (hb.trans h2), fun i hi w'' h2 => h.2 i hi w'' (hb.trans h2)⟩
theorem wpAny_of_E {Q : Act → World → Prop} {Q' : Exit → Act → World → Prop} (hQ : ∀ a w, Q a w → Q' .normal a w) : ∀ (fuel : Nat) (listed : Array Bool) (a : Act) (w : World),
    wpAnyE P md ops C Q fuel listed a w → wpAny P md ops Q' fuel listed a w
  | 0, _, _, _, h => ⟨h.1, hQ _ _ (h.2 _ (Bl.refl _))⟩
  | fuel + 1, _, _, _, h => ⟨fun h0 => hQ _ _ (h.1 h0 _ (Bl.refl _)), fun i hi => wpOp_mono (fun _ _ k => wpAny_of_E hQ fuel _ _ _ k.2) (wpOp_of_eOp (h.2 i hi _ (Bl.refl _)))⟩

/-- in every world that goes on from C the operation yields v and goes on from the world that it got -/
def YE (P : Program) (ops : Array Oper) (C : World → Prop) (o : Oper) (v : Value) (a : Act) : Prop :=
  (Region.wanted o (yielded ops a.tmps) = true ∧ ∀ w, C w → o.quietAt P a (fun w'' => Bl w w'') w v) ∨
  (Region.wanted o (yielded ops a.tmps) = false ∧ v = undef)
theorem YE.of_same {o : Oper} {v : Value} {a a' : Act} (hy : YE P ops C o v a) (he : execOp a'.eval o = execOp a.eval o)
    (hw : Region.wanted o (yielded ops a'.tmps) = Region.wanted o (yielded ops a.tmps)) : YE P ops C o v a' := by
  unfold YE Oper.quietAt at *
  rw [he, hw]
  exact hy
theorem YE.eOp {i : Nat} {o : Oper} {v : Value} {a : Act} {w : World} (hi : ops[i]? = some o) (hy : YE P ops C o v a) (hw0 : C w) {K : Act → World → Prop} (h : ∀ w', Bl w w' → K (a.put o.dst v) w') : eOp P ops i K a w := by
  unfold Go.Proofs.YtfjjnffifnohkaaGreat.eOp
  simp only [hi]
  rcases hy with ⟨hw, hv⟩ | ⟨hw, rfl⟩
  · simp only [hw, if_true]
    have h3 := hv w hw0
    unfold Oper.quietAt at h3
    unfold eOper
    generalize (execOp a.eval o).run P w = r at *
    cases r with
    | ok n w' =>
      cases n <;> simp only [Oper.quietUpon] at h3 <;> simp only [eUpon]
      case value u =>
        obtain ⟨e1, e2⟩ := h3
        rw [e1, e2]; exact h _ (Bl.refl _)
      case skip =>
        obtain ⟨e1, e2⟩ := h3
        rw [e1, ← e2]; exact h _ (Bl.refl _)
      case enter f args =>
        obtain ⟨e1, hc⟩ := h3
        rw [e1]
        exact hc.mono fun e w'' ⟨he, hb⟩ => ⟨v, he, h _ hb⟩
    | halt x w' => simp only [Oper.quietUpon] at h3
  · simp only [hw, Bool.false_eq_true, if_false]; exact h _ (Bl.refl _)

/-- one operation, apart from another one whose value may be there already or not -/
theorem eOp_put {j : Nat} {oi oj : Oper} {v : Value} (hj : ops[j]? = some oj) (hap : oi.apart ops oj = true)
    (hsi : ∀ cs b, oi.op ≠ .select cs b) (hsj : ∀ cs b, oj.op ≠ .select cs b) {K : Act → World → Prop} {a : Act} {w : World}
    (hy : YE P ops C oi v a) (h : eOp P ops j K (a.put oi.dst v) w) :
    eOp P ops j (fun a' w' => YE P ops C oi v a' ∧ K (a'.put oi.dst v) w') a w := by
  obtain ⟨h1, h2, h3⟩ := Oper.apart_spec hap
  have keep : ∀ (a : Act), YE P ops C oi v a → ∀ u, YE P ops C oi v (a.put oj.dst u) := fun a hy u =>
    hy.of_same (execOp_put oi hsi a oj.dst u h3) (wanted_put oi a oj.dst u h3)
  unfold Go.Proofs.YtfjjnffifnohkaaGreat.eOp at *
  simp only [hj] at *
  rw [wanted_put oj a oi.dst v h1] at h
  split
  · rename_i hw
    simp only [hw, if_true] at h
    unfold eOper at *
    rw [execOp_put oj hsj a oi.dst v h1] at h
    generalize (execOp a.eval oj).run P w = r at *
    cases r with
    | ok n w' =>
      cases n <;> simp only [eUpon] at h ⊢
      case value u => exact ⟨keep a hy u, by rw [← Act.put_comm a v u h2]; exact h⟩
      case skip => exact ⟨keep a hy _, by rw [← Act.put_comm a v undef h2]; exact h⟩
      case enter f args => exact h.mono fun e w'' ⟨u, he, hk⟩ => ⟨u, he, keep a hy u, by rw [← Act.put_comm a v u h2]; exact hk⟩
    | halt x w' => simp only [eUpon] at h
  · rename_i hw
    simp only [hw] at h
    exact ⟨keep a hy _, by rw [← Act.put_comm a v undef h2]; exact h⟩

theorem wpAnyE_first (hcl : ∀ w w', C w → Bl w w' → C w') {Q : Act → World → Prop} {i : Nat} {oi : Oper} {v : Value} (hi : ops[i]? = some oi) (hsel : ∀ (j : Nat) (o : Oper) cs b, ops[j]? = some o → o.op ≠ .select cs b) :
    ∀ (fuel : Nat) (listed : Array Bool) (a : Act) (w : World), C w →
      (∀ j oj, ops[j]? = some oj → j ≠ i → listed.getD j true = false → (∀ e ∈ oj.after, Region.binds md e = true → e.on ≠ i) → oi.apart ops oj = true) →
      i ∈ Region.ready md ops listed → YE P ops C oi v a →
      wpAnyE P md ops C Q fuel (listed.setIfInBounds i true) (a.put oi.dst v) w → wpAnyE P md ops C Q (fuel + 1) listed a w := by
  intro fuel
  induction fuel with
  | zero =>
    intro listed a w hb _ hr hy H
    refine ⟨fun h => (by rw [h] at hr; cases hr), fun j hj w' hb' => ?_⟩
    by_cases hji : j = i
    · subst hji; exact hy.eOp hi (hcl _ _ hb hb') fun w'' hb'' => ⟨hcl _ _ hb (hb'.trans hb''), wpAnyE_ext (hb'.trans hb'') H⟩
    · have := ready_mono hj hji
      rw [H.1] at this
      cases this
  | succ fuel ih =>
    intro listed a w hb hfree hr hy H
    refine ⟨fun h => (by rw [h] at hr; cases hr), fun j hj w' hb' => ?_⟩
    by_cases hji : j = i
    · subst hji; exact hy.eOp hi (hcl _ _ hb hb') fun w'' hb'' => ⟨hcl _ _ hb (hb'.trans hb''), wpAnyE_ext (hb'.trans hb'') H⟩
    · have h1 := H.2 j (ready_mono hj hji) w' hb'
      obtain ⟨hjun, oj, hoj, hall⟩ := mem_ready.1 hj
      have hnot : ∀ e ∈ oj.after, Region.binds md e = true → e.on ≠ i := fun e he hb heq => by
        have h1 := hall e he hb
        have h0 := (mem_ready.1 hr).1
        rw [heq] at h1
        rcases Nat.lt_or_ge i listed.size with h' | h'
        · simp [h'] at h0 h1; rw [h0] at h1; cases h1
        · simp [Array.getElem?_eq_none h'] at h1
      have h2 := eOp_put hoj (hfree j oj hoj hji hjun hnot) (fun cs b => hsel i oi cs b hi) (fun cs b => hsel j oj cs b hoj) hy h1
      have hfree' : ∀ k ok, ops[k]? = some ok → k ≠ i → (listed.setIfInBounds j true).getD k true = false →
          (∀ e ∈ ok.after, Region.binds md e = true → e.on ≠ i) → oi.apart ops ok = true := fun k ok hk hki hun hno => by
        refine hfree k ok hk hki ?_ hno
        by_cases hjk : j = k
        · subst hjk; exact hjun
        · rw [getD_set_ne true hjk] at hun; exact hun
      refine eOp_mono (fun a' w'' h3 => ⟨h3.2.1, ih (listed.setIfInBounds j true) a' w'' h3.2.1 hfree' (ready_mono hr (Ne.symm hji)) h3.1 ?_⟩) h2
      rw [Array.setIfInBounds_comm _ _ hji]
      exact h3.2.2

/-! the lexical walk of the first operations -/
def wpE (P : Program) (ops : Array Oper) (C : World → Prop) (Q : Act → Prop) : List Oper → Act → Prop
  | [], a => Q a
  | o :: rest, a => if Region.wanted o (yielded ops a.tmps) then ∃ v, (∀ n : ExtC C, o.quietAt P a (fun w'' => Bl n.at w'') n.at v) ∧ wpE P ops C Q rest (a.put o.dst v) else wpE P ops C Q rest (a.put o.dst undef)
theorem wpE_nil {Q : Act → Prop} {a : Act} (h : Q a) : wpE P ops C Q [] a := h
theorem wpE_step {Q : Act → Prop} {a : Act} {o : Oper} {rest : List Oper}
    (h : ∀ K : Act → Prop, (∀ a, wpE P ops C Q rest a → K a) → if Region.wanted o (yielded ops a.tmps) then ∃ v, (∀ n : ExtC C, o.quietAt P a (fun w'' => Bl n.at w'') n.at v) ∧ K (a.put o.dst v) else K (a.put o.dst undef)) : wpE P ops C Q (o :: rest) a :=
  h _ (fun _ h => h)
/-- may the next n operations, from k on, be taken first, one behind the other? -/
def lexPre (md : Region.Mode) (ops : Array Oper) : Nat → Nat → Array Bool → Bool
  | 0, _, _ => true
  | n + 1, k, listed => (Region.ready md ops listed).contains k && Region.free md ops listed k && lexPre md ops n (k + 1) (listed.setIfInBounds k true)
def lexSet : Nat → Nat → Array Bool → Array Bool
  | 0, _, listed => listed
  | n + 1, k, listed => lexSet n (k + 1) (listed.setIfInBounds k true)
theorem wpAnyE_lex (hcl : ∀ w w', C w → Bl w w' → C w') {Q : Act → World → Prop} (hs : Region.noSelect ops = true) (m : Nat) (w : World) (hw : C w) : ∀ (l : List Oper) (k : Nat) (listed : Array Bool) (a : Act), (∀ j o, l[j]? = some o → ops[k + j]? = some o) →
    lexPre md ops l.length k listed = true → wpE P ops C (fun a' => wpAnyE P md ops C Q m (lexSet l.length k listed) a' w) l a → wpAnyE P md ops C Q (l.length + m) listed a w
  | [], _, _, _, _, _, h => by rw [List.length_nil, Nat.zero_add]; exact h
  | o :: l, k, listed, a, hl, hB, h => by
    have h0 : ops[k]? = some o := by simpa using hl 0 o rfl
    simp only [List.length_cons, lexPre, Bool.and_eq_true] at hB
    obtain ⟨⟨hr, hf⟩, hB'⟩ := hB
    have hl' : ∀ j o, l[j]? = some o → ops[k + 1 + j]? = some o := fun j o h => by
      have := hl (j + 1) o (by simpa using h)
      rwa [show k + 1 + j = k + (j + 1) by omega]
    rw [List.length_cons, show l.length + 1 + m = (l.length + m) + 1 by omega]
    unfold wpE at h
    have key : ∀ v, YE P ops C o v a → wpE P ops C (fun a' => wpAnyE P md ops C Q m (lexSet (o :: l).length k listed) a' w) l (a.put o.dst v) → wpAnyE P md ops C Q (l.length + m + 1) listed a w := fun v hy hK =>
      wpAnyE_first hcl h0 (Region.noSelect_spec hs) (l.length + m) listed a w hw (Region.free_spec h0 hf) (by simpa using hr) hy
        (wpAnyE_lex hcl hs m w hw l (k + 1) _ _ hl' hB' hK)
    split at h
    · rename_i hw
      obtain ⟨v, hv, hK⟩ := h
      exact key v (.inl ⟨hw, fun w hb => hv ⟨w, hb⟩⟩) hK
    · rename_i hw
      exact key undef (.inr ⟨by simpa using hw, rfl⟩) h

/-- a region whose first n operations only tell or call, whatever comes behind them, at a class of worlds -/
theorem wp_region_extC {id : Nat} {Q : Exit → Act → World → Prop} {a : Act} {w : World} {l : List Oper} (C : World → Prop) (hcl : ∀ w w', C w → Bl w w' → C w') (hw : C w.drew) (n m : Nat) (hm : P.follows .mixedOrders = true) (hn : l.length = n + m)
    (hs : Region.noSelect l.toArray = true) (hB : lexPre .any l.toArray (l.take n).length 0 (Array.replicate l.length false) = true)
    (h : wpE P l.toArray C (fun a' => wpAnyE P .any l.toArray C (fun a w => Q .normal a w) m (lexSet (l.take n).length 0 (Array.replicate l.length false)) a' w.drew) (l.take n) a) :
    (Code.region id l.toArray true).wp P Q a w := by
  refine wp_region_any hm (wpAny_of_E (C := C) (Q := fun a w => Q .normal a w) (fun _ _ h => h) _ _ _ _ ?_)
  have hk := wpAnyE_lex (md := .any) hcl (Q := fun a w => Q .normal a w) hs m w.drew hw (l.take n) 0 (Array.replicate l.length false) a (fun j o h => by
    rw [List.getElem?_take] at h
    split at h
    · simpa using h
    · cases h) hB h
  have e : (l.take n).length + m = l.toArray.size := by simp; omega
  rw [e] at hk
  simpa using hk
/-- .. at the worlds that go on from the region's first one -/
theorem wp_region_ext {id : Nat} {Q : Exit → Act → World → Prop} {a : Act} {w : World} {l : List Oper} (n m : Nat) (hm : P.follows .mixedOrders = true) (hn : l.length = n + m)
    (hs : Region.noSelect l.toArray = true) (hB : lexPre .any l.toArray (l.take n).length 0 (Array.replicate l.length false) = true)
    (h : wpE P l.toArray (Bl w.drew) (fun a' => wpAnyE P .any l.toArray (Bl w.drew) (fun a w => Q .normal a w) m (lexSet (l.take n).length 0 (Array.replicate l.length false)) a' w.drew) (l.take n) a) :
    (Code.region id l.toArray true).wp P Q a w :=
  wp_region_extC (Bl w.drew) (fun _ _ h k => h.trans k) (Bl.refl _) n m hm hn hs hB h
/-- all of them -/
theorem wp_region_extall {id : Nat} {Q : Exit → Act → World → Prop} {a : Act} {w : World} {l : List Oper} (hm : P.follows .mixedOrders = true)
    (hB : Region.lexB .any l.toArray = true)
    (h : wpE P l.toArray (Bl w.drew) (fun a' => ∀ n : Ext w.drew, Q .normal a' n.at) l a) :
    (Code.region id l.toArray true).wp P Q a w := by
  simp only [Region.lexB, Bool.and_eq_true] at hB
  have hpre : ∀ (f k : Nat) (listed : Array Bool), Region.lexFrom .any l.toArray f k listed = true → lexPre .any l.toArray f k listed = true ∧ Region.ready .any l.toArray (lexSet f k listed) = [] := by
    intro f
    induction f with
    | zero => intro k listed h; exact ⟨rfl, by simpa [Region.lexFrom, lexSet] using h⟩
    | succ f ih =>
      intro k listed h
      simp only [Region.lexFrom, Bool.and_eq_true] at h
      have := ih (k + 1) _ h.2
      exact ⟨by simp only [lexPre, Bool.and_eq_true]; exact ⟨h.1, this.1⟩, this.2⟩
  have h2 := hpre _ _ _ hB.2
  have hsz : l.toArray.size = l.length := by simp
  rw [hsz] at h2
  refine wp_region_any hm (wpAny_of_E (C := Bl w.drew) (Q := fun a w => Q .normal a w) (fun _ _ h => h) _ _ _ _ ?_)
  have hk := wpAnyE_lex (P := P) (C := Bl w.drew) (md := .any) (fun _ _ h k => h.trans k) (Q := fun a w => Q .normal a w) hB.1 0 w.drew (Bl.refl _) l 0 (Array.replicate l.length false) a (fun j o h => by simpa using h) h2.1 (by
    have hmono : ∀ (Q1 Q2 : Act → Prop), (∀ a, Q1 a → Q2 a) → ∀ (m : List Oper) (a : Act), wpE P l.toArray (Bl w.drew) Q1 m a → wpE P l.toArray (Bl w.drew) Q2 m a := by
      intro Q1 Q2 hq m
      induction m with
      | nil => exact fun a h => hq a h
      | cons o m ih =>
        intro a h
        unfold wpE at h ⊢
        split at h
        · rename_i hw
          obtain ⟨v, h1, h2⟩ := h
          rw [if_pos hw]; exact ⟨v, h1, ih _ h2⟩
        · rename_i hw
          rw [if_neg hw]; exact ih _ h
    exact hmono _ _ (fun a ha => ⟨h2.2, fun w' hb => ha ⟨w', hb⟩⟩) l a h)
  rw [Nat.add_zero] at hk
  simpa using hk

/-- the operations that are left, one of them at a time -/
theorem wpAnyE_all {Q : Act → World → Prop} {rs : List Nat} {fuel : Nat} {listed : Array Bool} {a : Act} {w : World} (hr : Region.ready md ops listed = rs) (hne : rs ≠ [])
    (h : ∀ i ∈ rs, ∀ w', Bl w w' → eOp P ops i (fun a'' w'' => C w'' ∧ wpAnyE P md ops C Q fuel (listed.setIfInBounds i true) a'' w'') a w') : wpAnyE P md ops C Q (fuel + 1) listed a w :=
  ⟨fun h0 => absurd (hr.symm.trans h0) hne, fun i hi => h i (hr ▸ hi)⟩
theorem wpAnyE_one {Q : Act → World → Prop} {i fuel : Nat} {listed : Array Bool} {a : Act} {w : World} (hr : Region.ready md ops listed = [i])
    (h : ∀ w', Bl w w' → eOp P ops i (fun a'' w'' => C w'' ∧ wpAnyE P md ops C Q fuel (listed.setIfInBounds i true) a'' w'') a w') : wpAnyE P md ops C Q (fuel + 1) listed a w :=
  wpAnyE_all hr (by simp) fun j hj => by
    rw [List.mem_singleton] at hj; subst hj; exact h
theorem wpAnyE_done {Q : Act → World → Prop} {fuel : Nat} {listed : Array Bool} {a : Act} {w : World} (hr : Region.ready md ops listed = []) (h : ∀ w', Bl w w' → Q a w') : wpAnyE P md ops C Q fuel listed a w := by
  cases fuel with
  | zero => exact ⟨hr, h⟩
  | succ fuel => exact ⟨fun _ => h, fun i hi => by rw [hr] at hi; cases hi⟩
end
end Go.Proofs.YtfjjnffifnohkaaGreat

namespace Go.Proofs.YtfjjnffifnohkaaGreat
open Go.RowKit

section
variable {P : Program} {ops : Array Oper} {md : Region.Mode} {C : World → Prop}

/-- may these operations be taken first, one behind the other? -/
def preB (md : Region.Mode) (ops : Array Oper) : List Nat → Array Bool → Bool
  | [], _ => true
  | i :: is, listed => (Region.ready md ops listed).contains i && Region.free md ops listed i && preB md ops is (listed.setIfInBounds i true)
def setAll : List Nat → Array Bool → Array Bool
  | [], listed => listed
  | i :: is, listed => setAll is (listed.setIfInBounds i true)
def wpI (P : Program) (ops : Array Oper) (C : World → Prop) (Q : Act → Prop) : List Nat → Act → Prop
  | [], a => Q a
  | i :: is, a => ∃ o, ops[i]? = some o ∧ if Region.wanted o (yielded ops a.tmps) then ∃ v, (∀ n : ExtC C, o.quietAt P a (fun w'' => Bl n.at w'') n.at v) ∧ wpI P ops C Q is (a.put o.dst v) else wpI P ops C Q is (a.put o.dst undef)
theorem wpI_nil {Q : Act → Prop} {a : Act} (h : Q a) : wpI P ops C Q [] a := h
theorem wpI_step {Q : Act → Prop} {a : Act} {i : Nat} {is : List Nat} {o : Oper} (ho : ops[i]? = some o)
    (h : ∀ K : Act → Prop, (∀ a, wpI P ops C Q is a → K a) → if Region.wanted o (yielded ops a.tmps) then ∃ v, (∀ n : ExtC C, o.quietAt P a (fun w'' => Bl n.at w'') n.at v) ∧ K (a.put o.dst v) else K (a.put o.dst undef)) : wpI P ops C Q (i :: is) a :=
  ⟨o, ho, h _ (fun _ h => h)⟩
theorem wpAnyE_idx (hcl : ∀ w w', C w → Bl w w' → C w') {Q : Act → World → Prop} (hs : Region.noSelect ops = true) (m : Nat) (w : World) (hw : C w) : ∀ (is : List Nat) (listed : Array Bool) (a : Act),
    preB md ops is listed = true → wpI P ops C (fun a' => wpAnyE P md ops C Q m (setAll is listed) a' w) is a → wpAnyE P md ops C Q (is.length + m) listed a w
  | [], _, _, _, h => by rw [List.length_nil, Nat.zero_add]; exact h
  | i :: is, listed, a, hB, h => by
    simp only [preB, Bool.and_eq_true] at hB
    obtain ⟨⟨hr, hf⟩, hB'⟩ := hB
    obtain ⟨o, h0, h⟩ := h
    rw [List.length_cons, show is.length + 1 + m = (is.length + m) + 1 by omega]
    have key : ∀ v, YE P ops C o v a → wpI P ops C (fun a' => wpAnyE P md ops C Q m (setAll (i :: is) listed) a' w) is (a.put o.dst v) → wpAnyE P md ops C Q (is.length + m + 1) listed a w := fun v hy hK =>
      wpAnyE_first hcl h0 (Region.noSelect_spec hs) (is.length + m) listed a w hw (Region.free_spec h0 hf) (by simpa using hr) hy
        (wpAnyE_idx hcl hs m w hw is _ _ hB' hK)
    split at h
    · rename_i hw
      obtain ⟨v, hv, hK⟩ := h
      exact key v (.inl ⟨hw, fun w hb => hv ⟨w, hb⟩⟩) hK
    · rename_i hw
      exact key undef (.inr ⟨by simpa using hw, rfl⟩) h
/-- a region of which the named operations only tell or call and may be taken first -/
theorem wp_region_idx {id : Nat} {Q : Exit → Act → World → Prop} {a : Act} {w : World} {l : List Oper} (is : List Nat) (m : Nat) (C : World → Prop) (hcl : ∀ w w', C w → Bl w w' → C w') (hw : C w.drew) (hm : P.follows .mixedOrders = true) (hn : l.length = is.length + m)
    (hs : Region.noSelect l.toArray = true) (hB : preB .any l.toArray is (Array.replicate l.length false) = true)
    (h : wpI P l.toArray C (fun a' => wpAnyE P .any l.toArray C (fun a w => Q .normal a w) m (setAll is (Array.replicate l.length false)) a' w.drew) is a) :
    (Code.region id l.toArray true).wp P Q a w := by
  refine wp_region_any hm (wpAny_of_E (C := C) (Q := fun a w => Q .normal a w) (fun _ _ h => h) _ _ _ _ ?_)
  have hk := wpAnyE_idx (md := .any) hcl (Q := fun a w => Q .normal a w) hs m w.drew hw is (Array.replicate l.length false) a hB h
  have e : is.length + m = l.toArray.size := by simp; omega
  rw [e] at hk
  simpa using hk
end
/-! a narrower class of worlds from here on -/
section
variable {P : Program} {ops : Array Oper} {md : Region.Mode}
end

/-! the walk of all operations, shut: nothing of it is laid open but one operation at a time (where a guard is not met the open form would be reckoned to its end) -/
section
variable {P : Program} {ops : Array Oper} {C : World → Prop}
structure wpS (P : Program) (ops : Array Oper) (C : World → Prop) (Q : Act → Prop) (l : List Oper) (a : Act) : Prop where
  out : wpE P ops C Q l a
theorem wpS_nil {Q : Act → Prop} {a : Act} (h : Q a) : wpS P ops C Q [] a := ⟨h⟩
theorem wpS_step {Q : Act → Prop} {a : Act} {o : Oper} {rest : List Oper}
    (h : ∀ K : Act → Prop, (∀ a, wpS P ops C Q rest a → K a) → if Region.wanted o (yielded ops a.tmps) then ∃ v, (∀ n : ExtC C, o.quietAt P a (fun w'' => Bl n.at w'') n.at v) ∧ K (a.put o.dst v) else K (a.put o.dst undef)) : wpS P ops C Q (o :: rest) a :=
  ⟨wpE_step fun K hK => h K fun a k => hK a k.out⟩
theorem wp_region_allS {id : Nat} {Q : Exit → Act → World → Prop} {a : Act} {w : World} {l : List Oper} (hm : P.follows .mixedOrders = true) (hB : Region.lexB .any l.toArray = true)
    (h : wpS P l.toArray (Bl w.drew) (fun a' => ∀ n : Ext w.drew, Q .normal a' n.at) l a) : (Code.region id l.toArray true).wp P Q a w :=
  wp_region_extall hm hB h.out
end
end Go.Proofs.YtfjjnffifnohkaaGreat
end

/- versions and their order: cmp.Or, slices.Compare, slices.Max, ikey.Time. By an AI agent. -/
section
namespace Go.Proofs.YtfjjnffifnohkaaGreat
open Go.RowKit

/-- the first that is not nought -/
def orL : List Int → Int
  | [] => 0
  | x :: xs => if x = 0 then orL xs else x
/-- lists in order, number by number -/
def cmpV : List Int → List Int → Int
  | [], [] => 0
  | [], _ :: _ => -1
  | _ :: _, [] => 1
  | x :: xs, y :: ys => if Lib.compareInt x y = 0 then cmpV xs ys else Lib.compareInt x y
/-- the greatest -/
def maxL : List Int → Int
  | [] => 0
  | x :: xs => xs.foldl max x
structure VerL where
  key : ByteArray
  at_ : List Int
  origin : Int
  tx : Int
  act : ActL
def timeL (v : VerL) : Int :=
  if v.origin = 254 ∧ 0 < v.at_.length then maxL v.at_
  else if 0 ≤ v.origin ∧ v.origin < (v.at_.length : Int) then nth v.at_ v.origin.toNat
  else 0
def orderL (a b : VerL) : Int :=
  orL [Lib.compareInt (timeL b) (timeL a), Lib.compareInt b.origin a.origin, Lib.compareInt b.tx a.tx, Lib.compareInt (a.at_.length : Int) (b.at_.length : Int), cmpV a.at_ b.at_]

theorem drop_cons {xs : List Int} {k : Nat} (h : k < xs.length) : xs.drop k = nth xs k :: xs.drop (k + 1) := by
  rw [nth_eq h]; exact List.drop_eq_getElem_cons h
theorem or_any (g n : Nat) (xs : List Int) (w : World) (hn : xs.length = n) (hn2 : n ≤ 1000) (hc : ∀ j, j < n → w.cell? ⟨g, j, none⟩ = some (.int .i64 (nth xs j))) :
    Calls Tryz.prog 115 #[.slice (some ⟨g, 0, none⟩) n n] w fun e w' => e = .returned (.int .i64 (orL xs)) ∧ w = w' := by
  have HN := Lib.hid hn
  go_enter Tryz.func115, Tryz.ntmps115
  go_wp2_with fail
  go_loop [8] (fun i => ∃ k : Nat, k ≤ n ∧ i = .int .i64 k ∧ orL xs = orL (xs.drop k)) (fun i => n - (intOf i).toNat)
  case atStart => exact ⟨0, Nat.zero_le _, rfl, rfl⟩
  case round =>
    obtain ⟨k, hk, rfl, ho⟩ := hrel
    by_cases hlt : k < n
    · have hck := hc k hlt
      have hd := drop_cons (xs := xs) (k := k) (by rw [HN.out]; exact hlt)
      rw [hd] at ho
      have HO := Lib.hid ho
      clear ho hd
      by_cases h0 : nth xs k = 0
      · have q : (nth xs k != 0) = false := by simp [h0]
        have H0 := Lib.hid h0
        clear h0
        go_wp2_with fail
        go_round
        case rel => exact ⟨k + 1, by omega, by go_num, by rw [HO.out]; show (if nth xs k = 0 then _ else _) = _; rw [if_pos H0.out]⟩
        case measure => simp [intOf]; omega
      · have q : (nth xs k != 0) = true := by simp [h0]
        have H0 := Lib.hid h0
        clear h0
        go_wp2_with fail
        go_ret
        exact ⟨ret_int (by rw [HO.out]; show _ = (if nth xs k = 0 then _ else _); rw [if_neg H0.out]), rfl⟩
    · have hE : xs.drop k = [] := List.drop_eq_nil_of_le (by omega)
      rw [hE] at ho
      have HO := Lib.hid ho
      clear ho hE
      go_wp2_with fail
      go_ret
      exact ⟨ret_int (by rw [HO.out]; rfl), rfl⟩

theorem IA.at_k {w : World} {a : Option Addr} {n : Nat} {xs : List Int} (h : IA w a n xs) (k : Nat) (hk : k < n) : ∃ b off, a = some ⟨b, off, none⟩ ∧ w.cell? ⟨b, off + k, none⟩ = some (.int .i64 (nth xs k)) := by
  obtain ⟨b, off, e, hc⟩ := h.cells k hk
  exact ⟨b, off, e, hc k hk⟩
theorem compare_zero {x y : Int} : Lib.compareInt x y = 0 ↔ x = y := by
  unfold Lib.compareInt
  split
  · constructor <;> intro h <;> omega
  · split
    · constructor <;> intro h <;> omega
    · constructor <;> intro h <;> omega
set_option maxHeartbeats 800000 in
theorem cmpV_any (a b : Option Addr) (n m ca cb : Nat) (xs ys : List Int) (w : World) (hx : IA w a n xs) (hy : IA w b m ys) :
    Calls Tryz.prog 118 #[.slice a n ca, .slice b m cb] w fun e w' => e = .returned (.int .i64 (cmpV xs ys)) ∧ w = w' := by
  have HX := Lib.hid hx.len
  have HY := Lib.hid hy.len
  have hnb := hx.cap
  have hmb := hy.cap
  go_enter Tryz.func118, Tryz.ntmps118
  go_wp2_with fail
  go_loop [11] (fun i => ∃ k : Nat, k ≤ n ∧ k ≤ m ∧ i = .int .i64 k ∧ cmpV xs ys = cmpV (xs.drop k) (ys.drop k)) (fun i => n - (intOf i).toNat)
  case atStart => exact ⟨0, Nat.zero_le _, Nat.zero_le _, rfl, rfl⟩
  case round =>
    obtain ⟨k, hk, hk2, rfl, ho⟩ := hrel
    by_cases hlt : k < n
    · obtain ⟨ba, oa, rfl, hca⟩ := hx.at_k k hlt
      have hd := drop_cons (xs := xs) (k := k) (by rw [HX.out]; exact hlt)
      by_cases hlt2 : k < m
      · obtain ⟨bb, ob, rfl, hcb⟩ := hy.at_k k hlt2
        have hd2 := drop_cons (xs := ys) (k := k) (by rw [HY.out]; exact hlt2)
        rw [hd, hd2] at ho
        have HO := Lib.hid ho
        clear ho hd hd2
        go_wp2_with fail
        refine (Tryz.cmp_Compare_int _ _ _).mono ?_
        rintro e w' ⟨rfl, rfl⟩
        by_cases h0 : Lib.compareInt (nth xs k) (nth ys k) = 0
        · rw [h0]
          have H0 := Lib.hid h0
          clear h0
          go_wp2_with fail
          go_round
          case rel => exact ⟨k + 1, by omega, by omega, by go_num, by rw [HO.out]; show (if Lib.compareInt _ _ = 0 then _ else _) = _; rw [if_pos H0.out]⟩
          case measure => simp [intOf]; omega
        · have H1 : Hid (cmpV xs ys = Lib.compareInt (nth xs k) (nth ys k)) := Lib.hid (by rw [HO.out]; show (if Lib.compareInt _ _ = 0 then _ else _) = _; rw [if_neg h0])
          have q : (Lib.compareInt (nth xs k) (nth ys k) != 0) = true := by simp [h0]
          clear HO
          generalize Lib.compareInt (nth xs k) (nth ys k) = c at *
          clear h0
          go_wp2_with fail
          go_ret
          exact ⟨ret_int H1.out.symm, rfl⟩
      · have hE : ys.drop k = [] := List.drop_eq_nil_of_le (by have := HY.out; omega)
        rw [hd, hE] at ho
        have HO := Lib.hid ho
        clear ho hE hd
        go_wp2_with fail
        go_ret
        exact ⟨ret_int (by rw [HO.out]; rfl), rfl⟩
    · have hE : xs.drop k = [] := List.drop_eq_nil_of_le (by have := HX.out; omega)
      rw [hE] at ho
      by_cases hnm : n < m
      · have hd2 := drop_cons (xs := ys) (k := k) (by have := HY.out; omega)
        rw [hd2] at ho
        have HO := Lib.hid ho
        clear ho hE hd2
        go_wp2_with fail
        go_ret
        exact ⟨ret_int (by rw [HO.out]; rfl), rfl⟩
      · have hE2 : ys.drop k = [] := List.drop_eq_nil_of_le (by have := HY.out; omega)
        rw [hE2] at ho
        have HO := Lib.hid ho
        clear ho hE hE2
        go_wp2_with fail
        go_ret
        exact ⟨ret_int (by rw [HO.out]; rfl), rfl⟩
theorem maxL_take {xs : List Int} {k : Nat} (h1 : 1 ≤ k) (h : k < xs.length) : maxL (xs.take (k + 1)) = max (maxL (xs.take k)) (nth xs k) := by
  cases xs with
  | nil => simp at h
  | cons x xs =>
    obtain ⟨j, rfl⟩ : ∃ j, k = j + 1 := ⟨k - 1, by omega⟩
    simp only [List.take_succ_cons, maxL]
    have hj : j < xs.length := by simpa using h
    rw [List.take_succ_eq_append_getElem hj, List.foldl_append]
    simp [nth, List.getD, hj]
set_option maxHeartbeats 800000 in
theorem maxV_any (a : Option Addr) (n ca : Nat) (xs : List Int) (w : World) (hx : IA w a n xs) (h0 : 0 < n) :
    Calls Tryz.prog 194 #[.slice a n ca] w fun e w' => e = .returned (.int .i64 (maxL xs)) ∧ w = w' := by
  have HX := Lib.hid hx.len
  have hnb := hx.cap
  obtain ⟨ba, oa, rfl, hc0⟩ := hx.at_k 0 h0
  have hn1 : ¬ ((n : Int) < 1) := by omega
  have hn2 : (0 : Int) < (n : Int) := by omega
  have hc1 : w.cell? ⟨ba, oa, none⟩ = some (.int .i64 (nth xs 0)) := hc0
  go_enter Tryz.func194, Tryz.ntmps194
  go_wp2_with fail
  go_loop [3, 4] (fun v i => ∃ k : Nat, 1 ≤ k ∧ k ≤ n ∧ i = .int .i64 k ∧ v = .int .i64 (maxL (xs.take k))) (fun _ i => n - (intOf i).toNat)
  case atStart =>
    refine ⟨1, Nat.le_refl _, h0, rfl, ?_⟩
    have hl := HX.out
    cases xs with
    | nil => simp at hl; omega
    | cons x xs => rfl
  case round =>
    clear hc0 hc1
    obtain ⟨k, h1, hk, rfl, rfl⟩ := hrel
    by_cases hlt : k < n
    · obtain ⟨b2, o2, e2, hck⟩ := hx.at_k k hlt
      simp only [Option.some.injEq, Addr.mk.injEq] at e2
      obtain ⟨rfl, rfl, _⟩ := e2
      have HM := Lib.hid (maxL_take h1 (xs := xs) (k := k) (by rw [HX.out]; exact hlt))
      go_wp2_with fail
      go_round
      case rel => exact ⟨k + 1, by omega, by omega, by go_num, by rw [HM.out]⟩
      case measure => simp [intOf]; omega
    · have HE : Hid (xs.take k = xs) := Lib.hid (List.take_of_length_le (by have := HX.out; omega))
      go_wp2_with fail
      go_ret
      exact ⟨ret_int (by rw [HE.out]), rfl⟩
end Go.Proofs.YtfjjnffifnohkaaGreat
end

/- ikey.Time, ikey.Order. By an AI agent. -/
section
namespace Go.Proofs.YtfjjnffifnohkaaGreat
open Go.RowKit
attribute [local go_sem] eOp eOper eUpon

/-- a version's eight cells -/
def verC (key : ByteArray) (a : Option Addr) (n ca : Nat) (o t : Int) (k : Int) (x : Nat) (m : Int) (s : ByteArray) : List Value :=
  [.string key, .slice a n ca, .int .i64 o, .int .i64 t, .int .i64 k, .float .f64 x, .int .i64 m, .string s]
theorem AC.ver {W : World} {g : Nat} {key : ByteArray} {a : Option Addr} {n ca : Nat} {o t : Int} {k : Int} {x : Nat} {m : Int} {s : ByteArray} (h : AC W g (verC key a n ca o t k x m s)) :
    W.cell? ⟨g, 0, none⟩ = some (.string key) ∧ W.cell? ⟨g, 1, none⟩ = some (.slice a n ca) ∧ W.cell? ⟨g, 2, none⟩ = some (.int .i64 o) ∧ W.cell? ⟨g, 3, none⟩ = some (.int .i64 t) ∧
    W.cell? ⟨g, 4, none⟩ = some (.int .i64 k) ∧ W.cell? ⟨g, 5, none⟩ = some (.float .f64 x) ∧ W.cell? ⟨g, 6, none⟩ = some (.int .i64 m) ∧ W.cell? ⟨g, 7, none⟩ = some (.string s) :=
  ⟨h.cell 0 _ rfl, h.cell 1 _ rfl, h.cell 2 _ rfl, h.cell 3 _ rfl, h.cell 4 _ rfl, h.cell 5 _ rfl, h.cell 6 _ rfl, h.cell 7 _ rfl⟩

set_option maxHeartbeats 1600000 in
set_option maxRecDepth 100000 in
theorem time_any (key : ByteArray) (a : Option Addr) (n ca : Nat) (xs : List Int) (o t : Int) (k : Int) (x : Nat) (m : Int) (s : ByteArray) (T : Int) (w : World) (hx : IA w a n xs)
    (HT : Hid (timeL ⟨key, xs, o, t, ⟨k, x, m, s⟩⟩ = T)) :
    Calls Tryz.prog 186 #[.agg #[.string key, .slice a n ca, .int .i64 o, .int .i64 t, .int .i64 k, .float .f64 x, .int .i64 m, .string s]] w fun e w' => e = .returned (.int .i64 T) ∧ Bl w w' := by
  have HX := Lib.hid hx.len
  have hbl := (Bl.refl w).alloc (.cells #[.string key, .slice a n ca, .int .i64 o, .int .i64 t, .int .i64 k, .float .f64 x, .int .i64 m, .string s] 59)
  have hE : (if o = 254 ∧ 0 < n then maxL xs else if 0 ≤ o ∧ o < (n : Int) then nth xs o.toNat else 0) = T := by
    have := HT.out
    unfold timeL at this
    simp only [HX.out] at this
    exact this
  by_cases h1 : o = 254 ∧ 0 < n
  · rw [if_pos h1] at hE
    subst hE
    obtain ⟨rfl, h0⟩ := h1
    have h0' : (0 : Int) < (n : Int) := by omega
    clear HT
    go_enter Tryz.func186, Tryz.ntmps186
    go_wp2_with fail
    refine (maxV_any a n ca xs _ (hx.keep hbl) h0).mono ?_
    rintro e w' ⟨rfl, rfl⟩
    go_wp2_with fail
    go_ret
    exact ⟨rfl, hbl⟩
  · rw [if_neg h1] at hE
    by_cases h2 : 0 ≤ o ∧ o < (n : Int)
    · rw [if_pos h2] at hE
      subst hE
      obtain ⟨j, rfl⟩ : ∃ j : Nat, o = j := ⟨o.toNat, by omega⟩
      have hj : j < n := by omega
      obtain ⟨ba, oa, rfl, hcj⟩ := (hx.keep hbl).at_k j hj
      have q : ((j : Int) == 254) = false := by
        rw [beq_eq_false_iff_ne]
        intro h
        exact h1 ⟨h, by omega⟩
      have h3 : (j : Int) < (n : Int) := by omega
      clear HT h1 h2
      go_enter Tryz.func186, Tryz.ntmps186
      go_wp2_with fail
      go_ret
      exact ⟨by rw [Int.toNat_natCast]; rfl, hbl⟩
    · rw [if_neg h2] at hE
      subst hE
      clear HT HX
      by_cases h3 : o = 254
      · subst h3
        obtain rfl : n = 0 := by omega
        go_enter Tryz.func186, Tryz.ntmps186
        go_wp2_with fail
        go_ret
        exact ⟨rfl, hbl⟩
      · have q : (o == 254) = false := by rw [beq_eq_false_iff_ne]; exact h3
        by_cases h4 : 0 ≤ o
        · have h5 : ¬ (o < (n : Int)) := fun h => h2 ⟨h4, h⟩
          clear h1 h2 h3
          go_enter Tryz.func186, Tryz.ntmps186
          go_wp2_with fail
          go_ret
          exact ⟨rfl, hbl⟩
        · clear h1 h2 h3
          go_enter Tryz.func186, Tryz.ntmps186
          go_wp2_with fail
          go_ret
          exact ⟨rfl, hbl⟩

/-- the two boxes of ikey.Order -/
structure O2 (w W : World) (c d : List Value) : Prop where
  bl : Bl w W
  a : AC W w.heap.size c
  b : AC W (w.heap.size + 1) d
theorem O2.keep {w W W' : World} {c d : List Value} (h : O2 w W c d) (k : Bl W W') : O2 w W' c d := ⟨h.bl.trans k, h.a.keep k, h.b.keep k⟩
theorem O2.new (w : World) (c d : List Value) (T U : TypeId) : O2 w ((w.alloc (.cells c.toArray T)).alloc (.cells d.toArray U)) c d :=
  ⟨((Bl.refl w).alloc _).alloc _, (AC.new w _ rfl c T).keep ((Bl.refl _).alloc _), AC.new (w.alloc (.cells c.toArray T)) (w.heap.size + 1) (by simp) d U⟩
theorem cmpI_any (x y r : Int) (w : World) (h : Hid (Lib.compareInt x y = r)) : Calls Tryz.prog 116 #[.int .i64 x, .int .i64 y] w fun e w' => e = .returned (.int .i64 r) ∧ Bl w w' := by
  refine (Tryz.cmp_Compare_int x y w).mono ?_
  rintro e w' ⟨rfl, rfl⟩
  rw [h.out]
  exact ⟨rfl, Bl.refl _⟩
set_option maxHeartbeats 3200000 in
set_option maxRecDepth 100000 in
theorem order_any (key : ByteArray) (a : Option Addr) (n ca : Nat) (xs : List Int) (o t : Int) (k : Int) (x : Nat) (m : Int) (s : ByteArray)
    (key2 : ByteArray) (a2 : Option Addr) (n2 ca2 : Nat) (ys : List Int) (o2 t2 : Int) (k2 : Int) (x2 : Nat) (m2 : Int) (s2 : ByteArray) (T1 T2 c1 c2 c3 c4 c5 R : Int) (w : World) (hx : IA w a n xs) (hy : IA w a2 n2 ys)
    (H1 : Hid (timeL ⟨key, xs, o, t, ⟨k, x, m, s⟩⟩ = T1)) (H2 : Hid (timeL ⟨key2, ys, o2, t2, ⟨k2, x2, m2, s2⟩⟩ = T2))
    (C1 : Hid (Lib.compareInt T2 T1 = c1)) (C2 : Hid (Lib.compareInt o2 o = c2)) (C3 : Hid (Lib.compareInt t2 t = c3)) (C4 : Hid (Lib.compareInt (n : Int) (n2 : Int) = c4)) (C5 : Hid (cmpV xs ys = c5)) (HR : Hid (orL [c1, c2, c3, c4, c5] = R)) :
    Calls Tryz.prog 138 #[.agg #[.string key, .slice a n ca, .int .i64 o, .int .i64 t, .int .i64 k, .float .f64 x, .int .i64 m, .string s], .agg #[.string key2, .slice a2 n2 ca2, .int .i64 o2, .int .i64 t2, .int .i64 k2, .float .f64 x2, .int .i64 m2, .string s2]] w fun e w' => e = .returned (.int .i64 R) ∧ Bl w w' := by
  have G := O2.new w (verC key a n ca o t k x m s) (verC key2 a2 n2 ca2 o2 t2 k2 x2 m2 s2) 59 59
  unfold verC at G
  go_enter Tryz.func138, Tryz.ntmps138
  go_wp2_with fail
  generalize (w.alloc (.cells #[.string key, .slice a n ca, .int .i64 o, .int .i64 t, .int .i64 k, .float .f64 x, .int .i64 m, .string s] 59)).alloc (.cells #[.string key2, .slice a2 n2 ca2, .int .i64 o2, .int .i64 t2, .int .i64 k2, .float .f64 x2, .int .i64 m2, .string s2] 59) = W0 at *
  refine wp_region_ext 27 3 (by kernel_rfl) rfl (by kernel_rfl) (by kernel_rfl) ?_
  have G := G.keep ((Bl.refl W0).drew)
  generalize W0.drew = W at *
  have a0 : ∀ n : Ext W, _ := fun n => (G.keep n.bl).a.cell 0 _ rfl
  have a1 : ∀ n : Ext W, _ := fun n => (G.keep n.bl).a.cell 1 _ rfl
  have a2' : ∀ n : Ext W, _ := fun n => (G.keep n.bl).a.cell 2 _ rfl
  have a3 : ∀ n : Ext W, _ := fun n => (G.keep n.bl).a.cell 3 _ rfl
  have a4 : ∀ n : Ext W, _ := fun n => (G.keep n.bl).a.cell 4 _ rfl
  have a5 : ∀ n : Ext W, _ := fun n => (G.keep n.bl).a.cell 5 _ rfl
  have a6 : ∀ n : Ext W, _ := fun n => (G.keep n.bl).a.cell 6 _ rfl
  have a7 : ∀ n : Ext W, _ := fun n => (G.keep n.bl).a.cell 7 _ rfl
  have b0 : ∀ n : Ext W, _ := fun n => (G.keep n.bl).b.cell 0 _ rfl
  have b1 : ∀ n : Ext W, _ := fun n => (G.keep n.bl).b.cell 1 _ rfl
  have b2 : ∀ n : Ext W, _ := fun n => (G.keep n.bl).b.cell 2 _ rfl
  have b3 : ∀ n : Ext W, _ := fun n => (G.keep n.bl).b.cell 3 _ rfl
  have b4 : ∀ n : Ext W, _ := fun n => (G.keep n.bl).b.cell 4 _ rfl
  have b5 : ∀ n : Ext W, _ := fun n => (G.keep n.bl).b.cell 5 _ rfl
  have b6 : ∀ n : Ext W, _ := fun n => (G.keep n.bl).b.cell 6 _ rfl
  have b7 : ∀ n : Ext W, _ := fun n => (G.keep n.bl).b.cell 7 _ rfl
  have hX : ∀ n' : Ext W, IA n'.at a n xs := fun n' => hx.keep (G.bl.trans n'.bl)
  have hY : ∀ n' : Ext W, IA n'.at a2 n2 ys := fun n' => hy.keep (G.bl.trans n'.bl)
  have HXY := Lib.hid (And.intro hX hY)
  clear hX hY
  have hcv : ∀ n' : Ext W, Calls Tryz.prog 118 #[.slice a n ca, .slice a2 n2 ca2] n'.at fun e w' => e = .returned (.int .i64 c5) ∧ Bl n'.at w' := fun n' => by
    refine (cmpV_any a a2 n n2 ca ca2 xs ys _ (HXY.out.1 n') (HXY.out.2 n')).mono ?_
    rintro e w' ⟨rfl, rfl⟩
    rw [C5.out]
    exact ⟨rfl, Bl.refl _⟩
  have HCV := Lib.hid hcv
  clear hcv
  simp only [List.take_succ_cons, List.take_zero]
  repeat (refine wpE_step (fun K hK => ?_); go_simp; first | (refine hK _ ?_; clear hK K) | (apply Exists.intro; refine ⟨fun n => ?_, hK _ ?_⟩; (first | exact time_any _ _ _ _ _ _ _ _ _ _ _ _ _ (HXY.out.1 n) H1 | exact time_any _ _ _ _ _ _ _ _ _ _ _ _ _ (HXY.out.2 n) H2 | exact cmpI_any _ _ _ _ C1 | exact cmpI_any _ _ _ _ C2 | exact cmpI_any _ _ _ _ C3 | exact cmpI_any _ _ _ _ C4 | exact HCV.out n); clear hK K))
  refine wpE_nil ?_
  clear a0 a1 a2' a3 a4 a5 a6 a7 b0 b1 b2 b3 b4 b5 b6 b7
  refine wpAnyE_one (i := 27) (by kernel_rfl) ?_
  intro W1 hb1
  go_simp
  have cg := AC.new W1 W1.heap.size rfl [.int .i64 c1, .int .i64 c2, .int .i64 c3, .int .i64 c4, .int .i64 c5] 3
  replace hb1 := hb1.alloc (.cells #[.int .i64 c1, .int .i64 c2, .int .i64 c3, .int .i64 c4, .int .i64 c5] 3)
  refine ⟨hb1, ?_⟩
  generalize W1.alloc (.cells #[.int .i64 c1, .int .i64 c2, .int .i64 c3, .int .i64 c4, .int .i64 c5] 3) = W2 at *
  generalize W1.heap.size = g at *
  refine wpAnyE_one (i := 28) (by kernel_rfl) ?_
  intro W3 hb3
  replace cg := cg.keep hb3
  replace hb1 := hb1.trans hb3
  go_simp
  refine (or_any g 5 [c1, c2, c3, c4, c5] _ rfl (by decide) ?_).mono ?_
  · intro j hj
    match j, hj with
    | 0, _ => exact cg.cell 0 _ rfl
    | 1, _ => exact cg.cell 1 _ rfl
    | 2, _ => exact cg.cell 2 _ rfl
    | 3, _ => exact cg.cell 3 _ rfl
    | 4, _ => exact cg.cell 4 _ rfl
  rintro e w' ⟨rfl, rfl⟩
  rw [HR.out]
  refine ⟨_, rfl, hb1, ?_⟩
  refine wpAnyE_one (i := 29) (by kernel_rfl) ?_
  intro W4 hb4
  replace hb1 := hb1.trans hb4
  go_simp
  refine ⟨by kernel_rfl, ?_⟩
  intro W5 hb5
  have hbn := G.bl.trans (hb1.trans hb5)
  go_wp2_with fail
  go_ret
  exact ⟨rfl, hbn⟩
end Go.Proofs.YtfjjnffifnohkaaGreat
end

/- A version in its box; the greatest of a list. By an AI agent. -/
section
namespace Go.Proofs.YtfjjnffifnohkaaGreat
open Go.RowKit

/-- has one a greater stamp? -/
def LaterP (x o t x' o' t' : Int) : Prop := x > x' ∨ (x = x' ∧ (o > o' ∨ (o = o' ∧ t > t')))
instance (x o t x' o' t' : Int) : Decidable (LaterP x o t x' o' t') := by unfold LaterP; infer_instance
theorem ver_box (w : World) (key : ByteArray) (a : Option Addr) (n ca : Nat) (o t k : Int) (x : Nat) (m : Int) (s : ByteArray) :
    AC (w.alloc (.cells #[.string key, .slice a n ca, .int .i64 o, .int .i64 t, .int .i64 k, .float .f64 x, .int .i64 m, .string s] 59)) w.heap.size (verC key a n ca o t k x m s) :=
  AC.new w _ rfl (verC key a n ca o t k x m s) _

end Go.Proofs.YtfjjnffifnohkaaGreat
end

/- parts of other texts. By an AI agent. -/
section
set_option linter.unusedVariables false
set_option linter.unusedSimpArgs false
namespace Go.Proofs.YtfjjnffifnohkaaGreat
open Go.RowKit

/-- the two versions' boxes -/
structure GO2 (w W : World) (c1 c2 : List Value) : Prop where
  bl : Bl w W
  a : AC W w.heap.size c1
  b : AC W (w.heap.size + 1) c2
theorem GO2.keep {w W W' : World} {c1 c2 : List Value} (h : GO2 w W c1 c2) (k : Bl W W') : GO2 w W' c1 c2 := ⟨h.bl.trans k, h.a.keep k, h.b.keep k⟩
theorem GO2.new (w : World) (T U : TypeId) (c1 c2 : List Value) : GO2 w ((w.alloc (.cells c1.toArray T)).alloc (.cells c2.toArray U)) c1 c2 :=
  ⟨((Bl.refl w).alloc _).alloc _, (AC.new w _ rfl c1 T).keep ((Bl.refl _).alloc _), AC.new _ (w.heap.size + 1) (by simp) c2 U⟩
theorem key_beq (a b : ByteArray) : (a.toList == b.toList) = decide (a = b) := by
  rw [SB.beq (show SB a a.data.toList from rfl) (show SB b b.data.toList from rfl), decide_eq_decide]
  exact ⟨fun e => ByteArray.ext (Array.toList_inj.1 e), fun e => by rw [e]⟩
end Go.Proofs.YtfjjnffifnohkaaGreat
end
