import Derived.Test.YtaplefelfiefaaaGreatQArchiveTellsUptoP2
import Derived.Test.YtaplefelfiefaaaGreatQArchiveTellsUptoP1
import Derived.Deep.QuietTactic
import Derived.BigQuiet
import Derived.Test.YtaplefelfiefaaaGreatQArchiveTellsUptoP15
import Derived.Test.YtaplefelfiefaaaGreatQArchiveTellsUptoP13

/- Regions that draw their order and hold calls that may panic (Ext2's laws, with what holds at a panic; the class of worlds is asked only while something is left). · append in a drawn region whose calls may panic; worlds that hold a box. By an AI agent. -/
section
set_option linter.unusedVariables false
namespace Go.Proofs.YtaplefelfiefaaaGreat
open Go.RowKit

section
variable {P : Program} {ops : Array Oper} {md : Region.Mode} {C : World → Prop} {R : List PanicEntry → World → Prop} {L : List Nat}

def pUpon (P : Program) (R : List PanicEntry → World → Prop) (o : Oper) (a : Act) (K : Act → World → Prop) : Result Next → Prop
  | .ok (.value u) w' => K (a.put o.dst u) w'
  | .ok .skip w' => K (a.put o.dst undef) w'
  | .ok (.enter f args) w' => Calls P f args w' (fun e w'' => (∃ v, e = .returned v ∧ K (a.put o.dst v) w'') ∨ (∃ c, e = .panicked c ∧ R c w''))
  | _ => False
def pOper (P : Program) (R : List PanicEntry → World → Prop) (o : Oper) (a : Act) (w : World) (K : Act → World → Prop) : Prop := pUpon P R o a K ((execOp a.eval o).run P w)
def pOp (P : Program) (R : List PanicEntry → World → Prop) (ops : Array Oper) (i : Nat) (K : Act → World → Prop) (a : Act) (w : World) : Prop :=
  match ops[i]? with
  | none => K a w
  | some o => if Region.wanted o (yielded ops a.tmps) then pOper P R o a w K else K (a.put o.dst undef) w

theorem pUpon_mono {o : Oper} {a : Act} {K K' : Act → World → Prop} (h : ∀ a w, K a w → K' a w) {r : Result Next} (hh : pUpon P R o a K r) : pUpon P R o a K' r := by
  cases r with
  | ok n w' =>
    cases n <;> simp only [pUpon] at hh ⊢
    case value u => exact h _ _ hh
    case skip => exact h _ _ hh
    case enter f args =>
      refine hh.mono fun e w'' hk => ?_
      rcases hk with ⟨v, he, hk⟩ | hk
      · exact .inl ⟨v, he, h _ _ hk⟩
      · exact .inr hk
  | halt x w' => simp only [pUpon] at hh
theorem pOp_mono {i : Nat} {a : Act} {w : World} {K K' : Act → World → Prop} (h : ∀ a w, K a w → K' a w) (hh : pOp P R ops i K a w) : pOp P R ops i K' a w := by
  unfold pOp at *
  split
  · exact h _ _ (by simpa [*] using hh)
  · rename_i o ho
    simp only [ho] at hh
    split
    · rename_i hw; simp only [hw, if_true] at hh; exact pUpon_mono h hh
    · rename_i hw; simp only [hw] at hh; exact h _ _ hh
theorem put_defers (a : Act) (d : Option Nat) (v : Value) : (a.put d v).defers = a.defers := by cases d <;> rfl
theorem wpOp_of_pOp {i : Nat} {a : Act} {w : World} {K : Act → World → Prop} {Q : Exit → Act → World → Prop} (hR : ∀ c w, R c w → Q (.panic c) a w) (hh : pOp P R ops i K a w) : wpOp P ops Q i (fun a' w' => K a' w' ∧ a'.defers = a.defers) a w := by
  unfold pOp at hh
  unfold wpOp
  split
  · rename_i ho; simp only [ho] at hh; exact ⟨hh, rfl⟩
  · rename_i o ho
    simp only [ho] at hh
    split
    · rename_i hw
      simp only [hw, if_true] at hh
      refine .inl ?_
      unfold pOper at hh
      unfold Oper.wp
      generalize (execOp a.eval o).run P w = r at *
      cases r with
      | ok n w' =>
        cases n <;> simp only [pUpon] at hh <;> simp only [Oper.upon]
        case value u => exact ⟨hh, put_defers _ _ _⟩
        case skip => exact ⟨hh, put_defers _ _ _⟩
        case enter f args =>
          refine hh.mono fun e w'' hk => ?_
          rcases hk with ⟨v, rfl, hk⟩ | ⟨c, rfl, hk⟩
          · exact ⟨hk, put_defers _ _ _⟩
          · exact hR _ _ hk
      | halt x w' => simp only [pUpon] at hh
    · rename_i hw; simp only [hw] at hh; exact ⟨hh, put_defers _ _ _⟩

/-- whatever order is picked from here on, and whatever is laid behind meanwhile -/
def wpAnyP (P : Program) (R : List PanicEntry → World → Prop) (md : Region.Mode) (ops : Array Oper) (C : World → Prop) (L : List Nat) (Q : Act → World → Prop) : Nat → Array Bool → Act → World → Prop
  | 0, listed, a, w => Region.ready md ops listed = [] ∧ ∀ w', Bl w w' → Q a w'
  | fuel + 1, listed, a, w =>
    (Region.ready md ops listed = [] → ∀ w', Bl w w' → Q a w') ∧
    ∀ i ∈ Region.ready md ops listed, ∀ w', Bl w w' → pOp P R ops i (fun a'' w'' => (i ∉ L → C w'') ∧ wpAnyP P R md ops C L Q fuel (listed.setIfInBounds i true) a'' w'') a w'

theorem wpAnyP_ext {Q : Act → World → Prop} : ∀ {fuel : Nat} {listed : Array Bool} {a : Act} {w w' : World}, Bl w w' → wpAnyP P R md ops C L Q fuel listed a w → wpAnyP P R md ops C L Q fuel listed a w'
  | 0, _, _, _, _, hb, h => ⟨h.1, fun w'' h2 => h.2 w'' (hb.trans h2)⟩
  | _ + 1, _, _, _, _, hb, h => ⟨fun h0 w'' h2 => h.1 h0 w'' (hb.trans h2), fun i hi w'' h2 => h.2 i hi w'' (hb.trans h2)⟩
theorem wpAny_of_P {Q : Act → World → Prop} {Q' : Exit → Act → World → Prop} (ds : Act) (hQ : ∀ a w, Q a w → Q' .normal a w) (hR : ∀ c a w, a.defers = ds.defers → R c w → Q' (.panic c) a w) : ∀ (fuel : Nat) (listed : Array Bool) (a : Act) (w : World), a.defers = ds.defers →
    wpAnyP P R md ops C L Q fuel listed a w → wpAny P md ops Q' fuel listed a w
  | 0, _, _, _, _, h => ⟨h.1, hQ _ _ (h.2 _ (Bl.refl _))⟩
  | fuel + 1, _, _, _, hd, h => ⟨fun h0 => hQ _ _ (h.1 h0 _ (Bl.refl _)), fun i hi => wpOp_mono (fun _ _ k => wpAny_of_P ds hQ hR fuel _ _ _ (k.2.trans hd) k.1.2) (wpOp_of_pOp (fun c w k => hR c _ w hd k) (h.2 i hi _ (Bl.refl _)))⟩

theorem YE.pOp {i : Nat} {o : Oper} {v : Value} {a : Act} {w : World} (hi : ops[i]? = some o) (hy : YE P ops C o v a) (hw0 : C w) {K : Act → World → Prop} (h : ∀ w', Bl w w' → K (a.put o.dst v) w') : Go.Proofs.YtaplefelfiefaaaGreat.pOp P R ops i K a w := by
  unfold Go.Proofs.YtaplefelfiefaaaGreat.pOp
  simp only [hi]
  rcases hy with ⟨hw, hv⟩ | ⟨hw, rfl⟩
  · simp only [hw, if_true]
    have h3 := hv w hw0
    unfold Oper.quietAt at h3
    unfold pOper
    generalize (execOp a.eval o).run P w = r at *
    cases r with
    | ok n w' =>
      cases n <;> simp only [Oper.quietUpon] at h3 <;> simp only [pUpon]
      case value u =>
        obtain ⟨e1, e2⟩ := h3
        rw [e1, e2]; exact h _ (Bl.refl _)
      case skip =>
        obtain ⟨e1, e2⟩ := h3
        rw [e1, ← e2]; exact h _ (Bl.refl _)
      case enter f args =>
        obtain ⟨e1, hc⟩ := h3
        rw [e1]
        exact hc.mono fun e w'' ⟨he, hb⟩ => .inl ⟨v, he, h _ hb⟩
    | halt x w' => simp only [Oper.quietUpon] at h3
  · simp only [hw, Bool.false_eq_true, if_false]; exact h _ (Bl.refl _)

theorem pOp_put {j : Nat} {oi oj : Oper} {v : Value} (hj : ops[j]? = some oj) (hap : oi.apart ops oj = true)
    (hsi : ∀ cs b, oi.op ≠ .select cs b) (hsj : ∀ cs b, oj.op ≠ .select cs b) {K : Act → World → Prop} {a : Act} {w : World}
    (hy : YE P ops C oi v a) (h : pOp P R ops j K (a.put oi.dst v) w) :
    pOp P R ops j (fun a' w' => YE P ops C oi v a' ∧ K (a'.put oi.dst v) w') a w := by
  obtain ⟨h1, h2, h3⟩ := Oper.apart_spec hap
  have keep : ∀ (a : Act), YE P ops C oi v a → ∀ u, YE P ops C oi v (a.put oj.dst u) := fun a hy u =>
    hy.of_same (execOp_put oi hsi a oj.dst u h3) (wanted_put oi a oj.dst u h3)
  unfold Go.Proofs.YtaplefelfiefaaaGreat.pOp at *
  simp only [hj] at *
  rw [wanted_put oj a oi.dst v h1] at h
  split
  · rename_i hw
    simp only [hw, if_true] at h
    unfold pOper at *
    rw [execOp_put oj hsj a oi.dst v h1] at h
    generalize (execOp a.eval oj).run P w = r at *
    cases r with
    | ok n w' =>
      cases n <;> simp only [pUpon] at h ⊢
      case value u => exact ⟨keep a hy u, by rw [← Act.put_comm a v u h2]; exact h⟩
      case skip => exact ⟨keep a hy _, by rw [← Act.put_comm a v undef h2]; exact h⟩
      case enter f args =>
        refine h.mono fun e w'' hk => ?_
        rcases hk with ⟨u, he, hk⟩ | hk
        · exact .inl ⟨u, he, keep a hy u, by rw [← Act.put_comm a v u h2]; exact hk⟩
        · exact .inr hk
    | halt x w' => simp only [pUpon] at h
  · rename_i hw
    simp only [hw] at h
    exact ⟨keep a hy _, by rw [← Act.put_comm a v undef h2]; exact h⟩


theorem wpAnyP_one {Q : Act → World → Prop} {i fuel : Nat} {listed : Array Bool} {a : Act} {w : World} (hr : Region.ready md ops listed = [i])
    (h : ∀ w', Bl w w' → pOp P R ops i (fun a'' w'' => (i ∉ L → C w'') ∧ wpAnyP P R md ops C L Q fuel (listed.setIfInBounds i true) a'' w'') a w') : wpAnyP P R md ops C L Q (fuel + 1) listed a w :=
  ⟨fun h0 => (by rw [hr] at h0; cases h0), fun j hj => by
    rw [hr, List.mem_singleton] at hj; subst hj; exact h⟩
theorem wpAnyP_done {Q : Act → World → Prop} {fuel : Nat} {listed : Array Bool} {a : Act} {w : World} (hr : Region.ready md ops listed = []) (h : ∀ w', Bl w w' → Q a w') : wpAnyP P R md ops C L Q fuel listed a w := by
  cases fuel with
  | zero => exact ⟨hr, h⟩
  | succ fuel => exact ⟨fun _ => h, fun i hi => by rw [hr] at hi; cases hi⟩
end
end Go.Proofs.YtaplefelfiefaaaGreat

set_option linter.unusedVariables false
set_option linter.unusedSimpArgs false
namespace Go.Proofs.YtaplefelfiefaaaGreat
open Go.RowKit
attribute [local go_sem] eOp eOper eUpon pOp pOper pUpon

section
variable {P : Program} {ops : Array Oper} {md : Region.Mode} {C : World → Prop} {R : List PanicEntry → World → Prop} {L : List Nat}
/-- does the j-th stand behind the i-th, through whatever others? -/
def behindT (md : Region.Mode) (ops : Array Oper) (i : Nat) : Nat → Nat → Bool
  | 0, _ => false
  | f + 1, j => match ops[j]? with
    | none => false
    | some o => o.after.any fun e => Region.binds md e && (e.on == i || behindT md ops i f e.on)
/-- what is listed has all that it stands behind listed -/
def Clo (md : Region.Mode) (ops : Array Oper) (listed : Array Bool) : Prop := ∀ j o, ops[j]? = some o → listed.getD j false = true → ∀ e ∈ o.after, Region.binds md e = true → listed.getD e.on false = true
theorem Clo.behind {md : Region.Mode} {ops : Array Oper} {listed : Array Bool} {i : Nat} (h : Clo md ops listed) : ∀ f j, listed.getD j false = true → behindT md ops i f j = true → listed.getD i false = true
  | 0, _, _, hb => by cases hb
  | f + 1, j, hj, hb => by
    unfold behindT at hb
    split at hb
    · cases hb
    · rename_i o ho
      obtain ⟨e, he, hb⟩ := Array.any_eq_true'.1 hb
      simp only [Bool.and_eq_true, Bool.or_eq_true, beq_iff_eq] at hb
      have h1 := h j o ho hj e he hb.1
      rcases hb.2 with h2 | h2
      · rw [← h2]; exact h1
      · exact Clo.behind h f e.on h1 h2
theorem ready_behind {md : Region.Mode} {ops : Array Oper} {listed : Array Bool} {i j : Nat} (h : Clo md ops listed) (hj : j ∈ Region.ready md ops listed) {f : Nat} (hb : behindT md ops i f j = true) : listed.getD i false = true := by
  obtain ⟨_, o, ho, hall⟩ := mem_ready.1 hj
  cases f with
  | zero => cases hb
  | succ f =>
    unfold behindT at hb
    rw [ho] at hb
    obtain ⟨e, he, hb⟩ := Array.any_eq_true'.1 hb
    simp only [Bool.and_eq_true, Bool.or_eq_true, beq_iff_eq] at hb
    have h1 := hall e he hb.1
    rcases hb.2 with h2 | h2
    · rw [← h2]; exact h1
    · exact h.behind f e.on h1 h2
theorem Clo.set {md : Region.Mode} {ops : Array Oper} {listed : Array Bool} {j : Nat} (h : Clo md ops listed) (hj : j ∈ Region.ready md ops listed) : Clo md ops (listed.setIfInBounds j true) := by
  intro k o hk hl e he hb
  by_cases hkj : k = j
  · subst hkj
    obtain ⟨_, o', ho', hall⟩ := mem_ready.1 hj
    rw [hk] at ho'
    obtain rfl := Option.some.inj ho'
    exact getD_set_true (hall e he hb)
  · rw [getD_set_ne false (Ne.symm hkj)] at hl
    exact getD_set_true (h k o hk hl e he hb)
theorem Clo.none (md : Region.Mode) (ops : Array Oper) (n : Nat) : Clo md ops (Array.replicate n false) := by
  intro j o _ hl
  exfalso
  rcases Nat.lt_or_ge j n with h | h
  · simp [h] at hl
  · simp [h] at hl
theorem wpAnyP_firstT (hcl : ∀ w w', C w → Bl w w' → C w') {Q : Act → World → Prop} {i : Nat} {oi : Oper} {v : Value} (hi : ops[i]? = some oi) (hsel : ∀ (j : Nat) (o : Oper) cs b, ops[j]? = some o → o.op ≠ .select cs b) :
    (L.all fun j => behindT md ops i ops.size j) = true → ∀ (fuel : Nat) (listed : Array Bool) (a : Act) (w : World), Clo md ops listed → C w →
      (∀ j oj, ops[j]? = some oj → j ≠ i → listed.getD j true = false → (∀ e ∈ oj.after, Region.binds md e = true → e.on ≠ i) → oi.apart ops oj = true) →
      i ∈ Region.ready md ops listed → YE P ops C oi v a →
      wpAnyP P R md ops C L Q fuel (listed.setIfInBounds i true) (a.put oi.dst v) w → wpAnyP P R md ops C L Q (fuel + 1) listed a w := by
  intro hL fuel
  induction fuel with
  | zero =>
    intro listed a w hclo hb _ hr hy H
    refine ⟨fun h => (by rw [h] at hr; cases hr), fun j hj w' hb' => ?_⟩
    by_cases hji : j = i
    · subst hji; exact hy.pOp hi (hcl _ _ hb hb') fun w'' hb'' => ⟨fun _ => hcl _ _ hb (hb'.trans hb''), wpAnyP_ext (hb'.trans hb'') H⟩
    · have := ready_mono hj hji
      rw [H.1] at this
      cases this
  | succ fuel ih =>
    intro listed a w hclo hb hfree hr hy H
    refine ⟨fun h => (by rw [h] at hr; cases hr), fun j hj w' hb' => ?_⟩
    by_cases hji : j = i
    · subst hji; exact hy.pOp hi (hcl _ _ hb hb') fun w'' hb'' => ⟨fun _ => hcl _ _ hb (hb'.trans hb''), wpAnyP_ext (hb'.trans hb'') H⟩
    · have h1 := H.2 j (ready_mono hj hji) w' hb'
      obtain ⟨hjun, oj, hoj, hall⟩ := mem_ready.1 hj
      have hnot : ∀ e ∈ oj.after, Region.binds md e = true → e.on ≠ i := fun e he hb heq => by
        have h1 := hall e he hb
        have h0 := (mem_ready.1 hr).1
        rw [heq] at h1
        rcases Nat.lt_or_ge i listed.size with h' | h'
        · simp [h'] at h0 h1; rw [h0] at h1; cases h1
        · simp [Array.getElem?_eq_none h'] at h1
      have hri : i ∈ Region.ready md ops (listed.setIfInBounds j true) := ready_mono hr (Ne.symm hji)
      have h2 := pOp_put hoj (hfree j oj hoj hji hjun hnot) (fun cs b => hsel i oi cs b hi) (fun cs b => hsel j oj cs b hoj) hy h1
      have hfree' : ∀ k ok, ops[k]? = some ok → k ≠ i → (listed.setIfInBounds j true).getD k true = false →
          (∀ e ∈ ok.after, Region.binds md e = true → e.on ≠ i) → oi.apart ops ok = true := fun k ok hk hki hun hno => by
        refine hfree k ok hk hki ?_ hno
        by_cases hjk : j = k
        · subst hjk; exact hjun
        · rw [getD_set_ne true hjk] at hun; exact hun
      refine pOp_mono (fun a' w'' h3 => ?_) h2
      have hjL : j ∉ L := fun hm => by
        have h0 := ready_behind hclo hj (List.all_eq_true.1 hL j hm)
        have h2 := (mem_ready.1 hr).1
        rcases Nat.lt_or_ge i listed.size with h' | h'
        · simp [h'] at h0 h2; rw [h2] at h0; cases h0
        · simp [Array.getElem?_eq_none h'] at h0
      have hC : C w'' := h3.2.1 hjL
      refine ⟨fun _ => hC, ih (listed.setIfInBounds j true) a' w'' (hclo.set hj) hC hfree' hri h3.1 ?_⟩
      rw [Array.setIfInBounds_comm _ _ hji]
      exact h3.2.2

theorem wpAnyP_idxT (hcl : ∀ w w', C w → Bl w w' → C w') {Q : Act → World → Prop} (hs : Region.noSelect ops = true) (m : Nat) (w : World) (hw : C w) : ∀ (is : List Nat) (listed : Array Bool) (a : Act), Clo md ops listed → (is.all fun i => L.all fun j => behindT md ops i ops.size j) = true →
    preB md ops is listed = true → wpI P ops C (fun a' => wpAnyP P R md ops C L Q m (setAll is listed) a' w) is a → wpAnyP P R md ops C L Q (is.length + m) listed a w
  | [], _, _, _, _, _, h => by rw [List.length_nil, Nat.zero_add]; exact h
  | i :: is, listed, a, hclo, hbe, hB, h => by
    simp only [preB, Bool.and_eq_true] at hB
    simp only [List.all_cons, Bool.and_eq_true] at hbe
    obtain ⟨⟨hr, hf⟩, hB'⟩ := hB
    obtain ⟨o, h0, h⟩ := h
    rw [List.length_cons, show is.length + 1 + m = (is.length + m) + 1 by omega]
    have key : ∀ v, YE P ops C o v a → wpI P ops C (fun a' => wpAnyP P R md ops C L Q m (setAll (i :: is) listed) a' w) is (a.put o.dst v) → wpAnyP P R md ops C L Q (is.length + m + 1) listed a w := fun v hy hK =>
      wpAnyP_firstT hcl h0 (Region.noSelect_spec hs) hbe.1 (is.length + m) listed a w hclo hw (Region.free_spec h0 hf) (by simpa using hr) hy
        (wpAnyP_idxT hcl hs m w hw is _ _ (hclo.set (by simpa using hr)) hbe.2 hB' hK)
    split at h
    · rename_i hw
      obtain ⟨v, hv, hK⟩ := h
      exact key v (.inl ⟨hw, fun w hb => hv ⟨w, hb⟩⟩) hK
    · rename_i hw
      exact key undef (.inr ⟨by simpa using hw, rfl⟩) h
/-- a region of which the named operations only tell or call and may be taken first; the others may panic; C need not hold behind those of L -/
theorem wp_region_panicsT {id : Nat} {Q : Exit → Act → World → Prop} {a : Act} {w : World} {l : List Oper} (is : List Nat) (m : Nat) (C : World → Prop) (hcl : ∀ w w', C w → Bl w w' → C w') (hw : C w.drew) (L : List Nat) (R : List PanicEntry → World → Prop) (hR : ∀ c t w, R c w → Q (.panic c) { a with tmps := t } w)
    (hm : P.follows .mixedOrders = true) (hn : l.length = is.length + m)
    (hs : Region.noSelect l.toArray = true) (hL : (is.all fun i => L.all fun j => behindT .any l.toArray i l.toArray.size j) = true) (hB : preB .any l.toArray is (Array.replicate l.length false) = true)
    (h : wpI P l.toArray C (fun a' => wpAnyP P R .any l.toArray C L (fun a w => Q .normal a w) m (setAll is (Array.replicate l.length false)) a' w.drew) is a) :
    (Code.region id l.toArray true).wp P Q a w := by
  have hR' : ∀ c a' w, a'.defers = a.defers → R c w → Q (.panic c) a' w := fun c a' w hd hr => by
    have := hR c a'.tmps w hr
    obtain ⟨t, d⟩ := a'
    dsimp only at hd this
    subst hd
    exact this
  refine wp_region_any hm (wpAny_of_P (C := C) (L := L) (R := R) (Q := fun a w => Q .normal a w) a (fun _ _ h => h) hR' _ _ _ _ rfl ?_)
  have hk := wpAnyP_idxT (md := .any) (L := L) (R := R) hcl (Q := fun a w => Q .normal a w) hs m w.drew hw is (Array.replicate l.length false) a (Clo.none _ _ _) hL hB h
  have e : is.length + m = l.toArray.size := by simp; omega
  rw [e] at hk
  simpa using hk
end
section
variable {ops : Array Oper}
theorem pOp_appG {R : List PanicEntry → World → Prop} {i : Nat} {o : Oper} {a : Act} {w : World} {K : Act → World → Prop} (ho' : ops[i]? = some o) (hgd : o.guard = none) (s x : Operand) (T : TypeId)
    (ho : o.op = .call { callee := .builtin .append, args := #[s, x], argTypes := #[T, T] }) {E : TypeId} {size bytes : Nat} (hT : EL T E size bytes) (B : Nat) (v : Value) (n : Nat) (xs : List Value) (hs : a.eval s = v) (hown : w.ownsRow B E size v n xs) (hB : B ≤ w.heap.size)
    (ad : Option Addr) (m c : Nat) (news : List Value) (hx : a.eval x = .slice ad m c) (hsc : SG w size ad m news) (h63 : n + m ≤ maxLen) (hbytes : (n + m) * bytes ≤ 140737488355328)
    (h : ∀ v' w', w'.ownsRow B E size v' (n + m) (xs ++ news) → w.grownBy w' v.ownBlock → K (a.put o.dst v') w') : pOp Tryz.prog R ops i K a w := by
  obtain ⟨v', w', hr, h2, h3⟩ := run_appG hT o.type v n xs hown ad m c news hsc h63 hbytes hB
  unfold pOp
  simp only [ho']
  rw [if_pos (by simp [Region.wanted, hgd])]
  unfold pOper execOp
  simp only [ho, resolve, invoke, builtin, Sem.run_bind, Sem.run_pure, Result.andThen_ok, List.map_toArray, List.map_cons, List.map_nil, hs, hx, hr, pUpon]
  exact h v' w' h2 h3
end
/-- worlds that hold a box -/
def HasBox (g : Nat) (cs : List Value) (W' : World) : Prop := AC W' g cs
theorem HasBox.keep {g : Nat} {cs : List Value} (w w' : World) (h : HasBox g cs w) (k : Bl w w') : HasBox g cs w' := AC.keep h k
end Go.Proofs.YtaplefelfiefaaaGreat
end

/- parts of other texts. By an AI agent. -/
section
set_option linter.unusedVariables false
set_option linter.unusedSimpArgs false
namespace Go.Proofs.YtaplefelfiefaaaGreat
open Go.RowKit

set_option maxHeartbeats 400000 in
theorem equal_any (a b : Option Addr) (n m ca cb : Nat) (xs ys : List Int) (w : World) (hx : IA w a n xs) (hy : IA w b m ys) :
    Calls Tryz.prog 140 #[.slice a n ca, .slice b m cb] w fun e w' => e = .returned (.bool (decide (xs = ys))) ∧ Bl w w' := by
  have hx1 := hx.cap
  have hy1 := hy.cap
  by_cases hl : n = m
  · subst hl
    have HLL := Lib.hid (hx.len.trans hy.len.symm)
    have HX := Lib.hid hx.len
    have h2 : ((n : Int) != (n : Int)) = false := by simp
    go_enter Tryz.func140, Tryz.ntmps140
    go_wp2
    go_loopw [13] (fun i w' => ∃ k : Nat, k ≤ n ∧ i = .int .i64 k ∧ Bl w w' ∧ ∀ j, j < k → nth xs j = nth ys j) (fun i _ => n - (intOf i).toNat)
    case atStart => exact ⟨0, Nat.zero_le _, rfl, Bl.refl _, fun j h => by omega⟩
    case round =>
      obtain ⟨k, hk, rfl, hbl, hle⟩ := hrel
      have HLE := Lib.hid hle; clear hle
      by_cases hlt : k < n
      · obtain ⟨ba, oa, rfl, hca⟩ := hx.cells k hlt
        obtain ⟨bb, ob, rfl, hcb⟩ := hy.cells k hlt
        have ha := hbl.cell (hca k hlt)
        have hb := hbl.cell (hcb k hlt)
        clear hca hcb
        by_cases hgt : nth xs k = nth ys k
        · have hbo : (nth xs k != nth ys k) = false := by simp [hgt]
          have HE := Lib.hid hgt; clear hgt
          go_wp2
          go_quiet (fail)
          go_wp2
          go_roundw
          case rel => exact ⟨k + 1, by omega, by go_num, hbl.drewN _, fun j hj => by
            by_cases e : j = k
            · subst e; exact HE.out
            · exact HLE.out j (by omega)⟩
          case measure => simp [intOf]; omega
        · have hbo : (nth xs k != nth ys k) = true := by simp [hgt]
          have HR := Lib.hid (show decide (xs = ys) = false from decide_eq_false (fun e => hgt (by rw [e])))
          clear hgt
          go_wp2
          go_quiet (fail)
          go_wp2
          go_ret
          exact ⟨ret_bool HR.out.symm, hbl.drewN _⟩
      · have HR := Lib.hid (show decide (xs = ys) = true from decide_eq_true (getD_ext HLL.out (fun j hj => HLE.out j (by rw [HX.out] at hj; omega))))
        go_wp2
        go_ret
        exact ⟨ret_bool HR.out.symm, hbl⟩
  · have h2 : ((n : Int) != (m : Int)) = true := by simp; omega
    have HR := Lib.hid (show decide (xs = ys) = false from decide_eq_false (fun e => hl (by rw [← hx.len, ← hy.len, e])))
    go_enter Tryz.func140, Tryz.ntmps140
    go_wp2
    go_ret
    exact ⟨ret_bool HR.out.symm, Bl.refl _⟩
theorem same_any (a b : Option Addr) (n m ca cb : Nat) (xs ys : List Int) (w : World) (hx : IA w a n xs) (hy : IA w b m ys) :
    Calls Tryz.prog 43 #[.slice a n ca, .slice b m cb] w fun e w' => e = .returned (.bool (decide (xs = ys))) ∧ Bl w w' := by
  go_enter Tryz.func43, Tryz.ntmps43
  go_wp2_with fail
  refine (equal_any a b n m ca cb xs ys _ hx hy).mono ?_
  rintro e w' ⟨rfl, hb⟩
  go_wp2
  go_ret
  exact ⟨rfl, hb⟩
end Go.Proofs.YtaplefelfiefaaaGreat
end

/- archive.Valid (printed by wip/gen/arc2.py). By an AI agent. -/
section
set_option linter.unusedVariables false
set_option linter.unusedSimpArgs false
namespace Go.Proofs.YtaplefelfiefaaaGreat
open Go.RowKit
attribute [local go_sem] eOp eOper eUpon

/-- an archive's four cells -/
def arcCs (n parts : Int) (ad : Option Addr) (an ac : Nat) (pd : Option Addr) (pn pc : Nat) : List Value := [.int .i64 n, .int .i64 parts, .slice ad an ac, .slice pd pn pc]
def arcV (n parts : Int) (ad : Option Addr) (an ac : Nat) (pd : Option Addr) (pn pc : Nat) : Value := .agg #[.int .i64 n, .int .i64 parts, .slice ad an ac, .slice pd pn pc]
theorem AC.arc {w : World} {g : Nat} {n parts : Int} {ad : Option Addr} {an ac : Nat} {pd : Option Addr} {pn pc : Nat} (h : AC w g (arcCs n parts ad an ac pd pn pc)) :
    w.cell? ⟨g, 0, none⟩ = some (.int .i64 n) ∧ w.cell? ⟨g, 1, none⟩ = some (.int .i64 parts) ∧ w.cell? ⟨g, 2, none⟩ = some (.slice ad an ac) ∧ w.cell? ⟨g, 3, none⟩ = some (.slice pd pn pc) :=
  ⟨h.cell 0 _ rfl, h.cell 1 _ rfl, h.cell 2 _ rfl, h.cell 3 _ rfl⟩
theorem AC.pair {w : World} {g : Nat} {key : ByteArray} {b : Bool} {n : Int} {x : Nat} {s : ByteArray} (h : AC w g [.string key, .bool b, .float .f64 x, .int .i64 n, .string s]) :
    w.cell? ⟨g, 0, none⟩ = some (.string key) ∧ w.cell? ⟨g, 1, none⟩ = some (.bool b) ∧ w.cell? ⟨g, 2, none⟩ = some (.float .f64 x) ∧ w.cell? ⟨g, 3, none⟩ = some (.int .i64 n) ∧ w.cell? ⟨g, 4, none⟩ = some (.string s) :=
  ⟨h.cell 0 _ rfl, h.cell 1 _ rfl, h.cell 2 _ rfl, h.cell 3 _ rfl, h.cell 4 _ rfl⟩
theorem notArc {a : ArcL} (h : ArcParts a → False) : validArc a = false := by
  cases hv : validArc a
  · rfl
  · exact absurd (h (validArc_parts hv)) id
/-- the boxes of a round -/
structure VR (w Y : World) (cs : List Value) (gp : Nat) (ps : List Value) (ga : Nat) (as_ : List Value) : Prop where
  bl : Bl w Y
  b : AC Y w.heap.size cs
  p : AC Y gp ps
  a : AC Y ga as_
theorem VR.keep {w Y Y' : World} {cs : List Value} {gp : Nat} {ps : List Value} {ga : Nat} {as_ : List Value} (h : VR w Y cs gp ps ga as_) (k : Bl Y Y') : VR w Y' cs gp ps ga as_ := ⟨h.bl.trans k, h.b.keep k, h.p.keep k, h.a.keep k⟩
theorem zeroL_any (n : Nat) (w : World) (h1 : 1 ≤ n) (h8 : n ≤ 8) :
    Calls Tryz.prog 44 #[.int .i64 n] w fun e w' => ∃ a c, e = .returned (.slice a n c) ∧ IA w' a n (zeroL n) ∧ Bl w w' := by
  refine (zero_yes n w h1 h8).mono ?_
  rintro e w' ⟨v, rfl, hf, hb⟩
  obtain ⟨a, m, c, rfl, hI⟩ := hf.si
  have : m = n := by rw [← hI.len]; simp [zeroL]
  subst this
  exact ⟨a, c, rfl, hI, hb⟩
theorem cmpK_any (s t : ByteArray) (c : Int) (w : World) (h : Hid (Lib.compareBytes s.data.toList t.data.toList = c)) :
    Calls Tryz.prog 45 #[.string s, .string t] w fun e w' => e = .returned (.int .i64 c) ∧ Bl w w' := by
  refine (rawCompare_any s t w).mono ?_
  rintro e w' ⟨rfl, rfl⟩
  rw [h.out]
  exact ⟨rfl, Bl.refl _⟩
theorem isKeyR_any (s : ByteArray) (r : Bool) (w : World) (hs : s.size ≤ 140737488351232) (h : Hid (isKeyB s = r)) : Calls Tryz.prog 46 #[.string s] w fun e w' => e = .returned (.bool r) ∧ Bl w w' := by
  refine (isKey_any s w hs).mono ?_
  rintro e w' ⟨rfl, rfl⟩
  rw [h.out]
  exact ⟨rfl, Bl.refl _⟩
theorem step_ok {a : ArcL} {k : Nat} (h : ∀ j, j < k → okAt a.pairs j = true) (hk : okAt a.pairs k = true) : ∀ j, j < k + 1 → okAt a.pairs j = true := fun j hj => by
  rcases Nat.lt_or_ge j k with h' | h'
  · exact h j h'
  · have : j = k := by omega
    subst this; exact hk
/-- what a round tells, part by part -/
theorem okAt_eq {ps : List (ByteArray × ValL)} {k : Nat} {p q : ByteArray × ValL} (hp : nthQ ps k = p) (hq : nthQ ps (k - 1) = q) {c : Int} {ki kf ks : Bool} {A : ActL} {V : ValL} (hc : Lib.compareBytes q.1.data.toList p.1.data.toList = c) (hi : isKeyB p.1 = ki) (hA : actOf p.1 p.2 = A) (hf : fitsB p.1 A = kf) (hV : afterL p.1 noVal A = V) (hs : sameV V p.2 = ks) :
    okAt ps k = ((decide (k = 0) || decide (c < 0)) && (kf && ks)) ∧ (kf = true → ki = true) := by
  refine ⟨?_, fun h => ?_⟩
  · unfold okAt lessK pairB
    rw [hp, hq, hc, hA, hf, hV, hs]
  · subst hf
    rw [← hi]
    exact (fits_key h).1

set_option maxHeartbeats 12800000 in
set_option maxRecDepth 100000 in
theorem arcValid_hid (n parts : Int) (ad : Option Addr) (an ac : Nat) (xs : List Int) (pd : Option Addr) (pn pc : Nat) (ps : List (ByteArray × ValL)) (w : World) (hx : IA w ad an xs) (hp : PA w pd pn ps) (R : Bool) (HR : Hid (validArc ⟨n, parts, xs, ps⟩ = R))
    (hok : Hid (∀ p ∈ ps, p.1.size ≤ 140737488351232 ∧ p.2.Ok)) :
    Calls Tryz.prog 13 #[.agg #[.int .i64 n, .int .i64 parts, .slice ad an ac, .slice pd pn pc]] w fun e w' => e = .returned (.bool R) ∧ Bl w w' := by
  have hsf := store_float
  have hn1 := hx.cap
  have hpn := hp.cap
  have HX := Lib.hid hx
  have HP := Lib.hid hp
  have hxl := hx.len
  have hpl := hp.len
  have hg := AC.new w _ rfl (arcCs n parts ad an ac pd pn pc) 26
  have hb := (Bl.refl w).alloc (.cells (arcCs n parts ad an ac pd pn pc).toArray 26)
  have HN : Hid ((ArcParts ⟨n, parts, xs, ps⟩ → False) → R = false) := Lib.hid fun h => by rw [← HR.out]; exact notArc h
  obtain ⟨c0, c1, c2, c3⟩ := AC.arc hg
  unfold arcCs at hg hb c0 c1 c2 c3
  clear hx hp
  go_enter Tryz.func13, Tryz.ntmps13
  go_upto_region 1 with fail
  generalize w.alloc _ = W at *
  have HG := Lib.hid hg
  have HB := Lib.hid hb
  clear hg hb
  by_cases e1 : n < 1
  · have HF := Lib.hid (HN.out fun h => by have := h.n; dsimp only at this; omega)
    go_wp2_with fail
    go_ret
    exact ⟨ret_bool HF.out.symm, HB.out⟩
  have d0 : decide (n < 1) = false := decide_eq_false e1
  replace e1 := Lib.hid e1
  have E0 := e1
  clear e1
  by_cases e1 : 8 < n
  · have HF := Lib.hid (HN.out fun h => by have := h.n; dsimp only at this; omega)
    go_wp2_with fail
    go_ret
    exact ⟨ret_bool HF.out.symm, HB.out⟩
  have d1 : decide (8 < n) = false := decide_eq_false e1
  replace e1 := Lib.hid e1
  have E1 := e1
  clear e1
  by_cases e1 : parts < 1
  · have HF := Lib.hid (HN.out fun h => by have := h.parts; dsimp only at this; omega)
    go_wp2_with fail
    go_ret
    exact ⟨ret_bool HF.out.symm, HB.out⟩
  have d2 : decide (parts < 1) = false := decide_eq_false e1
  replace e1 := Lib.hid e1
  have E2 := e1
  clear e1
  by_cases e1 : 64 < parts
  · have HF := Lib.hid (HN.out fun h => by have := h.parts; dsimp only at this; omega)
    go_wp2_with fail
    go_ret
    exact ⟨ret_bool HF.out.symm, HB.out⟩
  have d3 : decide (64 < parts) = false := decide_eq_false e1
  replace e1 := Lib.hid e1
  have E3 := e1
  clear e1
  cases hv : validL xs
  · have HF := Lib.hid (HN.out fun h => by have := h.at_; dsimp only at this; rw [hv] at this; cases this)
    have HV := Lib.hid hv
    clear hv
    go_wp2_with fail
    refine (valid_any ad an ac xs _ (HX.out.keep HB.out)).mono ?_
    rintro e w' ⟨rfl, rfl⟩
    rw [HV.out]
    go_wp2_with fail
    go_ret
    exact ⟨ret_bool HF.out.symm, HB.out⟩
  have HV := Lib.hid hv
  clear hv
  by_cases e5 : (an : Int) = n
  case neg =>
    have HF := Lib.hid (HN.out fun h => by have := h.len; dsimp only at this; omega)
    have q5 : ((an : Int) != n) = true := by rw [bne_iff_ne]; exact e5
    clear e5
    go_wp2_with fail
    refine (valid_any ad an ac xs _ (HX.out.keep HB.out)).mono ?_
    rintro e w' ⟨rfl, rfl⟩
    rw [HV.out]
    go_wp2_with fail
    go_ret
    exact ⟨ret_bool HF.out.symm, HB.out⟩
  subst e5
  by_cases e6 : 10000 < pn
  · have HF := Lib.hid (HN.out fun h => by have := h.few; dsimp only at this; omega)
    have q5 : ((an : Int) != (an : Int)) = false := by simp
    go_wp2_with fail
    refine (valid_any ad an ac xs _ (HX.out.keep HB.out)).mono ?_
    rintro e w' ⟨rfl, rfl⟩
    rw [HV.out]
    go_wp2_with fail
    go_ret
    exact ⟨ret_bool HF.out.symm, HB.out⟩
  have q5 : ((an : Int) != (an : Int)) = false := by simp
  have han1 : 1 ≤ an := by have := E0.out; omega
  have han8 : an ≤ 8 := by have := E1.out; omega
  go_wp2_with fail
  refine (valid_any ad an ac xs _ (HX.out.keep HB.out)).mono ?_
  rintro e w' ⟨rfl, rfl⟩
  rw [HV.out]
  go_upto_region 3 with fail
  clear c0 c1 c2 c3 d0 d1 d2 d3 q5
  rcases Nat.eq_zero_or_pos pn with h0 | h0
  · subst h0
    refine wp_region_allS (by kernel_rfl) (by kernel_rfl) ?_
    have HGZ := Lib.hid (HG.out.keep ((Bl.refl W).drew))
    have HBZ := Lib.hid (HB.out.drew)
    clear HG HB
    generalize W.drew = Z at *
    have c3 : ∀ q : Ext Z, _ := fun q => (HGZ.out.keep q.bl).cell 3 _ rfl
    repeat (refine wpS_step (fun K hK => ?_); go_simp; first | (refine hK _ ?_; clear hK K) | (apply Exists.intro; refine ⟨fun q => ?_, hK _ ?_⟩; (fail); clear hK K))
    refine wpS_nil ?_
    intro q1
    have HG7 := Lib.hid (HGZ.out.keep q1.bl)
    have HB7 := Lib.hid (HBZ.out.trans q1.bl)
    clear c3 HGZ HBZ
    generalize ExtC.at q1 = W7 at *
    have hps : ps = [] := List.eq_nil_of_length_eq_zero hpl
    have HR1 : Hid (R = true) := Lib.hid (by
      subst hps
      rw [← HR.out]
      exact validArc_of ⟨⟨by show (1 : Int) ≤ an; omega, by show (an : Int) ≤ 8; omega⟩, ⟨by have := E2.out; show (1 : Int) ≤ parts; omega, by have := E3.out; show parts ≤ 64; omega⟩, by show (xs.length : Int) = an; omega, Nat.zero_le _, HV.out, .inl rfl, fun j hj => absurd hj (Nat.not_lt_zero _)⟩)
    have c3 := (AC.arc HG7.out).2.2.2
    go_wp2_with fail
    clear c3
    go_loopw [59] (fun i wr => i = .int .i64 0 ∧ Bl W7 wr) (fun _ _ => 0)
    case atStart => exact ⟨rfl, Bl.refl _⟩
    case round =>
      obtain ⟨rfl, hbl⟩ := hrel
      have HBL := Lib.hid hbl
      clear hbl
      go_wp2_with fail
      go_ret
      exact ⟨ret_bool HR1.out.symm, HB7.out.trans HBL.out⟩
  · have hp0 : decide ((0 : Int) < (pn : Int)) = true := decide_eq_true (by omega)
    refine wp_region_ext 9 3 (by kernel_rfl) rfl (by kernel_rfl) (by kernel_rfl) ?_
    simp only [List.take_succ_cons, List.take_zero]
    have HGZ := Lib.hid (HG.out.keep ((Bl.refl W).drew))
    have HBZ := Lib.hid (HB.out.drew)
    clear HG HB
    generalize W.drew = Z at *
    have c0 : ∀ q : Ext Z, _ := fun q => (HGZ.out.keep q.bl).cell 0 _ rfl
    have c2 : ∀ q : Ext Z, _ := fun q => (HGZ.out.keep q.bl).cell 2 _ rfl
    have c3 : ∀ q : Ext Z, _ := fun q => (HGZ.out.keep q.bl).cell 3 _ rfl
    repeat (refine wpE_step (fun K hK => ?_); go_simp; first | (refine hK _ ?_; clear hK K) | (apply Exists.intro; refine ⟨fun q => ?_, hK _ ?_⟩; (fail); clear hK K))
    refine wpE_nil ?_
    refine wpAnyE_one (i := 9) (by kernel_rfl) ?_
    intro W2 hb2
    go_simp
    refine (zeroL_any an W2 han1 han8).mono ?_
    rintro e W3 ⟨za, zc, rfl, hz, hb3⟩
    refine ⟨_, rfl, hb2.trans hb3, ?_⟩
    refine wpAnyE_one (i := 10) (by kernel_rfl) ?_
    intro W4 hb4
    go_simp
    refine (same_any ad za an an ac zc xs (zeroL an) W4 (HX.out.keep (HBZ.out.trans ((hb2.trans hb3).trans hb4))) (hz.keep hb4)).mono ?_
    rintro e W5 ⟨rfl, hb5⟩
    refine ⟨_, rfl, ((hb2.trans hb3).trans hb4).trans hb5, ?_⟩
    refine wpAnyE_one (i := 11) (by kernel_rfl) ?_
    intro W6 hb6
    go_simp
    refine ⟨(((hb2.trans hb3).trans hb4).trans hb5).trans hb6, ?_⟩
    refine wpAnyE_done (by kernel_rfl) ?_
    intro W7 hb7
    have HB7 := Lib.hid (HBZ.out.trans (((((hb2.trans hb3).trans hb4).trans hb5).trans hb6).trans hb7))
    have HG7 := Lib.hid (HGZ.out.keep (((((hb2.trans hb3).trans hb4).trans hb5).trans hb6).trans hb7))
    clear hb2 hb3 hb4 hb5 hb6 hb7 hz c0 c2 c3 HBZ HGZ
    by_cases hz : xs = zeroL an
    · have HF := Lib.hid (HN.out fun h => by
        have h1 := h.zero
        dsimp only at h1
        rw [hxl] at h1
        rcases h1 with h1 | h1
        · omega
        · exact h1 hz)
      rw [decide_eq_true hz]
      clear hz
      go_wp2_with fail
      go_ret
      exact ⟨ret_bool HF.out.symm, HB7.out⟩
    rw [decide_eq_false hz]
    have HF : Hid (ArcParts ⟨(an : Int), parts, xs, ps⟩ ∨ ¬ ∀ j, j < pn → okAt ps j = true) := Lib.hid (by
      by_cases hj : ∀ j, j < pn → okAt ps j = true
      · left
        refine ⟨⟨by show (1 : Int) ≤ an; omega, by show (an : Int) ≤ 8; omega⟩, ⟨by have := E2.out; show (1 : Int) ≤ parts; omega, by have := E3.out; show parts ≤ 64; omega⟩, by show (xs.length : Int) = an; omega, by show ps.length ≤ 10000; omega, HV.out, .inr (by show xs ≠ zeroL xs.length; rw [hxl]; exact hz), fun j hj2 => hj j (by rw [← hpl]; exact hj2)⟩
      · exact .inr hj)
    clear hz
    have c3 := (AC.arc HG7.out).2.2.2
    go_wp2_with fail
    clear c3
    go_loopw [59] (fun i wr => ∃ k : Nat, k ≤ pn ∧ i = .int .i64 k ∧ Bl W7 wr ∧ ∀ j, j < k → okAt ps j = true) (fun i _ => pn - (intOf i).toNat)
    case atStart => exact ⟨0, Nat.zero_le _, rfl, Bl.refl _, fun j hj => absurd hj (Nat.not_lt_zero _)⟩
    case round =>
      obtain ⟨k, hk, rfl, hbl, hall⟩ := hrel
      have HALL := Lib.hid hall
      have HBL := Lib.hid hbl
      clear hall hbl
      by_cases hlt : k < pn
      · have hkl : k < ps.length := by rw [hpl]; exact hlt
        obtain ⟨ba, oa, rfl, _⟩ := HP.out.cells k hlt
        obtain ⟨p0, p1, p2, p3, p4⟩ := HP.out.get (HB7.out.trans HBL.out) hlt
        have HOK := Lib.hid (hok.out _ (nthQ_mem hkl))
        have HPREV := Lib.hid (fun (j : Nat) (hj : j < pn) (W : World) (hb : Bl wr W) => ((HP.out.get (HB7.out.trans HBL.out) hj).keep hb).c0)
        obtain ⟨q, hq⟩ : ∃ q, nthQ ps (k - 1) = q := ⟨_, rfl⟩
        have HQ := Lib.hid hq
        clear hq hkl
        generalize hpe : nthQ ps k = p at *
        have HPE := Lib.hid hpe
        clear hpe
        obtain ⟨key, ⟨pt, px, pm, pz⟩⟩ := p
        obtain ⟨qkey, qv⟩ := q
        obtain ⟨⟨ak, ax, an2, az⟩, hA⟩ : ∃ A : ActL, actOf key ⟨pt, px, pm, pz⟩ = A := ⟨_, rfl⟩
        obtain ⟨⟨rb, rx, rn, rs⟩, hV⟩ : ∃ V : ValL, afterL key noVal ⟨ak, ax, an2, az⟩ = V := ⟨_, rfl⟩
        have HA := Lib.hid hA
        have HV2 := Lib.hid hV
        obtain ⟨c, hc⟩ : ∃ c, Lib.compareBytes qkey.data.toList key.data.toList = c := ⟨_, rfl⟩
        obtain ⟨ki, hi⟩ : ∃ ki, isKeyB key = ki := ⟨_, rfl⟩
        obtain ⟨kf, hf⟩ : ∃ kf, fitsB key ⟨ak, ax, an2, az⟩ = kf := ⟨_, rfl⟩
        obtain ⟨ks, hs⟩ : ∃ ks, sameV ⟨rb, rx, rn, rs⟩ ⟨pt, px, pm, pz⟩ = ks := ⟨_, rfl⟩
        have HOKAT := Lib.hid (okAt_eq HPE.out HQ.out hc hi hA hf hV hs)
        have HC := Lib.hid hc
        have HI := Lib.hid hi
        have HFI := Lib.hid hf
        have HS := Lib.hid hs
        have HAO := Lib.hid (show (⟨ak, ax, an2, az⟩ : ActL).Ok from hA ▸ actOf_ok key HOK.out.2)
        have HVO := Lib.hid (show (⟨rb, rx, rn, rs⟩ : ValL).Ok from hV ▸ after_ok noVal_ok HAO.out)
        have HKZ := Lib.hid HOK.out.1
        have HPO := Lib.hid HOK.out.2
        dsimp only at p0 p1 p2 p3 p4
        clear hA hV hc hi hf hs
        have hgp := AC.new wr _ rfl [.string key, .bool pt, .float .f64 px, .int .i64 pm, .string pz] 58
        have hbp := (Bl.refl wr).alloc (.cells #[.string key, .bool pt, .float .f64 px, .int .i64 pm, .string pz] 58)
        have hg7 := HG7.out.keep (HBL.out.trans hbp)
        obtain ⟨g0, g1, g2, g3, g4⟩ := AC.pair hgp
        go_wp2_with fail
        clear g0 g1 g2 g3 g4 p0 p1 p2 p3 p4
        have HGP := Lib.hid hgp
        have HBP := Lib.hid hbp
        have HG8 := Lib.hid hg7
        clear hgp hbp hg7
        generalize hge : wr.heap.size = ga at *
        have HGE := Lib.hid hge
        clear hge
        generalize wr.alloc _ = Y at *
        refine (arcAct_agg key pt px pm pz ak ax an2 az _ HKZ.out HA).mono ?_
        rintro e w1 ⟨rfl, hb1⟩
        go_upto_region 9 with fail
        have G0 : VR w (w1.alloc (.cells #[.int .i64 ak, .float .f64 ax, .int .i64 an2, .string az] 66)) (arcCs (an : Int) parts ad an ac (some ⟨ba, oa, none⟩) pn pc) ga [.string key, .bool pt, .float .f64 px, .int .i64 pm, .string pz] w1.heap.size [.int .i64 ak, .float .f64 ax, .int .i64 an2, .string az] :=
          ⟨((HB7.out.trans (HBL.out.trans HBP.out)).trans hb1).alloc _, (HG8.out.keep hb1).keep ((Bl.refl _).alloc _), (HGP.out.keep hb1).keep ((Bl.refl _).alloc _), AC.new w1 _ rfl _ _⟩
        have HBY := Lib.hid ((HBP.out.trans hb1).alloc (.cells #[.int .i64 ak, .float .f64 ax, .int .i64 an2, .string az] 66))
        replace G0 := Lib.hid (G0.keep ((Bl.refl _).drew))
        replace HBY := Lib.hid (HBY.out.drew)
        clear hb1 HBP HGP HG8
        generalize w1.heap.size = gx at *
        have done_no : okAt ps k = false → R = false := fun h => HN.out fun hp => by
          have := hp.ok k (by show k < ps.length; rw [hpl]; exact hlt)
          rw [show okAt ps k = true from this] at h
          cases h
        rcases Nat.eq_zero_or_pos k with hk0 | hk0
        · subst hk0
          cases ki
          case false =>
            have HNO := Lib.hid (done_no (by cases kf; (rw [HOKAT.out.1]; simp); exact absurd (HOKAT.out.2 rfl) (by decide)))
            clear done_no
            refine wp_region_allS (by kernel_rfl) (by kernel_rfl) ?_
            generalize World.drew _ = Z at *
            have b3 : ∀ m : Ext Z, _ := fun m => (G0.out.keep m.bl).b.cell 3 _ rfl
            have p0 : ∀ m : Ext Z, _ := fun m => (G0.out.keep m.bl).p.cell 0 _ rfl
            have p1 : ∀ m : Ext Z, _ := fun m => (G0.out.keep m.bl).p.cell 1 _ rfl
            have p2 : ∀ m : Ext Z, _ := fun m => (G0.out.keep m.bl).p.cell 2 _ rfl
            have p3 : ∀ m : Ext Z, _ := fun m => (G0.out.keep m.bl).p.cell 3 _ rfl
            have p4 : ∀ m : Ext Z, _ := fun m => (G0.out.keep m.bl).p.cell 4 _ rfl
            have a0 : ∀ m : Ext Z, _ := fun m => (G0.out.keep m.bl).a.cell 0 _ rfl
            have a1 : ∀ m : Ext Z, _ := fun m => (G0.out.keep m.bl).a.cell 1 _ rfl
            have a2 : ∀ m : Ext Z, _ := fun m => (G0.out.keep m.bl).a.cell 2 _ rfl
            have a3 : ∀ m : Ext Z, _ := fun m => (G0.out.keep m.bl).a.cell 3 _ rfl
            have H2 := Lib.hid (fun m : Ext Z => isKeyR_any key _ m.at HKZ.out HI)
            repeat (refine wpS_step (fun K hK => ?_); go_simp; first | (refine hK _ ?_; clear hK K) | (apply Exists.intro; refine ⟨fun m => ?_, hK _ ?_⟩; (first | with_reducible exact H2.out m); clear hK K))
            refine wpS_nil ?_
            intro q1
            have HB9 := Lib.hid (G0.out.bl.trans q1.bl)
            have HB8 := Lib.hid (HBL.out.trans (HBY.out.trans q1.bl))
            clear b3 p0 p1 p2 p3 p4 a0 a1 a2 a3 H2
            generalize ExtC.at q1 = Y2 at *
            go_wp2_with fail
            go_ret
            exact ⟨ret_bool HNO.out.symm, HB9.out⟩
          cases kf
          case false =>
            have HNO := Lib.hid (done_no (by rw [HOKAT.out.1]; simp))
            clear done_no
            refine wp_region_allS (by kernel_rfl) (by kernel_rfl) ?_
            generalize World.drew _ = Z at *
            have b3 : ∀ m : Ext Z, _ := fun m => (G0.out.keep m.bl).b.cell 3 _ rfl
            have p0 : ∀ m : Ext Z, _ := fun m => (G0.out.keep m.bl).p.cell 0 _ rfl
            have p1 : ∀ m : Ext Z, _ := fun m => (G0.out.keep m.bl).p.cell 1 _ rfl
            have p2 : ∀ m : Ext Z, _ := fun m => (G0.out.keep m.bl).p.cell 2 _ rfl
            have p3 : ∀ m : Ext Z, _ := fun m => (G0.out.keep m.bl).p.cell 3 _ rfl
            have p4 : ∀ m : Ext Z, _ := fun m => (G0.out.keep m.bl).p.cell 4 _ rfl
            have a0 : ∀ m : Ext Z, _ := fun m => (G0.out.keep m.bl).a.cell 0 _ rfl
            have a1 : ∀ m : Ext Z, _ := fun m => (G0.out.keep m.bl).a.cell 1 _ rfl
            have a2 : ∀ m : Ext Z, _ := fun m => (G0.out.keep m.bl).a.cell 2 _ rfl
            have a3 : ∀ m : Ext Z, _ := fun m => (G0.out.keep m.bl).a.cell 3 _ rfl
            have H2 := Lib.hid (fun m : Ext Z => isKeyR_any key _ m.at HKZ.out HI)
            have H3 := Lib.hid (fun m : Ext Z => fits_agg key ak ax an2 az _ m.at HFI HKZ.out HAO)
            repeat (refine wpS_step (fun K hK => ?_); go_simp; first | (refine hK _ ?_; clear hK K) | (apply Exists.intro; refine ⟨fun m => ?_, hK _ ?_⟩; (first | with_reducible exact H2.out m | with_reducible exact H3.out m); clear hK K))
            refine wpS_nil ?_
            intro q1
            have HB9 := Lib.hid (G0.out.bl.trans q1.bl)
            have HB8 := Lib.hid (HBL.out.trans (HBY.out.trans q1.bl))
            clear b3 p0 p1 p2 p3 p4 a0 a1 a2 a3 H2 H3
            generalize ExtC.at q1 = Y2 at *
            go_wp2_with fail
            go_ret
            exact ⟨ret_bool HNO.out.symm, HB9.out⟩
          cases ks
          case false =>
            have HNO := Lib.hid (done_no (by rw [HOKAT.out.1]; simp))
            clear done_no
            refine wp_region_allS (by kernel_rfl) (by kernel_rfl) ?_
            generalize World.drew _ = Z at *
            have b3 : ∀ m : Ext Z, _ := fun m => (G0.out.keep m.bl).b.cell 3 _ rfl
            have p0 : ∀ m : Ext Z, _ := fun m => (G0.out.keep m.bl).p.cell 0 _ rfl
            have p1 : ∀ m : Ext Z, _ := fun m => (G0.out.keep m.bl).p.cell 1 _ rfl
            have p2 : ∀ m : Ext Z, _ := fun m => (G0.out.keep m.bl).p.cell 2 _ rfl
            have p3 : ∀ m : Ext Z, _ := fun m => (G0.out.keep m.bl).p.cell 3 _ rfl
            have p4 : ∀ m : Ext Z, _ := fun m => (G0.out.keep m.bl).p.cell 4 _ rfl
            have a0 : ∀ m : Ext Z, _ := fun m => (G0.out.keep m.bl).a.cell 0 _ rfl
            have a1 : ∀ m : Ext Z, _ := fun m => (G0.out.keep m.bl).a.cell 1 _ rfl
            have a2 : ∀ m : Ext Z, _ := fun m => (G0.out.keep m.bl).a.cell 2 _ rfl
            have a3 : ∀ m : Ext Z, _ := fun m => (G0.out.keep m.bl).a.cell 3 _ rfl
            have H2 := Lib.hid (fun m : Ext Z => isKeyR_any key _ m.at HKZ.out HI)
            have H3 := Lib.hid (fun m : Ext Z => fits_agg key ak ax an2 az _ m.at HFI HKZ.out HAO)
            have H4 := Lib.hid (fun m : Ext Z => after_agg key false 0 0 ⟨#[]⟩ ak ax an2 az rb rx rn rs m.at HV2 HKZ.out (Lib.hid noVal_ok) HAO)
            have H5 := Lib.hid (fun m : Ext Z => same_agg rb rx rn rs pt px pm pz _ m.at HS HVO HPO)
            repeat (refine wpS_step (fun K hK => ?_); go_simp; first | (refine hK _ ?_; clear hK K) | (apply Exists.intro; refine ⟨fun m => ?_, hK _ ?_⟩; (first | with_reducible exact H2.out m | with_reducible exact H3.out m | with_reducible exact H4.out m | with_reducible exact H5.out m); clear hK K))
            refine wpS_nil ?_
            intro q1
            have HB9 := Lib.hid (G0.out.bl.trans q1.bl)
            have HB8 := Lib.hid (HBL.out.trans (HBY.out.trans q1.bl))
            clear b3 p0 p1 p2 p3 p4 a0 a1 a2 a3 H2 H3 H4 H5
            generalize ExtC.at q1 = Y2 at *
            go_wp2_with fail
            go_ret
            exact ⟨ret_bool HNO.out.symm, HB9.out⟩
          have HY : Hid (okAt ps 0 = true) := Lib.hid (by rw [HOKAT.out.1]; simp)
          clear done_no
          refine wp_region_allS (by kernel_rfl) (by kernel_rfl) ?_
          generalize World.drew _ = Z at *
          have b3 : ∀ m : Ext Z, _ := fun m => (G0.out.keep m.bl).b.cell 3 _ rfl
          have p0 : ∀ m : Ext Z, _ := fun m => (G0.out.keep m.bl).p.cell 0 _ rfl
          have p1 : ∀ m : Ext Z, _ := fun m => (G0.out.keep m.bl).p.cell 1 _ rfl
          have p2 : ∀ m : Ext Z, _ := fun m => (G0.out.keep m.bl).p.cell 2 _ rfl
          have p3 : ∀ m : Ext Z, _ := fun m => (G0.out.keep m.bl).p.cell 3 _ rfl
          have p4 : ∀ m : Ext Z, _ := fun m => (G0.out.keep m.bl).p.cell 4 _ rfl
          have a0 : ∀ m : Ext Z, _ := fun m => (G0.out.keep m.bl).a.cell 0 _ rfl
          have a1 : ∀ m : Ext Z, _ := fun m => (G0.out.keep m.bl).a.cell 1 _ rfl
          have a2 : ∀ m : Ext Z, _ := fun m => (G0.out.keep m.bl).a.cell 2 _ rfl
          have a3 : ∀ m : Ext Z, _ := fun m => (G0.out.keep m.bl).a.cell 3 _ rfl
          have H2 := Lib.hid (fun m : Ext Z => isKeyR_any key _ m.at HKZ.out HI)
          have H3 := Lib.hid (fun m : Ext Z => fits_agg key ak ax an2 az _ m.at HFI HKZ.out HAO)
          have H4 := Lib.hid (fun m : Ext Z => after_agg key false 0 0 ⟨#[]⟩ ak ax an2 az rb rx rn rs m.at HV2 HKZ.out (Lib.hid noVal_ok) HAO)
          have H5 := Lib.hid (fun m : Ext Z => same_agg rb rx rn rs pt px pm pz _ m.at HS HVO HPO)
          repeat (refine wpS_step (fun K hK => ?_); go_simp; first | (refine hK _ ?_; clear hK K) | (apply Exists.intro; refine ⟨fun m => ?_, hK _ ?_⟩; (first | with_reducible exact H2.out m | with_reducible exact H3.out m | with_reducible exact H4.out m | with_reducible exact H5.out m); clear hK K))
          refine wpS_nil ?_
          intro q1
          have HB9 := Lib.hid (G0.out.bl.trans q1.bl)
          have HB8 := Lib.hid (HBL.out.trans (HBY.out.trans q1.bl))
          clear b3 p0 p1 p2 p3 p4 a0 a1 a2 a3 H2 H3 H4 H5
          generalize ExtC.at q1 = Y2 at *
          go_wp2_with fail
          go_roundw
          case rel => exact ⟨0 + 1, by omega, by go_num, HB8.out, step_ok (a := ⟨(an : Int), parts, xs, ps⟩) HALL.out HY.out⟩
          case measure => simp [intOf]; omega
        · obtain ⟨j, hj⟩ : ∃ j, k = j + 1 := ⟨k - 1, by omega⟩
          have hjp : j < pn := by omega
          have hkm : IntKind.i64.wrap ((k : Int) - 1) = (j : Int) := by rw [IntKind.wrap_i64]; omega
          have hkp : decide ((0 : Int) < (k : Int)) = true := decide_eq_true (by omega)
          have hkp2 : decide (0 < k) = true := decide_eq_true hk0
          have hkn : decide (k = 0) = false := decide_eq_false (by omega)
          rw [hkn] at HOKAT
          have HQJ : Hid (nthQ ps j = (qkey, qv)) := Lib.hid (by rw [← HQ.out]; congr 1; omega)
          clear hkn hj hk0
          by_cases hcz : c < 0
          case neg =>
            have hcd : decide ((0 : Int) ≤ c) = true := decide_eq_true (by omega)
            have HNO := Lib.hid (done_no (by rw [HOKAT.out.1, decide_eq_false hcz]; rfl))
            clear hcz done_no
            refine wp_region_allS (by kernel_rfl) (by kernel_rfl) ?_
            generalize World.drew _ = Z at *
            have b3 : ∀ m : Ext Z, _ := fun m => (G0.out.keep m.bl).b.cell 3 _ rfl
            have p0 : ∀ m : Ext Z, _ := fun m => (G0.out.keep m.bl).p.cell 0 _ rfl
            have p1 : ∀ m : Ext Z, _ := fun m => (G0.out.keep m.bl).p.cell 1 _ rfl
            have p2 : ∀ m : Ext Z, _ := fun m => (G0.out.keep m.bl).p.cell 2 _ rfl
            have p3 : ∀ m : Ext Z, _ := fun m => (G0.out.keep m.bl).p.cell 3 _ rfl
            have p4 : ∀ m : Ext Z, _ := fun m => (G0.out.keep m.bl).p.cell 4 _ rfl
            have a0 : ∀ m : Ext Z, _ := fun m => (G0.out.keep m.bl).a.cell 0 _ rfl
            have a1 : ∀ m : Ext Z, _ := fun m => (G0.out.keep m.bl).a.cell 1 _ rfl
            have a2 : ∀ m : Ext Z, _ := fun m => (G0.out.keep m.bl).a.cell 2 _ rfl
            have a3 : ∀ m : Ext Z, _ := fun m => (G0.out.keep m.bl).a.cell 3 _ rfl
            have hv := fun m : Ext Z => HPREV.out j hjp m.at (HBY.out.trans m.bl)
            rw [HQJ.out] at hv
            dsimp only at hv
            have H1 := Lib.hid (fun m : Ext Z => cmpK_any qkey key c m.at HC)
            repeat (refine wpS_step (fun K hK => ?_); go_simp; first | (refine hK _ ?_; clear hK K) | (apply Exists.intro; refine ⟨fun m => ?_, hK _ ?_⟩; (first | with_reducible exact H1.out m); clear hK K))
            refine wpS_nil ?_
            intro q1
            have HB9 := Lib.hid (G0.out.bl.trans q1.bl)
            have HB8 := Lib.hid (HBL.out.trans (HBY.out.trans q1.bl))
            clear b3 p0 p1 p2 p3 p4 a0 a1 a2 a3 hv H1
            generalize ExtC.at q1 = Y2 at *
            go_wp2_with fail
            go_ret
            exact ⟨ret_bool HNO.out.symm, HB9.out⟩
          have hcd : decide ((0 : Int) ≤ c) = false := decide_eq_false (by omega)
          rw [decide_eq_true hcz] at HOKAT
          clear hcz
          cases ki
          case false =>
            have HNO := Lib.hid (done_no (by cases kf; (rw [HOKAT.out.1]; simp); exact absurd (HOKAT.out.2 rfl) (by decide)))
            clear done_no
            refine wp_region_allS (by kernel_rfl) (by kernel_rfl) ?_
            generalize World.drew _ = Z at *
            have b3 : ∀ m : Ext Z, _ := fun m => (G0.out.keep m.bl).b.cell 3 _ rfl
            have p0 : ∀ m : Ext Z, _ := fun m => (G0.out.keep m.bl).p.cell 0 _ rfl
            have p1 : ∀ m : Ext Z, _ := fun m => (G0.out.keep m.bl).p.cell 1 _ rfl
            have p2 : ∀ m : Ext Z, _ := fun m => (G0.out.keep m.bl).p.cell 2 _ rfl
            have p3 : ∀ m : Ext Z, _ := fun m => (G0.out.keep m.bl).p.cell 3 _ rfl
            have p4 : ∀ m : Ext Z, _ := fun m => (G0.out.keep m.bl).p.cell 4 _ rfl
            have a0 : ∀ m : Ext Z, _ := fun m => (G0.out.keep m.bl).a.cell 0 _ rfl
            have a1 : ∀ m : Ext Z, _ := fun m => (G0.out.keep m.bl).a.cell 1 _ rfl
            have a2 : ∀ m : Ext Z, _ := fun m => (G0.out.keep m.bl).a.cell 2 _ rfl
            have a3 : ∀ m : Ext Z, _ := fun m => (G0.out.keep m.bl).a.cell 3 _ rfl
            have hv := fun m : Ext Z => HPREV.out j hjp m.at (HBY.out.trans m.bl)
            rw [HQJ.out] at hv
            dsimp only at hv
            have H1 := Lib.hid (fun m : Ext Z => cmpK_any qkey key c m.at HC)
            have H2 := Lib.hid (fun m : Ext Z => isKeyR_any key _ m.at HKZ.out HI)
            repeat (refine wpS_step (fun K hK => ?_); go_simp; first | (refine hK _ ?_; clear hK K) | (apply Exists.intro; refine ⟨fun m => ?_, hK _ ?_⟩; (first | with_reducible exact H1.out m | with_reducible exact H2.out m); clear hK K))
            refine wpS_nil ?_
            intro q1
            have HB9 := Lib.hid (G0.out.bl.trans q1.bl)
            have HB8 := Lib.hid (HBL.out.trans (HBY.out.trans q1.bl))
            clear b3 p0 p1 p2 p3 p4 a0 a1 a2 a3 hv H1 H2
            generalize ExtC.at q1 = Y2 at *
            go_wp2_with fail
            go_ret
            exact ⟨ret_bool HNO.out.symm, HB9.out⟩
          cases kf
          case false =>
            have HNO := Lib.hid (done_no (by rw [HOKAT.out.1]; simp))
            clear done_no
            refine wp_region_allS (by kernel_rfl) (by kernel_rfl) ?_
            generalize World.drew _ = Z at *
            have b3 : ∀ m : Ext Z, _ := fun m => (G0.out.keep m.bl).b.cell 3 _ rfl
            have p0 : ∀ m : Ext Z, _ := fun m => (G0.out.keep m.bl).p.cell 0 _ rfl
            have p1 : ∀ m : Ext Z, _ := fun m => (G0.out.keep m.bl).p.cell 1 _ rfl
            have p2 : ∀ m : Ext Z, _ := fun m => (G0.out.keep m.bl).p.cell 2 _ rfl
            have p3 : ∀ m : Ext Z, _ := fun m => (G0.out.keep m.bl).p.cell 3 _ rfl
            have p4 : ∀ m : Ext Z, _ := fun m => (G0.out.keep m.bl).p.cell 4 _ rfl
            have a0 : ∀ m : Ext Z, _ := fun m => (G0.out.keep m.bl).a.cell 0 _ rfl
            have a1 : ∀ m : Ext Z, _ := fun m => (G0.out.keep m.bl).a.cell 1 _ rfl
            have a2 : ∀ m : Ext Z, _ := fun m => (G0.out.keep m.bl).a.cell 2 _ rfl
            have a3 : ∀ m : Ext Z, _ := fun m => (G0.out.keep m.bl).a.cell 3 _ rfl
            have hv := fun m : Ext Z => HPREV.out j hjp m.at (HBY.out.trans m.bl)
            rw [HQJ.out] at hv
            dsimp only at hv
            have H1 := Lib.hid (fun m : Ext Z => cmpK_any qkey key c m.at HC)
            have H2 := Lib.hid (fun m : Ext Z => isKeyR_any key _ m.at HKZ.out HI)
            have H3 := Lib.hid (fun m : Ext Z => fits_agg key ak ax an2 az _ m.at HFI HKZ.out HAO)
            repeat (refine wpS_step (fun K hK => ?_); go_simp; first | (refine hK _ ?_; clear hK K) | (apply Exists.intro; refine ⟨fun m => ?_, hK _ ?_⟩; (first | with_reducible exact H1.out m | with_reducible exact H2.out m | with_reducible exact H3.out m); clear hK K))
            refine wpS_nil ?_
            intro q1
            have HB9 := Lib.hid (G0.out.bl.trans q1.bl)
            have HB8 := Lib.hid (HBL.out.trans (HBY.out.trans q1.bl))
            clear b3 p0 p1 p2 p3 p4 a0 a1 a2 a3 hv H1 H2 H3
            generalize ExtC.at q1 = Y2 at *
            go_wp2_with fail
            go_ret
            exact ⟨ret_bool HNO.out.symm, HB9.out⟩
          cases ks
          case false =>
            have HNO := Lib.hid (done_no (by rw [HOKAT.out.1]; simp))
            clear done_no
            refine wp_region_allS (by kernel_rfl) (by kernel_rfl) ?_
            generalize World.drew _ = Z at *
            have b3 : ∀ m : Ext Z, _ := fun m => (G0.out.keep m.bl).b.cell 3 _ rfl
            have p0 : ∀ m : Ext Z, _ := fun m => (G0.out.keep m.bl).p.cell 0 _ rfl
            have p1 : ∀ m : Ext Z, _ := fun m => (G0.out.keep m.bl).p.cell 1 _ rfl
            have p2 : ∀ m : Ext Z, _ := fun m => (G0.out.keep m.bl).p.cell 2 _ rfl
            have p3 : ∀ m : Ext Z, _ := fun m => (G0.out.keep m.bl).p.cell 3 _ rfl
            have p4 : ∀ m : Ext Z, _ := fun m => (G0.out.keep m.bl).p.cell 4 _ rfl
            have a0 : ∀ m : Ext Z, _ := fun m => (G0.out.keep m.bl).a.cell 0 _ rfl
            have a1 : ∀ m : Ext Z, _ := fun m => (G0.out.keep m.bl).a.cell 1 _ rfl
            have a2 : ∀ m : Ext Z, _ := fun m => (G0.out.keep m.bl).a.cell 2 _ rfl
            have a3 : ∀ m : Ext Z, _ := fun m => (G0.out.keep m.bl).a.cell 3 _ rfl
            have hv := fun m : Ext Z => HPREV.out j hjp m.at (HBY.out.trans m.bl)
            rw [HQJ.out] at hv
            dsimp only at hv
            have H1 := Lib.hid (fun m : Ext Z => cmpK_any qkey key c m.at HC)
            have H2 := Lib.hid (fun m : Ext Z => isKeyR_any key _ m.at HKZ.out HI)
            have H3 := Lib.hid (fun m : Ext Z => fits_agg key ak ax an2 az _ m.at HFI HKZ.out HAO)
            have H4 := Lib.hid (fun m : Ext Z => after_agg key false 0 0 ⟨#[]⟩ ak ax an2 az rb rx rn rs m.at HV2 HKZ.out (Lib.hid noVal_ok) HAO)
            have H5 := Lib.hid (fun m : Ext Z => same_agg rb rx rn rs pt px pm pz _ m.at HS HVO HPO)
            repeat (refine wpS_step (fun K hK => ?_); go_simp; first | (refine hK _ ?_; clear hK K) | (apply Exists.intro; refine ⟨fun m => ?_, hK _ ?_⟩; (first | with_reducible exact H1.out m | with_reducible exact H2.out m | with_reducible exact H3.out m | with_reducible exact H4.out m | with_reducible exact H5.out m); clear hK K))
            refine wpS_nil ?_
            intro q1
            have HB9 := Lib.hid (G0.out.bl.trans q1.bl)
            have HB8 := Lib.hid (HBL.out.trans (HBY.out.trans q1.bl))
            clear b3 p0 p1 p2 p3 p4 a0 a1 a2 a3 hv H1 H2 H3 H4 H5
            generalize ExtC.at q1 = Y2 at *
            go_wp2_with fail
            go_ret
            exact ⟨ret_bool HNO.out.symm, HB9.out⟩
          have HY : Hid (okAt ps k = true) := Lib.hid (by rw [HOKAT.out.1]; simp)
          clear done_no
          refine wp_region_allS (by kernel_rfl) (by kernel_rfl) ?_
          generalize World.drew _ = Z at *
          have b3 : ∀ m : Ext Z, _ := fun m => (G0.out.keep m.bl).b.cell 3 _ rfl
          have p0 : ∀ m : Ext Z, _ := fun m => (G0.out.keep m.bl).p.cell 0 _ rfl
          have p1 : ∀ m : Ext Z, _ := fun m => (G0.out.keep m.bl).p.cell 1 _ rfl
          have p2 : ∀ m : Ext Z, _ := fun m => (G0.out.keep m.bl).p.cell 2 _ rfl
          have p3 : ∀ m : Ext Z, _ := fun m => (G0.out.keep m.bl).p.cell 3 _ rfl
          have p4 : ∀ m : Ext Z, _ := fun m => (G0.out.keep m.bl).p.cell 4 _ rfl
          have a0 : ∀ m : Ext Z, _ := fun m => (G0.out.keep m.bl).a.cell 0 _ rfl
          have a1 : ∀ m : Ext Z, _ := fun m => (G0.out.keep m.bl).a.cell 1 _ rfl
          have a2 : ∀ m : Ext Z, _ := fun m => (G0.out.keep m.bl).a.cell 2 _ rfl
          have a3 : ∀ m : Ext Z, _ := fun m => (G0.out.keep m.bl).a.cell 3 _ rfl
          have hv := fun m : Ext Z => HPREV.out j hjp m.at (HBY.out.trans m.bl)
          rw [HQJ.out] at hv
          dsimp only at hv
          have H1 := Lib.hid (fun m : Ext Z => cmpK_any qkey key c m.at HC)
          have H2 := Lib.hid (fun m : Ext Z => isKeyR_any key _ m.at HKZ.out HI)
          have H3 := Lib.hid (fun m : Ext Z => fits_agg key ak ax an2 az _ m.at HFI HKZ.out HAO)
          have H4 := Lib.hid (fun m : Ext Z => after_agg key false 0 0 ⟨#[]⟩ ak ax an2 az rb rx rn rs m.at HV2 HKZ.out (Lib.hid noVal_ok) HAO)
          have H5 := Lib.hid (fun m : Ext Z => same_agg rb rx rn rs pt px pm pz _ m.at HS HVO HPO)
          repeat (refine wpS_step (fun K hK => ?_); go_simp; first | (refine hK _ ?_; clear hK K) | (apply Exists.intro; refine ⟨fun m => ?_, hK _ ?_⟩; (first | with_reducible exact H1.out m | with_reducible exact H2.out m | with_reducible exact H3.out m | with_reducible exact H4.out m | with_reducible exact H5.out m); clear hK K))
          refine wpS_nil ?_
          intro q1
          have HB9 := Lib.hid (G0.out.bl.trans q1.bl)
          have HB8 := Lib.hid (HBL.out.trans (HBY.out.trans q1.bl))
          clear b3 p0 p1 p2 p3 p4 a0 a1 a2 a3 hv H1 H2 H3 H4 H5
          generalize ExtC.at q1 = Y2 at *
          go_wp2_with fail
          go_roundw
          case rel => exact ⟨k + 1, by omega, by go_num, HB8.out, step_ok (a := ⟨(an : Int), parts, xs, ps⟩) HALL.out HY.out⟩
          case measure => simp [intOf]; omega
      · obtain rfl : k = pn := by omega
        have HR1 : Hid (R = true) := Lib.hid (by
          rcases HF.out with h | h
          · rw [← HR.out]; exact validArc_of h
          · exact absurd HALL.out h)
        go_wp2_with fail
        go_ret
        exact ⟨ret_bool HR1.out.symm, HB7.out.trans HBL.out⟩
end Go.Proofs.YtaplefelfiefaaaGreat
end
