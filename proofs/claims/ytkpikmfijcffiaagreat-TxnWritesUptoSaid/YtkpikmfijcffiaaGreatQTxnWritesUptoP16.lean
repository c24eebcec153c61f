import Derived.Test.YtkpikmfijcffiaaGreatQOp4
import Derived.Test.YtkpikmfijcffiaaGreatQRefCmp
import Derived.Test.YtkpikmfijcffiaaGreatQRefA
import Derived.Test.YtkpikmfijcffiaaGreatQTxnWritesUptoP3

/- bedrockref5.IsKey, Right, Fits, SameAct, SameValue. By an AI agent. -/
section
namespace Go.Proofs.YtkpikmfijcffiaaGreat
open Go.RowKit

set_option maxRecDepth 100000 in
theorem refIsKey_any (s : ByteArray) (w : World) (hs : s.size ≤ 140737488351232) : Calls Tryz.prog 115 #[.string s] w fun e w' => e = .returned (.bool (isKeyB s)) ∧ w = w' := by
  by_cases hp : 0 < s.size
  · have HH := Lib.hid (hd_get hp)
    have HE := Lib.hid (filled_of hp)
    go_enter Tryz.func115, Tryz.ntmps115
    go_wp2_with fail
    all_goals (go_ret; refine ⟨ret_bool ?_, rfl⟩)
    all_goals (
      have h := HH.out
      have h2 := HE.out
      clear HH HE
      unfold isKeyB
      rw [h2]
      first
      | (simp_all; done)
      | (simp_all; omega)
      | (rw [Bool.eq_iff_iff]; simp_all; done)
      | (rw [Bool.eq_iff_iff]; simp_all; omega))
  · have HE := Lib.hid (empty_of (s := s) (by omega))
    go_enter Tryz.func115, Tryz.ntmps115
    go_wp2_with fail
    all_goals (go_ret; refine ⟨ret_bool ?_, rfl⟩)
    all_goals (unfold isKeyB; rw [HE.out]; rfl)


set_option maxHeartbeats 1600000 in
set_option maxRecDepth 100000 in
theorem refFits_any (key : ByteArray) (a : ActL) (w : World) (hkey : key.size ≤ 140737488351232) (ok : a.Ok) : Calls Tryz.prog 27 #[.string key, a.v] w fun e w' => e = .returned (.bool (fitsB key a)) ∧ Bl w w' := by
  obtain ⟨k, x, n, s⟩ := a
  have OK := Lib.hid ok
  obtain ⟨hk, hx, hn, hs⟩ := ok
  simp only at hk hx hn hs
  show Calls Tryz.prog 27 #[.string key, .agg #[.int .i64 k, .float .f64 x, .int .i64 n, .string s]] w _
  cases hi : isKeyB key
  · have HI := Lib.hid hi
    go_enter Tryz.func27, Tryz.ntmps27
    go_wp2_with fail
    refine (refIsKey_any key _ hkey).mono ?_
    rintro e w1 ⟨rfl, rfl⟩
    rw [hi]
    clear hi
    go_wp2_with fail
    go_ret
    exact ⟨ret_bool (by simp [fitsB, HI.out]), (Bl.refl w).alloc _⟩
  · have HI := Lib.hid hi
    have hp := key_pos hi
    have HH := Lib.hid (hd_get hp)
    have HLT := Lib.hid (hd_lt key)
    go_enter Tryz.func27, Tryz.ntmps27
    go_wp2_with fail
    refine (refIsKey_any key _ hkey).mono ?_
    rintro e w1 ⟨rfl, rfl⟩
    rw [hi]
    clear hi
    go_wp2_with fail
    refine (refRight_any ⟨k, x, n, s⟩ _ OK.out).mono ?_
    rintro e w1 ⟨rfl, hb1⟩
    obtain ⟨c0, c1, c2, c3⟩ := ((AC.new w _ rfl [_, _, _, _] _).keep hb1).act
    have hbw := ((Bl.refl w).alloc _).trans hb1
    cases hr : rightB ⟨k, x, n, s⟩
    · have HR := Lib.hid hr; clear hr
      go_wp2_with fail
      go_ret
      exact ⟨ret_bool (by simp [fitsB, HR.out]), hbw⟩
    · have HR := Lib.hid hr; clear hr
      clear hb1
      go_wp2_with (first | (refine (refSame_any _ 0 _ hx (by decide)).mono ?_; rintro e w' ⟨rfl, rfl⟩) | fail)
      all_goals (go_ret; refine ⟨ret_bool ?_, hbw⟩)
      all_goals (
        have h1 := HH.out
        have h2 := HR.out
        have h3 := HI.out
        have h4 := key_head h3
        clear HH HR HI HLT OK
        unfold fitsB noughtB
        rcases h4 with h4 | h4 | h4 | h4 | h4 <;> simp_all
        all_goals first | omega | (rw [Bool.eq_iff_iff]; simp) | skip)

set_option maxHeartbeats 1600000 in
set_option maxRecDepth 100000 in
theorem refSameV_any (a d : ValL) (w : World) (oa : a.Ok) (ob : d.Ok) :
    Calls Tryz.prog 12 #[a.v, d.v] w fun e w' => e = .returned (.bool (sameV a d)) ∧ Bl w w' := by
  obtain ⟨b, x, n, s⟩ := a
  obtain ⟨c, y, m, t⟩ := d
  obtain ⟨hx, _, _⟩ := oa
  obtain ⟨hy, _, _⟩ := ob
  simp only at hx hy
  show Calls Tryz.prog 12 #[.agg #[.bool b, .float .f64 x, .int .i64 n, .string s], .agg #[.bool c, .float .f64 y, .int .i64 m, .string t]] w _
  cases b <;> cases c
  case false.true =>
    go_enter Tryz.func12, Tryz.ntmps12
    go_wp2_with fail
    go_ret
    exact ⟨ret_bool (by simp [sameV]), ((Bl.refl w).alloc _).alloc _⟩
  case true.false =>
    go_enter Tryz.func12, Tryz.ntmps12
    go_wp2_with fail
    go_ret
    exact ⟨ret_bool (by simp [sameV]), ((Bl.refl w).alloc _).alloc _⟩
  all_goals
    go_enter Tryz.func12, Tryz.ntmps12
    go_wp2_with fail
    refine (refSame_any x y _ hx hy).mono ?_
    rintro e w1 ⟨rfl, rfl⟩
    by_cases hf : fkey x = fkey y
    · have HF := Lib.hid hf
      rw [decide_eq_true hf]
      clear hf
      go_wp2_with fail
      all_goals (go_ret; refine ⟨ret_bool ?_, ((Bl.refl w).alloc _).alloc _⟩)
      all_goals (have h1 := HF.out; simp_all [sameV])
    · have HF := Lib.hid hf
      rw [decide_eq_false hf]
      clear hf
      go_wp2_with fail
      all_goals (go_ret; refine ⟨ret_bool ?_, ((Bl.refl w).alloc _).alloc _⟩)
      all_goals (have h1 := HF.out; simp [sameV, h1])
end Go.Proofs.YtkpikmfijcffiaaGreat
end

/- Regions that draw their order and hold calls that may panic (Ext2's laws, with what holds at a panic; the class of worlds is asked only while something is left). · append in a drawn region whose calls may panic; worlds that hold a box. By an AI agent. -/
section
set_option linter.unusedVariables false
namespace Go.Proofs.YtkpikmfijcffiaaGreat
open Go.RowKit

section
variable {P : Program} {ops : Array Oper} {md : Region.Mode} {C : World → Prop} {R : List PanicEntry → World → Prop} {L : List Nat}

def pUpon (P : Program) (R : List PanicEntry → World → Prop) (o : Oper) (a : Act) (K : Act → World → Prop) : Result Next → Prop
  | .ok (.value u) w' => K (a.put o.dst u) w'
  | .ok .skip w' => K (a.put o.dst undef) w'
  | .ok (.enter f args) w' => Calls P f args w' (fun e w'' => (∃ v, e = .returned v ∧ K (a.put o.dst v) w'') ∨ (∃ c, e = .panicked c ∧ R c w''))
  | _ => False
def pOper (P : Program) (R : List PanicEntry → World → Prop) (o : Oper) (a : Act) (w : World) (K : Act → World → Prop) : Prop := pUpon P R o a K ((execOp a.eval o).run P w)
def pOp (P : Program) (R : List PanicEntry → World → Prop) (ops : Array Oper) (i : Nat) (K : Act → World → Prop) (a : Act) (w : World) : Prop :=
  match ops[i]? with
  | none => K a w
  | some o => if Region.wanted o (yielded ops a.tmps) then pOper P R o a w K else K (a.put o.dst undef) w

theorem pUpon_mono {o : Oper} {a : Act} {K K' : Act → World → Prop} (h : ∀ a w, K a w → K' a w) {r : Result Next} (hh : pUpon P R o a K r) : pUpon P R o a K' r := by
  cases r with
  | ok n w' =>
    cases n <;> simp only [pUpon] at hh ⊢
    case value u => exact h _ _ hh
    case skip => exact h _ _ hh
    case enter f args =>
      refine hh.mono fun e w'' hk => ?_
      rcases hk with ⟨v, he, hk⟩ | hk
      · exact .inl ⟨v, he, h _ _ hk⟩
      · exact .inr hk
  | halt x w' => simp only [pUpon] at hh
theorem pOp_mono {i : Nat} {a : Act} {w : World} {K K' : Act → World → Prop} (h : ∀ a w, K a w → K' a w) (hh : pOp P R ops i K a w) : pOp P R ops i K' a w := by
  unfold pOp at *
  split
  · exact h _ _ (by simpa [*] using hh)
  · rename_i o ho
    simp only [ho] at hh
    split
    · rename_i hw; simp only [hw, if_true] at hh; exact pUpon_mono h hh
    · rename_i hw; simp only [hw] at hh; exact h _ _ hh
theorem put_defers (a : Act) (d : Option Nat) (v : Value) : (a.put d v).defers = a.defers := by cases d <;> rfl
theorem wpOp_of_pOp {i : Nat} {a : Act} {w : World} {K : Act → World → Prop} {Q : Exit → Act → World → Prop} (hR : ∀ c w, R c w → Q (.panic c) a w) (hh : pOp P R ops i K a w) : wpOp P ops Q i (fun a' w' => K a' w' ∧ a'.defers = a.defers) a w := by
  unfold pOp at hh
  unfold wpOp
  split
  · rename_i ho; simp only [ho] at hh; exact ⟨hh, rfl⟩
  · rename_i o ho
    simp only [ho] at hh
    split
    · rename_i hw
      simp only [hw, if_true] at hh
      refine .inl ?_
      unfold pOper at hh
      unfold Oper.wp
      generalize (execOp a.eval o).run P w = r at *
      cases r with
      | ok n w' =>
        cases n <;> simp only [pUpon] at hh <;> simp only [Oper.upon]
        case value u => exact ⟨hh, put_defers _ _ _⟩
        case skip => exact ⟨hh, put_defers _ _ _⟩
        case enter f args =>
          refine hh.mono fun e w'' hk => ?_
          rcases hk with ⟨v, rfl, hk⟩ | ⟨c, rfl, hk⟩
          · exact ⟨hk, put_defers _ _ _⟩
          · exact hR _ _ hk
      | halt x w' => simp only [pUpon] at hh
    · rename_i hw; simp only [hw] at hh; exact ⟨hh, put_defers _ _ _⟩

/-- these operations stand behind the i-th, each by an edge of its own -/
def behindB (md : Region.Mode) (ops : Array Oper) (L : List Nat) (i : Nat) : Bool := L.all fun j => match ops[j]? with
  | none => false
  | some o => o.after.any fun e => Region.binds md e && e.on == i
/-- whatever order is picked from here on, and whatever is laid behind meanwhile -/
def wpAnyP (P : Program) (R : List PanicEntry → World → Prop) (md : Region.Mode) (ops : Array Oper) (C : World → Prop) (L : List Nat) (Q : Act → World → Prop) : Nat → Array Bool → Act → World → Prop
  | 0, listed, a, w => Region.ready md ops listed = [] ∧ ∀ w', Bl w w' → Q a w'
  | fuel + 1, listed, a, w =>
    (Region.ready md ops listed = [] → ∀ w', Bl w w' → Q a w') ∧
    ∀ i ∈ Region.ready md ops listed, ∀ w', Bl w w' → pOp P R ops i (fun a'' w'' => (i ∉ L → C w'') ∧ wpAnyP P R md ops C L Q fuel (listed.setIfInBounds i true) a'' w'') a w'

theorem wpAnyP_ext {Q : Act → World → Prop} : ∀ {fuel : Nat} {listed : Array Bool} {a : Act} {w w' : World}, Bl w w' → wpAnyP P R md ops C L Q fuel listed a w → wpAnyP P R md ops C L Q fuel listed a w'
  | 0, _, _, _, _, hb, h => ⟨h.1, fun w'' h2 => h.2 w'' (hb.trans h2)⟩
  | _ + 1, _, _, _, _, hb, h => ⟨fun h0 w'' h2 => h.1 h0 w'' (hb.trans h2), fun i hi w'' h2 => h.2 i hi w'' (hb.trans h2)⟩
theorem wpAny_of_P {Q : Act → World → Prop} {Q' : Exit → Act → World → Prop} (ds : Act) (hQ : ∀ a w, Q a w → Q' .normal a w) (hR : ∀ c a w, a.defers = ds.defers → R c w → Q' (.panic c) a w) : ∀ (fuel : Nat) (listed : Array Bool) (a : Act) (w : World), a.defers = ds.defers →
    wpAnyP P R md ops C L Q fuel listed a w → wpAny P md ops Q' fuel listed a w
  | 0, _, _, _, _, h => ⟨h.1, hQ _ _ (h.2 _ (Bl.refl _))⟩
  | fuel + 1, _, _, _, hd, h => ⟨fun h0 => hQ _ _ (h.1 h0 _ (Bl.refl _)), fun i hi => wpOp_mono (fun _ _ k => wpAny_of_P ds hQ hR fuel _ _ _ (k.2.trans hd) k.1.2) (wpOp_of_pOp (fun c w k => hR c _ w hd k) (h.2 i hi _ (Bl.refl _)))⟩

theorem YE.pOp {i : Nat} {o : Oper} {v : Value} {a : Act} {w : World} (hi : ops[i]? = some o) (hy : YE P ops C o v a) (hw0 : C w) {K : Act → World → Prop} (h : ∀ w', Bl w w' → K (a.put o.dst v) w') : Go.Proofs.YtkpikmfijcffiaaGreat.pOp P R ops i K a w := by
  unfold Go.Proofs.YtkpikmfijcffiaaGreat.pOp
  simp only [hi]
  rcases hy with ⟨hw, hv⟩ | ⟨hw, rfl⟩
  · simp only [hw, if_true]
    have h3 := hv w hw0
    unfold Oper.quietAt at h3
    unfold pOper
    generalize (execOp a.eval o).run P w = r at *
    cases r with
    | ok n w' =>
      cases n <;> simp only [Oper.quietUpon] at h3 <;> simp only [pUpon]
      case value u =>
        obtain ⟨e1, e2⟩ := h3
        rw [e1, e2]; exact h _ (Bl.refl _)
      case skip =>
        obtain ⟨e1, e2⟩ := h3
        rw [e1, ← e2]; exact h _ (Bl.refl _)
      case enter f args =>
        obtain ⟨e1, hc⟩ := h3
        rw [e1]
        exact hc.mono fun e w'' ⟨he, hb⟩ => .inl ⟨v, he, h _ hb⟩
    | halt x w' => simp only [Oper.quietUpon] at h3
  · simp only [hw, Bool.false_eq_true, if_false]; exact h _ (Bl.refl _)

theorem pOp_put {j : Nat} {oi oj : Oper} {v : Value} (hj : ops[j]? = some oj) (hap : oi.apart ops oj = true)
    (hsi : ∀ cs b, oi.op ≠ .select cs b) (hsj : ∀ cs b, oj.op ≠ .select cs b) {K : Act → World → Prop} {a : Act} {w : World}
    (hy : YE P ops C oi v a) (h : pOp P R ops j K (a.put oi.dst v) w) :
    pOp P R ops j (fun a' w' => YE P ops C oi v a' ∧ K (a'.put oi.dst v) w') a w := by
  obtain ⟨h1, h2, h3⟩ := Oper.apart_spec hap
  have keep : ∀ (a : Act), YE P ops C oi v a → ∀ u, YE P ops C oi v (a.put oj.dst u) := fun a hy u =>
    hy.of_same (execOp_put oi hsi a oj.dst u h3) (wanted_put oi a oj.dst u h3)
  unfold Go.Proofs.YtkpikmfijcffiaaGreat.pOp at *
  simp only [hj] at *
  rw [wanted_put oj a oi.dst v h1] at h
  split
  · rename_i hw
    simp only [hw, if_true] at h
    unfold pOper at *
    rw [execOp_put oj hsj a oi.dst v h1] at h
    generalize (execOp a.eval oj).run P w = r at *
    cases r with
    | ok n w' =>
      cases n <;> simp only [pUpon] at h ⊢
      case value u => exact ⟨keep a hy u, by rw [← Act.put_comm a v u h2]; exact h⟩
      case skip => exact ⟨keep a hy _, by rw [← Act.put_comm a v undef h2]; exact h⟩
      case enter f args =>
        refine h.mono fun e w'' hk => ?_
        rcases hk with ⟨u, he, hk⟩ | hk
        · exact .inl ⟨u, he, keep a hy u, by rw [← Act.put_comm a v u h2]; exact hk⟩
        · exact .inr hk
    | halt x w' => simp only [pUpon] at h
  · rename_i hw
    simp only [hw] at h
    exact ⟨keep a hy _, by rw [← Act.put_comm a v undef h2]; exact h⟩

theorem wpAnyP_first (hcl : ∀ w w', C w → Bl w w' → C w') {Q : Act → World → Prop} {i : Nat} {oi : Oper} {v : Value} (hi : ops[i]? = some oi) (hsel : ∀ (j : Nat) (o : Oper) cs b, ops[j]? = some o → o.op ≠ .select cs b) :
    behindB md ops L i = true → ∀ (fuel : Nat) (listed : Array Bool) (a : Act) (w : World), C w →
      (∀ j oj, ops[j]? = some oj → j ≠ i → listed.getD j true = false → (∀ e ∈ oj.after, Region.binds md e = true → e.on ≠ i) → oi.apart ops oj = true) →
      i ∈ Region.ready md ops listed → YE P ops C oi v a →
      wpAnyP P R md ops C L Q fuel (listed.setIfInBounds i true) (a.put oi.dst v) w → wpAnyP P R md ops C L Q (fuel + 1) listed a w := by
  intro hL fuel
  induction fuel with
  | zero =>
    intro listed a w hb _ hr hy H
    refine ⟨fun h => (by rw [h] at hr; cases hr), fun j hj w' hb' => ?_⟩
    by_cases hji : j = i
    · subst hji; exact hy.pOp hi (hcl _ _ hb hb') fun w'' hb'' => ⟨fun _ => hcl _ _ hb (hb'.trans hb''), wpAnyP_ext (hb'.trans hb'') H⟩
    · have := ready_mono hj hji
      rw [H.1] at this
      cases this
  | succ fuel ih =>
    intro listed a w hb hfree hr hy H
    refine ⟨fun h => (by rw [h] at hr; cases hr), fun j hj w' hb' => ?_⟩
    by_cases hji : j = i
    · subst hji; exact hy.pOp hi (hcl _ _ hb hb') fun w'' hb'' => ⟨fun _ => hcl _ _ hb (hb'.trans hb''), wpAnyP_ext (hb'.trans hb'') H⟩
    · have h1 := H.2 j (ready_mono hj hji) w' hb'
      obtain ⟨hjun, oj, hoj, hall⟩ := mem_ready.1 hj
      have hnot : ∀ e ∈ oj.after, Region.binds md e = true → e.on ≠ i := fun e he hb heq => by
        have h1 := hall e he hb
        have h0 := (mem_ready.1 hr).1
        rw [heq] at h1
        rcases Nat.lt_or_ge i listed.size with h' | h'
        · simp [h'] at h0 h1; rw [h0] at h1; cases h1
        · simp [Array.getElem?_eq_none h'] at h1
      have hri : i ∈ Region.ready md ops (listed.setIfInBounds j true) := ready_mono hr (Ne.symm hji)
      have h2 := pOp_put hoj (hfree j oj hoj hji hjun hnot) (fun cs b => hsel i oi cs b hi) (fun cs b => hsel j oj cs b hoj) hy h1
      have hfree' : ∀ k ok, ops[k]? = some ok → k ≠ i → (listed.setIfInBounds j true).getD k true = false →
          (∀ e ∈ ok.after, Region.binds md e = true → e.on ≠ i) → oi.apart ops ok = true := fun k ok hk hki hun hno => by
        refine hfree k ok hk hki ?_ hno
        by_cases hjk : j = k
        · subst hjk; exact hjun
        · rw [getD_set_ne true hjk] at hun; exact hun
      refine pOp_mono (fun a' w'' h3 => ?_) h2
      have hjL : j ∉ L := fun hm => by
        have h0 := List.all_eq_true.1 hL j hm
        rw [hoj] at h0
        obtain ⟨e, he, hb⟩ := Array.any_eq_true'.1 h0
        simp only [Bool.and_eq_true, beq_iff_eq] at hb
        exact hnot e he hb.1 hb.2
      have hC : C w'' := h3.2.1 hjL
      refine ⟨fun _ => hC, ih (listed.setIfInBounds j true) a' w'' hC hfree' hri h3.1 ?_⟩
      rw [Array.setIfInBounds_comm _ _ hji]
      exact h3.2.2

theorem wpAnyP_idx (hcl : ∀ w w', C w → Bl w w' → C w') {Q : Act → World → Prop} (hs : Region.noSelect ops = true) (m : Nat) (w : World) (hw : C w) : ∀ (is : List Nat) (listed : Array Bool) (a : Act), (is.all (behindB md ops L)) = true →
    preB md ops is listed = true → wpI P ops C (fun a' => wpAnyP P R md ops C L Q m (setAll is listed) a' w) is a → wpAnyP P R md ops C L Q (is.length + m) listed a w
  | [], _, _, _, _, h => by rw [List.length_nil, Nat.zero_add]; exact h
  | i :: is, listed, a, hbe, hB, h => by
    simp only [preB, Bool.and_eq_true] at hB
    simp only [List.all_cons, Bool.and_eq_true] at hbe
    obtain ⟨⟨hr, hf⟩, hB'⟩ := hB
    obtain ⟨o, h0, h⟩ := h
    rw [List.length_cons, show is.length + 1 + m = (is.length + m) + 1 by omega]
    have key : ∀ v, YE P ops C o v a → wpI P ops C (fun a' => wpAnyP P R md ops C L Q m (setAll (i :: is) listed) a' w) is (a.put o.dst v) → wpAnyP P R md ops C L Q (is.length + m + 1) listed a w := fun v hy hK =>
      wpAnyP_first hcl h0 (Region.noSelect_spec hs) hbe.1 (is.length + m) listed a w hw (Region.free_spec h0 hf) (by simpa using hr) hy
        (wpAnyP_idx hcl hs m w hw is _ _ hbe.2 hB' hK)
    split at h
    · rename_i hw
      obtain ⟨v, hv, hK⟩ := h
      exact key v (.inl ⟨hw, fun w hb => hv ⟨w, hb⟩⟩) hK
    · rename_i hw
      exact key undef (.inr ⟨by simpa using hw, rfl⟩) h
/-- a region of which the named operations only tell or call and may be taken first; the others may panic; C need not hold behind those of L -/
theorem wp_region_panics {id : Nat} {Q : Exit → Act → World → Prop} {a : Act} {w : World} {l : List Oper} (is : List Nat) (m : Nat) (C : World → Prop) (hcl : ∀ w w', C w → Bl w w' → C w') (hw : C w.drew) (L : List Nat) (R : List PanicEntry → World → Prop) (hR : ∀ c t w, R c w → Q (.panic c) { a with tmps := t } w)
    (hm : P.follows .mixedOrders = true) (hn : l.length = is.length + m)
    (hs : Region.noSelect l.toArray = true) (hL : is.all (behindB .any l.toArray L) = true) (hB : preB .any l.toArray is (Array.replicate l.length false) = true)
    (h : wpI P l.toArray C (fun a' => wpAnyP P R .any l.toArray C L (fun a w => Q .normal a w) m (setAll is (Array.replicate l.length false)) a' w.drew) is a) :
    (Code.region id l.toArray true).wp P Q a w := by
  have hR' : ∀ c a' w, a'.defers = a.defers → R c w → Q (.panic c) a' w := fun c a' w hd hr => by
    have := hR c a'.tmps w hr
    obtain ⟨t, d⟩ := a'
    dsimp only at hd this
    subst hd
    exact this
  refine wp_region_any hm (wpAny_of_P (C := C) (L := L) (R := R) (Q := fun a w => Q .normal a w) a (fun _ _ h => h) hR' _ _ _ _ rfl ?_)
  have hk := wpAnyP_idx (md := .any) (L := L) (R := R) hcl (Q := fun a w => Q .normal a w) hs m w.drew hw is (Array.replicate l.length false) a hL hB h
  have e : is.length + m = l.toArray.size := by simp; omega
  rw [e] at hk
  simpa using hk
theorem wpAnyP_one {Q : Act → World → Prop} {i fuel : Nat} {listed : Array Bool} {a : Act} {w : World} (hr : Region.ready md ops listed = [i])
    (h : ∀ w', Bl w w' → pOp P R ops i (fun a'' w'' => (i ∉ L → C w'') ∧ wpAnyP P R md ops C L Q fuel (listed.setIfInBounds i true) a'' w'') a w') : wpAnyP P R md ops C L Q (fuel + 1) listed a w :=
  ⟨fun h0 => (by rw [hr] at h0; cases h0), fun j hj => by
    rw [hr, List.mem_singleton] at hj; subst hj; exact h⟩
theorem wpAnyP_done {Q : Act → World → Prop} {fuel : Nat} {listed : Array Bool} {a : Act} {w : World} (hr : Region.ready md ops listed = []) (h : ∀ w', Bl w w' → Q a w') : wpAnyP P R md ops C L Q fuel listed a w := by
  cases fuel with
  | zero => exact ⟨hr, h⟩
  | succ fuel => exact ⟨fun _ => h, fun i hi => by rw [hr] at hi; cases hi⟩
end
end Go.Proofs.YtkpikmfijcffiaaGreat

set_option linter.unusedVariables false
set_option linter.unusedSimpArgs false
namespace Go.Proofs.YtkpikmfijcffiaaGreat
open Go.RowKit
attribute [local go_sem] eOp eOper eUpon pOp pOper pUpon

section
variable {P : Program} {ops : Array Oper} {md : Region.Mode} {C : World → Prop} {R : List PanicEntry → World → Prop} {L : List Nat}
/-- does the j-th stand behind the i-th, through whatever others? -/
def behindT (md : Region.Mode) (ops : Array Oper) (i : Nat) : Nat → Nat → Bool
  | 0, _ => false
  | f + 1, j => match ops[j]? with
    | none => false
    | some o => o.after.any fun e => Region.binds md e && (e.on == i || behindT md ops i f e.on)
/-- what is listed has all that it stands behind listed -/
def Clo (md : Region.Mode) (ops : Array Oper) (listed : Array Bool) : Prop := ∀ j o, ops[j]? = some o → listed.getD j false = true → ∀ e ∈ o.after, Region.binds md e = true → listed.getD e.on false = true
theorem Clo.behind {md : Region.Mode} {ops : Array Oper} {listed : Array Bool} {i : Nat} (h : Clo md ops listed) : ∀ f j, listed.getD j false = true → behindT md ops i f j = true → listed.getD i false = true
  | 0, _, _, hb => by cases hb
  | f + 1, j, hj, hb => by
    unfold behindT at hb
    split at hb
    · cases hb
    · rename_i o ho
      obtain ⟨e, he, hb⟩ := Array.any_eq_true'.1 hb
      simp only [Bool.and_eq_true, Bool.or_eq_true, beq_iff_eq] at hb
      have h1 := h j o ho hj e he hb.1
      rcases hb.2 with h2 | h2
      · rw [← h2]; exact h1
      · exact Clo.behind h f e.on h1 h2
theorem ready_behind {md : Region.Mode} {ops : Array Oper} {listed : Array Bool} {i j : Nat} (h : Clo md ops listed) (hj : j ∈ Region.ready md ops listed) {f : Nat} (hb : behindT md ops i f j = true) : listed.getD i false = true := by
  obtain ⟨_, o, ho, hall⟩ := mem_ready.1 hj
  cases f with
  | zero => cases hb
  | succ f =>
    unfold behindT at hb
    rw [ho] at hb
    obtain ⟨e, he, hb⟩ := Array.any_eq_true'.1 hb
    simp only [Bool.and_eq_true, Bool.or_eq_true, beq_iff_eq] at hb
    have h1 := hall e he hb.1
    rcases hb.2 with h2 | h2
    · rw [← h2]; exact h1
    · exact h.behind f e.on h1 h2
theorem Clo.set {md : Region.Mode} {ops : Array Oper} {listed : Array Bool} {j : Nat} (h : Clo md ops listed) (hj : j ∈ Region.ready md ops listed) : Clo md ops (listed.setIfInBounds j true) := by
  intro k o hk hl e he hb
  by_cases hkj : k = j
  · subst hkj
    obtain ⟨_, o', ho', hall⟩ := mem_ready.1 hj
    rw [hk] at ho'
    obtain rfl := Option.some.inj ho'
    exact getD_set_true (hall e he hb)
  · rw [getD_set_ne false (Ne.symm hkj)] at hl
    exact getD_set_true (h k o hk hl e he hb)
theorem Clo.none (md : Region.Mode) (ops : Array Oper) (n : Nat) : Clo md ops (Array.replicate n false) := by
  intro j o _ hl
  exfalso
  rcases Nat.lt_or_ge j n with h | h
  · simp [h] at hl
  · simp [h] at hl
theorem wpAnyP_firstT (hcl : ∀ w w', C w → Bl w w' → C w') {Q : Act → World → Prop} {i : Nat} {oi : Oper} {v : Value} (hi : ops[i]? = some oi) (hsel : ∀ (j : Nat) (o : Oper) cs b, ops[j]? = some o → o.op ≠ .select cs b) :
    (L.all fun j => behindT md ops i ops.size j) = true → ∀ (fuel : Nat) (listed : Array Bool) (a : Act) (w : World), Clo md ops listed → C w →
      (∀ j oj, ops[j]? = some oj → j ≠ i → listed.getD j true = false → (∀ e ∈ oj.after, Region.binds md e = true → e.on ≠ i) → oi.apart ops oj = true) →
      i ∈ Region.ready md ops listed → YE P ops C oi v a →
      wpAnyP P R md ops C L Q fuel (listed.setIfInBounds i true) (a.put oi.dst v) w → wpAnyP P R md ops C L Q (fuel + 1) listed a w := by
  intro hL fuel
  induction fuel with
  | zero =>
    intro listed a w hclo hb _ hr hy H
    refine ⟨fun h => (by rw [h] at hr; cases hr), fun j hj w' hb' => ?_⟩
    by_cases hji : j = i
    · subst hji; exact hy.pOp hi (hcl _ _ hb hb') fun w'' hb'' => ⟨fun _ => hcl _ _ hb (hb'.trans hb''), wpAnyP_ext (hb'.trans hb'') H⟩
    · have := ready_mono hj hji
      rw [H.1] at this
      cases this
  | succ fuel ih =>
    intro listed a w hclo hb hfree hr hy H
    refine ⟨fun h => (by rw [h] at hr; cases hr), fun j hj w' hb' => ?_⟩
    by_cases hji : j = i
    · subst hji; exact hy.pOp hi (hcl _ _ hb hb') fun w'' hb'' => ⟨fun _ => hcl _ _ hb (hb'.trans hb''), wpAnyP_ext (hb'.trans hb'') H⟩
    · have h1 := H.2 j (ready_mono hj hji) w' hb'
      obtain ⟨hjun, oj, hoj, hall⟩ := mem_ready.1 hj
      have hnot : ∀ e ∈ oj.after, Region.binds md e = true → e.on ≠ i := fun e he hb heq => by
        have h1 := hall e he hb
        have h0 := (mem_ready.1 hr).1
        rw [heq] at h1
        rcases Nat.lt_or_ge i listed.size with h' | h'
        · simp [h'] at h0 h1; rw [h0] at h1; cases h1
        · simp [Array.getElem?_eq_none h'] at h1
      have hri : i ∈ Region.ready md ops (listed.setIfInBounds j true) := ready_mono hr (Ne.symm hji)
      have h2 := pOp_put hoj (hfree j oj hoj hji hjun hnot) (fun cs b => hsel i oi cs b hi) (fun cs b => hsel j oj cs b hoj) hy h1
      have hfree' : ∀ k ok, ops[k]? = some ok → k ≠ i → (listed.setIfInBounds j true).getD k true = false →
          (∀ e ∈ ok.after, Region.binds md e = true → e.on ≠ i) → oi.apart ops ok = true := fun k ok hk hki hun hno => by
        refine hfree k ok hk hki ?_ hno
        by_cases hjk : j = k
        · subst hjk; exact hjun
        · rw [getD_set_ne true hjk] at hun; exact hun
      refine pOp_mono (fun a' w'' h3 => ?_) h2
      have hjL : j ∉ L := fun hm => by
        have h0 := ready_behind hclo hj (List.all_eq_true.1 hL j hm)
        have h2 := (mem_ready.1 hr).1
        rcases Nat.lt_or_ge i listed.size with h' | h'
        · simp [h'] at h0 h2; rw [h2] at h0; cases h0
        · simp [Array.getElem?_eq_none h'] at h0
      have hC : C w'' := h3.2.1 hjL
      refine ⟨fun _ => hC, ih (listed.setIfInBounds j true) a' w'' (hclo.set hj) hC hfree' hri h3.1 ?_⟩
      rw [Array.setIfInBounds_comm _ _ hji]
      exact h3.2.2

theorem wpAnyP_idxT (hcl : ∀ w w', C w → Bl w w' → C w') {Q : Act → World → Prop} (hs : Region.noSelect ops = true) (m : Nat) (w : World) (hw : C w) : ∀ (is : List Nat) (listed : Array Bool) (a : Act), Clo md ops listed → (is.all fun i => L.all fun j => behindT md ops i ops.size j) = true →
    preB md ops is listed = true → wpI P ops C (fun a' => wpAnyP P R md ops C L Q m (setAll is listed) a' w) is a → wpAnyP P R md ops C L Q (is.length + m) listed a w
  | [], _, _, _, _, _, h => by rw [List.length_nil, Nat.zero_add]; exact h
  | i :: is, listed, a, hclo, hbe, hB, h => by
    simp only [preB, Bool.and_eq_true] at hB
    simp only [List.all_cons, Bool.and_eq_true] at hbe
    obtain ⟨⟨hr, hf⟩, hB'⟩ := hB
    obtain ⟨o, h0, h⟩ := h
    rw [List.length_cons, show is.length + 1 + m = (is.length + m) + 1 by omega]
    have key : ∀ v, YE P ops C o v a → wpI P ops C (fun a' => wpAnyP P R md ops C L Q m (setAll (i :: is) listed) a' w) is (a.put o.dst v) → wpAnyP P R md ops C L Q (is.length + m + 1) listed a w := fun v hy hK =>
      wpAnyP_firstT hcl h0 (Region.noSelect_spec hs) hbe.1 (is.length + m) listed a w hclo hw (Region.free_spec h0 hf) (by simpa using hr) hy
        (wpAnyP_idxT hcl hs m w hw is _ _ (hclo.set (by simpa using hr)) hbe.2 hB' hK)
    split at h
    · rename_i hw
      obtain ⟨v, hv, hK⟩ := h
      exact key v (.inl ⟨hw, fun w hb => hv ⟨w, hb⟩⟩) hK
    · rename_i hw
      exact key undef (.inr ⟨by simpa using hw, rfl⟩) h
/-- a region of which the named operations only tell or call and may be taken first; the others may panic; C need not hold behind those of L -/
theorem wp_region_panicsT {id : Nat} {Q : Exit → Act → World → Prop} {a : Act} {w : World} {l : List Oper} (is : List Nat) (m : Nat) (C : World → Prop) (hcl : ∀ w w', C w → Bl w w' → C w') (hw : C w.drew) (L : List Nat) (R : List PanicEntry → World → Prop) (hR : ∀ c t w, R c w → Q (.panic c) { a with tmps := t } w)
    (hm : P.follows .mixedOrders = true) (hn : l.length = is.length + m)
    (hs : Region.noSelect l.toArray = true) (hL : (is.all fun i => L.all fun j => behindT .any l.toArray i l.toArray.size j) = true) (hB : preB .any l.toArray is (Array.replicate l.length false) = true)
    (h : wpI P l.toArray C (fun a' => wpAnyP P R .any l.toArray C L (fun a w => Q .normal a w) m (setAll is (Array.replicate l.length false)) a' w.drew) is a) :
    (Code.region id l.toArray true).wp P Q a w := by
  have hR' : ∀ c a' w, a'.defers = a.defers → R c w → Q (.panic c) a' w := fun c a' w hd hr => by
    have := hR c a'.tmps w hr
    obtain ⟨t, d⟩ := a'
    dsimp only at hd this
    subst hd
    exact this
  refine wp_region_any hm (wpAny_of_P (C := C) (L := L) (R := R) (Q := fun a w => Q .normal a w) a (fun _ _ h => h) hR' _ _ _ _ rfl ?_)
  have hk := wpAnyP_idxT (md := .any) (L := L) (R := R) hcl (Q := fun a w => Q .normal a w) hs m w.drew hw is (Array.replicate l.length false) a (Clo.none _ _ _) hL hB h
  have e : is.length + m = l.toArray.size := by simp; omega
  rw [e] at hk
  simpa using hk
end
section
variable {ops : Array Oper}
theorem pOp_appG {R : List PanicEntry → World → Prop} {i : Nat} {o : Oper} {a : Act} {w : World} {K : Act → World → Prop} (ho' : ops[i]? = some o) (hgd : o.guard = none) (s x : Operand) (T : TypeId)
    (ho : o.op = .call { callee := .builtin .append, args := #[s, x], argTypes := #[T, T] }) {E : TypeId} {size bytes : Nat} (hT : EL T E size bytes) (B : Nat) (v : Value) (n : Nat) (xs : List Value) (hs : a.eval s = v) (hown : w.ownsRow B E size v n xs) (hB : B ≤ w.heap.size)
    (ad : Option Addr) (m c : Nat) (news : List Value) (hx : a.eval x = .slice ad m c) (hsc : SG w size ad m news) (h63 : n + m ≤ maxLen) (hbytes : (n + m) * bytes ≤ 140737488355328)
    (h : ∀ v' w', w'.ownsRow B E size v' (n + m) (xs ++ news) → w.grownBy w' v.ownBlock → K (a.put o.dst v') w') : pOp Tryz.prog R ops i K a w := by
  obtain ⟨v', w', hr, h2, h3⟩ := run_appG hT o.type v n xs hown ad m c news hsc h63 hbytes hB
  unfold pOp
  simp only [ho']
  rw [if_pos (by simp [Region.wanted, hgd])]
  unfold pOper execOp
  simp only [ho, resolve, invoke, builtin, Sem.run_bind, Sem.run_pure, Result.andThen_ok, List.map_toArray, List.map_cons, List.map_nil, hs, hx, hr, pUpon]
  exact h v' w' h2 h3
end
/-- worlds that hold a box -/
def HasBox (g : Nat) (cs : List Value) (W' : World) : Prop := AC W' g cs
theorem HasBox.keep {g : Nat} {cs : List Value} (w w' : World) (h : HasBox g cs w) (k : Bl w w') : HasBox g cs w' := AC.keep h k
end Go.Proofs.YtkpikmfijcffiaaGreat
end
