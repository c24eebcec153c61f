import Derived.Test.YtdjlnpiaehoofaaCore2
import Derived.Deep.QuietTactic
import Derived.Test.YtdjlnpiaehoofaaCore1
import Derived.Outline
import Derived.Deep.DeepCutAuto
import Derived.Deep.RegionHeld3
import Derived.Recover
import Derived.Laws.Pointers
import Derived.WalkLawsBesides
import Derived.StillTailTactics

/- op.Both. By an AI agent. -/
section
namespace Go.Proofs.Ytdjlnpiaehoofaa
open Go.RowKit

/-- the three boxes of op.Both -/
structure B3 (w W : World) (k : Int) (x : Nat) (n : Int) (s : ByteArray) (l : Int) (y : Nat) (m : Int) (t : ByteArray) : Prop where
  bl : Bl w W
  a : AC W w.heap.size [.int .i64 k, .float .f64 x, .int .i64 n, .string s]
  b : AC W (w.heap.size + 1) [.int .i64 l, .float .f64 y, .int .i64 m, .string t]
  r : AC W (w.heap.size + 1 + 1) [.int .i64 0, .float .f64 0, .int .i64 0, .string ⟨#[]⟩]
theorem B3.keep {w W W' : World} {k : Int} {x : Nat} {n : Int} {s : ByteArray} {l : Int} {y : Nat} {m : Int} {t : ByteArray} (h : B3 w W k x n s l y m t) (hb : Bl W W') : B3 w W' k x n s l y m t :=
  ⟨h.bl.trans hb, h.a.keep hb, h.b.keep hb, h.r.keep hb⟩
theorem B3.new (w : World) (k : Int) (x : Nat) (n : Int) (s : ByteArray) (l : Int) (y : Nat) (m : Int) (t : ByteArray) (T U V : TypeId) :
    B3 w (((w.alloc (.cells #[.int .i64 k, .float .f64 x, .int .i64 n, .string s] T)).alloc (.cells #[.int .i64 l, .float .f64 y, .int .i64 m, .string t] U)).alloc (.cells #[.int .i64 0, .float .f64 0, .int .i64 0, .string ⟨#[]⟩] V)) k x n s l y m t := by
  refine ⟨(((Bl.refl w).alloc _).alloc _).alloc _, ?_, ?_, ?_⟩
  · exact ((AC.new w _ rfl [_, _, _, _] _).keep ((Bl.refl _).alloc _)).keep ((Bl.refl _).alloc _)
  · exact (AC.new _ (w.heap.size + 1) (by simp) [_, _, _, _] _).keep ((Bl.refl _).alloc _)
  · exact AC.new _ (w.heap.size + 1 + 1) (by simp) [_, _, _, _] _

set_option maxHeartbeats 1600000 in
set_option maxRecDepth 100000 in
theorem both_any (key : ByteArray) (a b : ActL) (w : World) (hkey : key.size ≤ 140737488351232) (oa : a.Ok) (ob : b.Ok) :
    Calls Try.prog 45 #[.string key, a.v, b.v] w fun e w' => e = .returned (bothL key a b).v ∧ Bl w w' := by
  obtain ⟨k, x, n, s⟩ := a
  obtain ⟨l, y, m, t⟩ := b
  have hsf := store_float
  have OA := Lib.hid oa
  have OB := Lib.hid ob
  clear oa ob
  show Calls Try.prog 45 #[.string key, .agg #[.int .i64 k, .float .f64 x, .int .i64 n, .string s], .agg #[.int .i64 l, .float .f64 y, .int .i64 m, .string t]] w _
  cases hr : regB key
  · have HR := Lib.hid hr
    go_enter Try.func45, Try.ntmps45
    go_wp2_with fail
    refine (registers_any key _ hkey).mono ?_
    rintro e w' ⟨rfl, rfl⟩
    rw [hr]
    clear hr
    go_wp2_with fail
    refine (fits_any key ⟨k, x, n, s⟩ _ hkey OA.out).mono ?_
    rintro e w1 ⟨rfl, hb1⟩
    have G := (B3.new w k x n s l y m t _ _ _).keep hb1
    clear hb1
    obtain ⟨a0, a1, a2, a3⟩ := G.a.act
    obtain ⟨b0, b1, b2, b3⟩ := G.b.act
    obtain ⟨r0, r1, r2, r3⟩ := G.r.act
    have f0 := G.r.frozen 0
    have f1 := G.r.frozen 1
    have f2 := G.r.frozen 2
    have f3 := G.r.frozen 3
    cases hf : fitsB key ⟨k, x, n, s⟩
    · have HF := Lib.hid (show bothL key ⟨k, x, n, s⟩ ⟨l, y, m, t⟩ = ⟨l, y, m, t⟩ by simp [bothL, hf])
      clear hf
      go_wp2_with fail
      rw [HF.out]
      refine bodyPost_ret (v := ActL.v ⟨l, y, m, t⟩) (by simp [results, Try.results45, go_sem, ActL.v, r0, r1, r2, r3]) rfl ⟨rfl, ?_⟩
      exact G.bl.store4 (by omega) _ _ _ _
    · have HFA := Lib.hid hf
      clear hf
      go_wp2_with fail
      refine (fits_any key ⟨l, y, m, t⟩ _ hkey OB.out).mono ?_
      rintro e w2 ⟨rfl, hb2⟩
      have G := G.keep hb2
      clear hb2 a0 a1 a2 a3 b0 b1 b2 b3 r0 r1 r2 r3 f0 f1 f2 f3
      obtain ⟨a0, a1, a2, a3⟩ := G.a.act
      obtain ⟨b0, b1, b2, b3⟩ := G.b.act
      obtain ⟨r0, r1, r2, r3⟩ := G.r.act
      have f0 := G.r.frozen 0
      have f1 := G.r.frozen 1
      have f2 := G.r.frozen 2
      have f3 := G.r.frozen 3
      cases hf : fitsB key ⟨l, y, m, t⟩
      · have HF := Lib.hid (show bothL key ⟨k, x, n, s⟩ ⟨l, y, m, t⟩ = ⟨l, y, m, t⟩ by simp [bothL, hf])
        clear hf
        go_wp2_with fail
        rw [HF.out]
        refine bodyPost_ret (v := ActL.v ⟨l, y, m, t⟩) (by simp [results, Try.results45, go_sem, ActL.v, r0, r1, r2, r3]) rfl ⟨rfl, ?_⟩
        exact G.bl.store4 (by omega) _ _ _ _
      · have HF := Lib.hid (show bothL key ⟨k, x, n, s⟩ ⟨l, y, m, t⟩ = joined ⟨k, x, n, s⟩ ⟨l, y, m, t⟩ by simp [bothL, hf, HFA.out, HR.out])
        clear hf
        go_wp2_with fail
        refine (joined_any ⟨k, x, n, s⟩ ⟨l, y, m, t⟩ _ OA.out OB.out).mono ?_
        rintro e w3 ⟨rfl, hb3⟩
        have G := G.keep hb3
        clear hb3 a0 a1 a2 a3 b0 b1 b2 b3 r0 r1 r2 r3 f0 f1 f2 f3
        obtain ⟨r0, r1, r2, r3⟩ := G.r.act
        have f0 := G.r.frozen 0
        have f1 := G.r.frozen 1
        have f2 := G.r.frozen 2
        have f3 := G.r.frozen 3
        generalize joined ⟨k, x, n, s⟩ ⟨l, y, m, t⟩ = J at *
        obtain ⟨jk, jx, jn, js⟩ := J
        rw [show ActL.v ⟨jk, jx, jn, js⟩ = .agg #[.int .i64 jk, .float .f64 jx, .int .i64 jn, .string js] from rfl]
        go_wp2_with fail
        rw [HF.out]
        refine bodyPost_ret (v := ActL.v ⟨jk, jx, jn, js⟩) (by simp [results, Try.results45, go_sem, ActL.v, r0, r1, r2, r3]) rfl ⟨rfl, ?_⟩
        exact G.bl.store4 (by omega) _ _ _ _
  · have HF := Lib.hid (show bothL key ⟨k, x, n, s⟩ ⟨l, y, m, t⟩ = ⟨l, y, m, t⟩ by simp [bothL, hr])
    go_enter Try.func45, Try.ntmps45
    go_wp2_with fail
    refine (registers_any key _ hkey).mono ?_
    rintro e w' ⟨rfl, rfl⟩
    rw [hr]
    clear hr
    go_wp2_with fail
    rw [HF.out]
    refine bodyPost_ret (v := ActL.v ⟨l, y, m, t⟩) (by simp [results, Try.results45, go_sem, ActL.v]) rfl ⟨rfl, ?_⟩
    exact (((Bl.refl w).alloc _).alloc _).alloc _

end Go.Proofs.Ytdjlnpiaehoofaa
end

/- Regions that draw their order and whose calls make memory: an operation that tells the same in every world that goes on from the region's first one, and only goes on from the world that it got, may be taken first. · Regions that draw their order: the operations that may be taken first, named by their numbers. By an AI agent. -/
section
namespace Go.Proofs.Ytdjlnpiaehoofaa
open Go.RowKit

/-- a world of a class -/
def ExtC (C : World → Prop) : Type := { w' : World // C w' }
def ExtC.at {C : World → Prop} (n : ExtC C) : World := n.val
theorem ExtC.ok {C : World → Prop} (n : ExtC C) : C n.at := n.property
/-- a world that goes on from w -/
abbrev Ext (w : World) : Type := ExtC (Bl w)
theorem ExtC.bl {w : World} (n : Ext w) : Bl w n.at := n.property
instance (w : World) : Nonempty (Ext w) := ⟨⟨w, Bl.refl w⟩⟩

section
variable {P : Program} {ops : Array Oper} {md : Region.Mode} {C : World → Prop}

/-- what is asked of an operation: it returns -/
def eUpon (P : Program) (o : Oper) (a : Act) (K : Act → World → Prop) : Result Next → Prop
  | .ok (.value u) w' => K (a.put o.dst u) w'
  | .ok .skip w' => K (a.put o.dst undef) w'
  | .ok (.enter f args) w' => Calls P f args w' (fun e w'' => ∃ v, e = .returned v ∧ K (a.put o.dst v) w'')
  | _ => False
def eOper (P : Program) (o : Oper) (a : Act) (w : World) (K : Act → World → Prop) : Prop := eUpon P o a K ((execOp a.eval o).run P w)
def eOp (P : Program) (ops : Array Oper) (i : Nat) (K : Act → World → Prop) (a : Act) (w : World) : Prop :=
  match ops[i]? with
  | none => K a w
  | some o => if Region.wanted o (yielded ops a.tmps) then eOper P o a w K else K (a.put o.dst undef) w

theorem eUpon_mono {o : Oper} {a : Act} {K K' : Act → World → Prop} (h : ∀ a w, K a w → K' a w) {r : Result Next} (hh : eUpon P o a K r) : eUpon P o a K' r := by
  cases r with
  | ok n w' =>
    cases n <;> simp only [eUpon] at hh ⊢
    case value u => exact h _ _ hh
    case skip => exact h _ _ hh
    case enter f args => exact hh.mono fun e w'' ⟨v, he, hk⟩ => ⟨v, he, h _ _ hk⟩
  | halt x w' => simp only [eUpon] at hh
theorem eOp_mono {i : Nat} {a : Act} {w : World} {K K' : Act → World → Prop} (h : ∀ a w, K a w → K' a w) (hh : eOp P ops i K a w) : eOp P ops i K' a w := by
  unfold eOp at *
  split
  · exact h _ _ (by simpa [*] using hh)
  · rename_i o ho
    simp only [ho] at hh
    split
    · rename_i hw; simp only [hw, if_true] at hh; exact eUpon_mono h hh
    · rename_i hw; simp only [hw] at hh; exact h _ _ hh
theorem wpOp_of_eOp {i : Nat} {a : Act} {w : World} {K : Act → World → Prop} {Q : Exit → Act → World → Prop} (hh : eOp P ops i K a w) : wpOp P ops Q i K a w := by
  unfold eOp at hh
  unfold wpOp
  split
  · rename_i ho; simp only [ho] at hh; exact hh
  · rename_i o ho
    simp only [ho] at hh
    split
    · rename_i hw
      simp only [hw, if_true] at hh
      refine .inl ?_
      unfold eOper at hh
      unfold Oper.wp
      generalize (execOp a.eval o).run P w = r at *
      cases r with
      | ok n w' =>
        cases n <;> simp only [eUpon] at hh <;> simp only [Oper.upon]
        case value u => exact hh
        case skip => exact hh
        case enter f args => exact hh.mono fun e w'' ⟨v, he, hk⟩ => by subst he; exact hk
      | halt x w' => simp only [eUpon] at hh
    · rename_i hw; simp only [hw] at hh; exact hh

/-- whatever order is picked from here on, and whatever is laid behind meanwhile -/
def wpAnyE (P : Program) (md : Region.Mode) (ops : Array Oper) (C : World → Prop) (Q : Act → World → Prop) : Nat → Array Bool → Act → World → Prop
  | 0, listed, a, w => Region.ready md ops listed = [] ∧ ∀ w', Bl w w' → Q a w'
  | fuel + 1, listed, a, w =>
    (Region.ready md ops listed = [] → ∀ w', Bl w w' → Q a w') ∧
    ∀ i ∈ Region.ready md ops listed, ∀ w', Bl w w' → eOp P ops i (fun a'' w'' => C w'' ∧ wpAnyE P md ops C Q fuel (listed.setIfInBounds i true) a'' w'') a w'

theorem wpAnyE_ext {Q : Act → World → Prop} : ∀ {fuel : Nat} {listed : Array Bool} {a : Act} {w w' : World}, Bl w w' → wpAnyE P md ops C Q fuel listed a w → wpAnyE P md ops C Q fuel listed a w'
  | 0, _, _, _, _, hb, h => ⟨h.1, fun w'' h2 => h.2 w'' (hb.trans h2)⟩
  | _ + 1, _, _, _, _, hb, h => ⟨fun h0 w'' h2 => h.1 h0 w'' (hb.trans h2), fun i hi w'' h2 => h.2 i hi w'' (hb.trans h2)⟩
theorem wpAny_of_E {Q : Act → World → Prop} {Q' : Exit → Act → World → Prop} (hQ : ∀ a w, Q a w → Q' .normal a w) : ∀ (fuel : Nat) (listed : Array Bool) (a : Act) (w : World),
    wpAnyE P md ops C Q fuel listed a w → wpAny P md ops Q' fuel listed a w
  | 0, _, _, _, h => ⟨h.1, hQ _ _ (h.2 _ (Bl.refl _))⟩
  | fuel + 1, _, _, _, h => ⟨fun h0 => hQ _ _ (h.1 h0 _ (Bl.refl _)), fun i hi => wpOp_mono (fun _ _ k => wpAny_of_E hQ fuel _ _ _ k.2) (wpOp_of_eOp (h.2 i hi _ (Bl.refl _)))⟩

/-- in every world that goes on from C the operation yields v and goes on from the world that it got -/
def YE (P : Program) (ops : Array Oper) (C : World → Prop) (o : Oper) (v : Value) (a : Act) : Prop :=
  (Region.wanted o (yielded ops a.tmps) = true ∧ ∀ w, C w → o.quietAt P a (fun w'' => Bl w w'') w v) ∨
  (Region.wanted o (yielded ops a.tmps) = false ∧ v = undef)
theorem YE.of_same {o : Oper} {v : Value} {a a' : Act} (hy : YE P ops C o v a) (he : execOp a'.eval o = execOp a.eval o)
    (hw : Region.wanted o (yielded ops a'.tmps) = Region.wanted o (yielded ops a.tmps)) : YE P ops C o v a' := by
  unfold YE Oper.quietAt at *
  rw [he, hw]
  exact hy
theorem YE.eOp {i : Nat} {o : Oper} {v : Value} {a : Act} {w : World} (hi : ops[i]? = some o) (hy : YE P ops C o v a) (hw0 : C w) {K : Act → World → Prop} (h : ∀ w', Bl w w' → K (a.put o.dst v) w') : eOp P ops i K a w := by
  unfold Go.Proofs.Ytdjlnpiaehoofaa.eOp
  simp only [hi]
  rcases hy with ⟨hw, hv⟩ | ⟨hw, rfl⟩
  · simp only [hw, if_true]
    have h3 := hv w hw0
    unfold Oper.quietAt at h3
    unfold eOper
    generalize (execOp a.eval o).run P w = r at *
    cases r with
    | ok n w' =>
      cases n <;> simp only [Oper.quietUpon] at h3 <;> simp only [eUpon]
      case value u =>
        obtain ⟨e1, e2⟩ := h3
        rw [e1, e2]; exact h _ (Bl.refl _)
      case skip =>
        obtain ⟨e1, e2⟩ := h3
        rw [e1, ← e2]; exact h _ (Bl.refl _)
      case enter f args =>
        obtain ⟨e1, hc⟩ := h3
        rw [e1]
        exact hc.mono fun e w'' ⟨he, hb⟩ => ⟨v, he, h _ hb⟩
    | halt x w' => simp only [Oper.quietUpon] at h3
  · simp only [hw, Bool.false_eq_true, if_false]; exact h _ (Bl.refl _)

/-- one operation, apart from another one whose value may be there already or not -/
theorem eOp_put {j : Nat} {oi oj : Oper} {v : Value} (hj : ops[j]? = some oj) (hap : oi.apart ops oj = true)
    (hsi : ∀ cs b, oi.op ≠ .select cs b) (hsj : ∀ cs b, oj.op ≠ .select cs b) {K : Act → World → Prop} {a : Act} {w : World}
    (hy : YE P ops C oi v a) (h : eOp P ops j K (a.put oi.dst v) w) :
    eOp P ops j (fun a' w' => YE P ops C oi v a' ∧ K (a'.put oi.dst v) w') a w := by
  obtain ⟨h1, h2, h3⟩ := Oper.apart_spec hap
  have keep : ∀ (a : Act), YE P ops C oi v a → ∀ u, YE P ops C oi v (a.put oj.dst u) := fun a hy u =>
    hy.of_same (execOp_put oi hsi a oj.dst u h3) (wanted_put oi a oj.dst u h3)
  unfold Go.Proofs.Ytdjlnpiaehoofaa.eOp at *
  simp only [hj] at *
  rw [wanted_put oj a oi.dst v h1] at h
  split
  · rename_i hw
    simp only [hw, if_true] at h
    unfold eOper at *
    rw [execOp_put oj hsj a oi.dst v h1] at h
    generalize (execOp a.eval oj).run P w = r at *
    cases r with
    | ok n w' =>
      cases n <;> simp only [eUpon] at h ⊢
      case value u => exact ⟨keep a hy u, by rw [← Act.put_comm a v u h2]; exact h⟩
      case skip => exact ⟨keep a hy _, by rw [← Act.put_comm a v undef h2]; exact h⟩
      case enter f args => exact h.mono fun e w'' ⟨u, he, hk⟩ => ⟨u, he, keep a hy u, by rw [← Act.put_comm a v u h2]; exact hk⟩
    | halt x w' => simp only [eUpon] at h
  · rename_i hw
    simp only [hw] at h
    exact ⟨keep a hy _, by rw [← Act.put_comm a v undef h2]; exact h⟩

theorem wpAnyE_first (hcl : ∀ w w', C w → Bl w w' → C w') {Q : Act → World → Prop} {i : Nat} {oi : Oper} {v : Value} (hi : ops[i]? = some oi) (hsel : ∀ (j : Nat) (o : Oper) cs b, ops[j]? = some o → o.op ≠ .select cs b) :
    ∀ (fuel : Nat) (listed : Array Bool) (a : Act) (w : World), C w →
      (∀ j oj, ops[j]? = some oj → j ≠ i → listed.getD j true = false → (∀ e ∈ oj.after, Region.binds md e = true → e.on ≠ i) → oi.apart ops oj = true) →
      i ∈ Region.ready md ops listed → YE P ops C oi v a →
      wpAnyE P md ops C Q fuel (listed.setIfInBounds i true) (a.put oi.dst v) w → wpAnyE P md ops C Q (fuel + 1) listed a w := by
  intro fuel
  induction fuel with
  | zero =>
    intro listed a w hb _ hr hy H
    refine ⟨fun h => (by rw [h] at hr; cases hr), fun j hj w' hb' => ?_⟩
    by_cases hji : j = i
    · subst hji; exact hy.eOp hi (hcl _ _ hb hb') fun w'' hb'' => ⟨hcl _ _ hb (hb'.trans hb''), wpAnyE_ext (hb'.trans hb'') H⟩
    · have := ready_mono hj hji
      rw [H.1] at this
      cases this
  | succ fuel ih =>
    intro listed a w hb hfree hr hy H
    refine ⟨fun h => (by rw [h] at hr; cases hr), fun j hj w' hb' => ?_⟩
    by_cases hji : j = i
    · subst hji; exact hy.eOp hi (hcl _ _ hb hb') fun w'' hb'' => ⟨hcl _ _ hb (hb'.trans hb''), wpAnyE_ext (hb'.trans hb'') H⟩
    · have h1 := H.2 j (ready_mono hj hji) w' hb'
      obtain ⟨hjun, oj, hoj, hall⟩ := mem_ready.1 hj
      have hnot : ∀ e ∈ oj.after, Region.binds md e = true → e.on ≠ i := fun e he hb heq => by
        have h1 := hall e he hb
        have h0 := (mem_ready.1 hr).1
        rw [heq] at h1
        rcases Nat.lt_or_ge i listed.size with h' | h'
        · simp [h'] at h0 h1; rw [h0] at h1; cases h1
        · simp [Array.getElem?_eq_none h'] at h1
      have h2 := eOp_put hoj (hfree j oj hoj hji hjun hnot) (fun cs b => hsel i oi cs b hi) (fun cs b => hsel j oj cs b hoj) hy h1
      have hfree' : ∀ k ok, ops[k]? = some ok → k ≠ i → (listed.setIfInBounds j true).getD k true = false →
          (∀ e ∈ ok.after, Region.binds md e = true → e.on ≠ i) → oi.apart ops ok = true := fun k ok hk hki hun hno => by
        refine hfree k ok hk hki ?_ hno
        by_cases hjk : j = k
        · subst hjk; exact hjun
        · rw [getD_set_ne true hjk] at hun; exact hun
      refine eOp_mono (fun a' w'' h3 => ⟨h3.2.1, ih (listed.setIfInBounds j true) a' w'' h3.2.1 hfree' (ready_mono hr (Ne.symm hji)) h3.1 ?_⟩) h2
      rw [Array.setIfInBounds_comm _ _ hji]
      exact h3.2.2

/-! the lexical walk of the first operations -/
def wpE (P : Program) (ops : Array Oper) (C : World → Prop) (Q : Act → Prop) : List Oper → Act → Prop
  | [], a => Q a
  | o :: rest, a => if Region.wanted o (yielded ops a.tmps) then ∃ v, (∀ n : ExtC C, o.quietAt P a (fun w'' => Bl n.at w'') n.at v) ∧ wpE P ops C Q rest (a.put o.dst v) else wpE P ops C Q rest (a.put o.dst undef)
theorem wpE_nil {Q : Act → Prop} {a : Act} (h : Q a) : wpE P ops C Q [] a := h
theorem wpE_step {Q : Act → Prop} {a : Act} {o : Oper} {rest : List Oper}
    (h : ∀ K : Act → Prop, (∀ a, wpE P ops C Q rest a → K a) → if Region.wanted o (yielded ops a.tmps) then ∃ v, (∀ n : ExtC C, o.quietAt P a (fun w'' => Bl n.at w'') n.at v) ∧ K (a.put o.dst v) else K (a.put o.dst undef)) : wpE P ops C Q (o :: rest) a :=
  h _ (fun _ h => h)
/-- may the next n operations, from k on, be taken first, one behind the other? -/
def lexPre (md : Region.Mode) (ops : Array Oper) : Nat → Nat → Array Bool → Bool
  | 0, _, _ => true
  | n + 1, k, listed => (Region.ready md ops listed).contains k && Region.free md ops listed k && lexPre md ops n (k + 1) (listed.setIfInBounds k true)
def lexSet : Nat → Nat → Array Bool → Array Bool
  | 0, _, listed => listed
  | n + 1, k, listed => lexSet n (k + 1) (listed.setIfInBounds k true)
theorem wpAnyE_lex (hcl : ∀ w w', C w → Bl w w' → C w') {Q : Act → World → Prop} (hs : Region.noSelect ops = true) (m : Nat) (w : World) (hw : C w) : ∀ (l : List Oper) (k : Nat) (listed : Array Bool) (a : Act), (∀ j o, l[j]? = some o → ops[k + j]? = some o) →
    lexPre md ops l.length k listed = true → wpE P ops C (fun a' => wpAnyE P md ops C Q m (lexSet l.length k listed) a' w) l a → wpAnyE P md ops C Q (l.length + m) listed a w
  | [], _, _, _, _, _, h => by rw [List.length_nil, Nat.zero_add]; exact h
  | o :: l, k, listed, a, hl, hB, h => by
    have h0 : ops[k]? = some o := by simpa using hl 0 o rfl
    simp only [List.length_cons, lexPre, Bool.and_eq_true] at hB
    obtain ⟨⟨hr, hf⟩, hB'⟩ := hB
    have hl' : ∀ j o, l[j]? = some o → ops[k + 1 + j]? = some o := fun j o h => by
      have := hl (j + 1) o (by simpa using h)
      rwa [show k + 1 + j = k + (j + 1) by omega]
    rw [List.length_cons, show l.length + 1 + m = (l.length + m) + 1 by omega]
    unfold wpE at h
    have key : ∀ v, YE P ops C o v a → wpE P ops C (fun a' => wpAnyE P md ops C Q m (lexSet (o :: l).length k listed) a' w) l (a.put o.dst v) → wpAnyE P md ops C Q (l.length + m + 1) listed a w := fun v hy hK =>
      wpAnyE_first hcl h0 (Region.noSelect_spec hs) (l.length + m) listed a w hw (Region.free_spec h0 hf) (by simpa using hr) hy
        (wpAnyE_lex hcl hs m w hw l (k + 1) _ _ hl' hB' hK)
    split at h
    · rename_i hw
      obtain ⟨v, hv, hK⟩ := h
      exact key v (.inl ⟨hw, fun w hb => hv ⟨w, hb⟩⟩) hK
    · rename_i hw
      exact key undef (.inr ⟨by simpa using hw, rfl⟩) h

/-- a region whose first n operations only tell or call, whatever comes behind them, at a class of worlds -/
theorem wp_region_extC {id : Nat} {Q : Exit → Act → World → Prop} {a : Act} {w : World} {l : List Oper} (C : World → Prop) (hcl : ∀ w w', C w → Bl w w' → C w') (hw : C w.drew) (n m : Nat) (hm : P.follows .mixedOrders = true) (hn : l.length = n + m)
    (hs : Region.noSelect l.toArray = true) (hB : lexPre .any l.toArray (l.take n).length 0 (Array.replicate l.length false) = true)
    (h : wpE P l.toArray C (fun a' => wpAnyE P .any l.toArray C (fun a w => Q .normal a w) m (lexSet (l.take n).length 0 (Array.replicate l.length false)) a' w.drew) (l.take n) a) :
    (Code.region id l.toArray true).wp P Q a w := by
  refine wp_region_any hm (wpAny_of_E (C := C) (Q := fun a w => Q .normal a w) (fun _ _ h => h) _ _ _ _ ?_)
  have hk := wpAnyE_lex (md := .any) hcl (Q := fun a w => Q .normal a w) hs m w.drew hw (l.take n) 0 (Array.replicate l.length false) a (fun j o h => by
    rw [List.getElem?_take] at h
    split at h
    · simpa using h
    · cases h) hB h
  have e : (l.take n).length + m = l.toArray.size := by simp; omega
  rw [e] at hk
  simpa using hk
/-- .. at the worlds that go on from the region's first one -/
theorem wp_region_ext {id : Nat} {Q : Exit → Act → World → Prop} {a : Act} {w : World} {l : List Oper} (n m : Nat) (hm : P.follows .mixedOrders = true) (hn : l.length = n + m)
    (hs : Region.noSelect l.toArray = true) (hB : lexPre .any l.toArray (l.take n).length 0 (Array.replicate l.length false) = true)
    (h : wpE P l.toArray (Bl w.drew) (fun a' => wpAnyE P .any l.toArray (Bl w.drew) (fun a w => Q .normal a w) m (lexSet (l.take n).length 0 (Array.replicate l.length false)) a' w.drew) (l.take n) a) :
    (Code.region id l.toArray true).wp P Q a w :=
  wp_region_extC (Bl w.drew) (fun _ _ h k => h.trans k) (Bl.refl _) n m hm hn hs hB h
/-- all of them -/
theorem wp_region_extall {id : Nat} {Q : Exit → Act → World → Prop} {a : Act} {w : World} {l : List Oper} (hm : P.follows .mixedOrders = true)
    (hB : Region.lexB .any l.toArray = true)
    (h : wpE P l.toArray (Bl w.drew) (fun a' => ∀ n : Ext w.drew, Q .normal a' n.at) l a) :
    (Code.region id l.toArray true).wp P Q a w := by
  simp only [Region.lexB, Bool.and_eq_true] at hB
  have hpre : ∀ (f k : Nat) (listed : Array Bool), Region.lexFrom .any l.toArray f k listed = true → lexPre .any l.toArray f k listed = true ∧ Region.ready .any l.toArray (lexSet f k listed) = [] := by
    intro f
    induction f with
    | zero => intro k listed h; exact ⟨rfl, by simpa [Region.lexFrom, lexSet] using h⟩
    | succ f ih =>
      intro k listed h
      simp only [Region.lexFrom, Bool.and_eq_true] at h
      have := ih (k + 1) _ h.2
      exact ⟨by simp only [lexPre, Bool.and_eq_true]; exact ⟨h.1, this.1⟩, this.2⟩
  have h2 := hpre _ _ _ hB.2
  have hsz : l.toArray.size = l.length := by simp
  rw [hsz] at h2
  refine wp_region_any hm (wpAny_of_E (C := Bl w.drew) (Q := fun a w => Q .normal a w) (fun _ _ h => h) _ _ _ _ ?_)
  have hk := wpAnyE_lex (P := P) (C := Bl w.drew) (md := .any) (fun _ _ h k => h.trans k) (Q := fun a w => Q .normal a w) hB.1 0 w.drew (Bl.refl _) l 0 (Array.replicate l.length false) a (fun j o h => by simpa using h) h2.1 (by
    have hmono : ∀ (Q1 Q2 : Act → Prop), (∀ a, Q1 a → Q2 a) → ∀ (m : List Oper) (a : Act), wpE P l.toArray (Bl w.drew) Q1 m a → wpE P l.toArray (Bl w.drew) Q2 m a := by
      intro Q1 Q2 hq m
      induction m with
      | nil => exact fun a h => hq a h
      | cons o m ih =>
        intro a h
        unfold wpE at h ⊢
        split at h
        · rename_i hw
          obtain ⟨v, h1, h2⟩ := h
          rw [if_pos hw]; exact ⟨v, h1, ih _ h2⟩
        · rename_i hw
          rw [if_neg hw]; exact ih _ h
    exact hmono _ _ (fun a ha => ⟨h2.2, fun w' hb => ha ⟨w', hb⟩⟩) l a h)
  rw [Nat.add_zero] at hk
  simpa using hk

/-- the operations that are left, one of them at a time -/
theorem wpAnyE_all {Q : Act → World → Prop} {rs : List Nat} {fuel : Nat} {listed : Array Bool} {a : Act} {w : World} (hr : Region.ready md ops listed = rs) (hne : rs ≠ [])
    (h : ∀ i ∈ rs, ∀ w', Bl w w' → eOp P ops i (fun a'' w'' => C w'' ∧ wpAnyE P md ops C Q fuel (listed.setIfInBounds i true) a'' w'') a w') : wpAnyE P md ops C Q (fuel + 1) listed a w :=
  ⟨fun h0 => absurd (hr.symm.trans h0) hne, fun i hi => h i (hr ▸ hi)⟩
theorem wpAnyE_one {Q : Act → World → Prop} {i fuel : Nat} {listed : Array Bool} {a : Act} {w : World} (hr : Region.ready md ops listed = [i])
    (h : ∀ w', Bl w w' → eOp P ops i (fun a'' w'' => C w'' ∧ wpAnyE P md ops C Q fuel (listed.setIfInBounds i true) a'' w'') a w') : wpAnyE P md ops C Q (fuel + 1) listed a w :=
  wpAnyE_all hr (by simp) fun j hj => by
    rw [List.mem_singleton] at hj; subst hj; exact h
theorem wpAnyE_done {Q : Act → World → Prop} {fuel : Nat} {listed : Array Bool} {a : Act} {w : World} (hr : Region.ready md ops listed = []) (h : ∀ w', Bl w w' → Q a w') : wpAnyE P md ops C Q fuel listed a w := by
  cases fuel with
  | zero => exact ⟨hr, h⟩
  | succ fuel => exact ⟨fun _ => h, fun i hi => by rw [hr] at hi; cases hi⟩
/-- 'append' to what the call itself has made, among the operations that are left -/
theorem eOp_append {i : Nat} {o : Oper} {a : Act} {w : World} {K : Act → World → Prop} (ho' : ops[i]? = some o) (hgd : o.guard = none) (s x : Operand) (t : TypeId)
    (ho : o.op = .call { callee := .builtin .append, args := #[s, x], argTypes := #[t, t] })
    (base : Nat) (e : TypeId) (ti : TypeInfo) (z : Value) (size bytes : Nat) (ht : P.underlying t = some (.slice e)) (hi : P.info? e = some ti) (hz : ti.zero = some z)
    (hsize : ti.size = size) (hby : ti.bytes = bytes) (hzs : z.cells.size = size) (hsz : 0 < size)
    (v : Value) (n : Nat) (xs : List Value) (hs : a.eval s = v) (hown : w.ownsRow base e size v n xs)
    (ad : Addr) (m c : Nat) (news : List Value) (hx : a.eval x = .slice (some ad) m c) (hl : news.length = m * size) (hnews : ∀ j u, news[j]? = some u → w.cell? (ad.add j) = some u) (h1 : ∀ u ∈ news, u.oneCell' = true)
    (h63 : n + m ≤ maxLen) (hbytes : (n + m) * bytes ≤ 140737488355328) (hbase : base ≤ w.heap.size)
    (h : ∀ v' w', w'.ownsRow base e size v' (n + m) (xs ++ news) → w.grownBy w' v.ownBlock → (v' = .slice none 0 0 ↔ v = .slice none 0 0 ∧ m = 0) → K (a.put o.dst v') w') : eOp P ops i K a w := by
  obtain ⟨v', w', hr, h2, h3, h4⟩ := run_append_own (P := P) w base t o.type e ti z size bytes ht hi hz hsize hby hzs hsz v n xs hown ad m c news hl hnews h1 h63 hbytes hbase
  unfold eOp
  simp only [ho']
  rw [if_pos (by simp [Region.wanted, hgd])]
  unfold eOper execOp
  simp only [ho, resolve, invoke, builtin, Sem.run_bind, Sem.run_pure, Result.andThen_ok, List.map_toArray, List.map_cons, List.map_nil, hs, hx, hr, eUpon]
  exact h v' w' h2 h3 h4
end
end Go.Proofs.Ytdjlnpiaehoofaa

namespace Go.Proofs.Ytdjlnpiaehoofaa
open Go.RowKit

section
variable {P : Program} {ops : Array Oper} {md : Region.Mode} {C : World → Prop}

/-- may these operations be taken first, one behind the other? -/
def preB (md : Region.Mode) (ops : Array Oper) : List Nat → Array Bool → Bool
  | [], _ => true
  | i :: is, listed => (Region.ready md ops listed).contains i && Region.free md ops listed i && preB md ops is (listed.setIfInBounds i true)
def setAll : List Nat → Array Bool → Array Bool
  | [], listed => listed
  | i :: is, listed => setAll is (listed.setIfInBounds i true)
def wpI (P : Program) (ops : Array Oper) (C : World → Prop) (Q : Act → Prop) : List Nat → Act → Prop
  | [], a => Q a
  | i :: is, a => ∃ o, ops[i]? = some o ∧ if Region.wanted o (yielded ops a.tmps) then ∃ v, (∀ n : ExtC C, o.quietAt P a (fun w'' => Bl n.at w'') n.at v) ∧ wpI P ops C Q is (a.put o.dst v) else wpI P ops C Q is (a.put o.dst undef)
theorem wpI_nil {Q : Act → Prop} {a : Act} (h : Q a) : wpI P ops C Q [] a := h
theorem wpI_step {Q : Act → Prop} {a : Act} {i : Nat} {is : List Nat} {o : Oper} (ho : ops[i]? = some o)
    (h : ∀ K : Act → Prop, (∀ a, wpI P ops C Q is a → K a) → if Region.wanted o (yielded ops a.tmps) then ∃ v, (∀ n : ExtC C, o.quietAt P a (fun w'' => Bl n.at w'') n.at v) ∧ K (a.put o.dst v) else K (a.put o.dst undef)) : wpI P ops C Q (i :: is) a :=
  ⟨o, ho, h _ (fun _ h => h)⟩
theorem wpAnyE_idx (hcl : ∀ w w', C w → Bl w w' → C w') {Q : Act → World → Prop} (hs : Region.noSelect ops = true) (m : Nat) (w : World) (hw : C w) : ∀ (is : List Nat) (listed : Array Bool) (a : Act),
    preB md ops is listed = true → wpI P ops C (fun a' => wpAnyE P md ops C Q m (setAll is listed) a' w) is a → wpAnyE P md ops C Q (is.length + m) listed a w
  | [], _, _, _, h => by rw [List.length_nil, Nat.zero_add]; exact h
  | i :: is, listed, a, hB, h => by
    simp only [preB, Bool.and_eq_true] at hB
    obtain ⟨⟨hr, hf⟩, hB'⟩ := hB
    obtain ⟨o, h0, h⟩ := h
    rw [List.length_cons, show is.length + 1 + m = (is.length + m) + 1 by omega]
    have key : ∀ v, YE P ops C o v a → wpI P ops C (fun a' => wpAnyE P md ops C Q m (setAll (i :: is) listed) a' w) is (a.put o.dst v) → wpAnyE P md ops C Q (is.length + m + 1) listed a w := fun v hy hK =>
      wpAnyE_first hcl h0 (Region.noSelect_spec hs) (is.length + m) listed a w hw (Region.free_spec h0 hf) (by simpa using hr) hy
        (wpAnyE_idx hcl hs m w hw is _ _ hB' hK)
    split at h
    · rename_i hw
      obtain ⟨v, hv, hK⟩ := h
      exact key v (.inl ⟨hw, fun w hb => hv ⟨w, hb⟩⟩) hK
    · rename_i hw
      exact key undef (.inr ⟨by simpa using hw, rfl⟩) h
/-- a region of which the named operations only tell or call and may be taken first -/
theorem wp_region_idx {id : Nat} {Q : Exit → Act → World → Prop} {a : Act} {w : World} {l : List Oper} (is : List Nat) (m : Nat) (C : World → Prop) (hcl : ∀ w w', C w → Bl w w' → C w') (hw : C w.drew) (hm : P.follows .mixedOrders = true) (hn : l.length = is.length + m)
    (hs : Region.noSelect l.toArray = true) (hB : preB .any l.toArray is (Array.replicate l.length false) = true)
    (h : wpI P l.toArray C (fun a' => wpAnyE P .any l.toArray C (fun a w => Q .normal a w) m (setAll is (Array.replicate l.length false)) a' w.drew) is a) :
    (Code.region id l.toArray true).wp P Q a w := by
  refine wp_region_any hm (wpAny_of_E (C := C) (Q := fun a w => Q .normal a w) (fun _ _ h => h) _ _ _ _ ?_)
  have hk := wpAnyE_idx (md := .any) hcl (Q := fun a w => Q .normal a w) hs m w.drew hw is (Array.replicate l.length false) a hB h
  have e : is.length + m = l.toArray.size := by simp; omega
  rw [e] at hk
  simpa using hk
end
/-! a narrower class of worlds from here on -/
section
variable {P : Program} {ops : Array Oper} {md : Region.Mode}
theorem wpAnyE_sub {C C' : World → Prop} (h : ∀ w, C' w → C w) {Q : Act → World → Prop} : ∀ {fuel : Nat} {listed : Array Bool} {a : Act} {w : World}, wpAnyE P md ops C' Q fuel listed a w → wpAnyE P md ops C Q fuel listed a w
  | 0, _, _, _, hh => hh
  | _ + 1, _, _, _, hh => ⟨hh.1, fun i hi w' hb => eOp_mono (fun _ _ k => ⟨h _ k.1, wpAnyE_sub h k.2⟩) (hh.2 i hi w' hb)⟩
end

/-! the walk of all operations, shut: nothing of it is laid open but one operation at a time (where a guard is not met the open form would be reckoned to its end) -/
section
variable {P : Program} {ops : Array Oper} {C : World → Prop}
structure wpS (P : Program) (ops : Array Oper) (C : World → Prop) (Q : Act → Prop) (l : List Oper) (a : Act) : Prop where
  out : wpE P ops C Q l a
theorem wpS_nil {Q : Act → Prop} {a : Act} (h : Q a) : wpS P ops C Q [] a := ⟨h⟩
theorem wpS_step {Q : Act → Prop} {a : Act} {o : Oper} {rest : List Oper}
    (h : ∀ K : Act → Prop, (∀ a, wpS P ops C Q rest a → K a) → if Region.wanted o (yielded ops a.tmps) then ∃ v, (∀ n : ExtC C, o.quietAt P a (fun w'' => Bl n.at w'') n.at v) ∧ K (a.put o.dst v) else K (a.put o.dst undef)) : wpS P ops C Q (o :: rest) a :=
  ⟨wpE_step fun K hK => h K fun a k => hK a k.out⟩
theorem wp_region_allS {id : Nat} {Q : Exit → Act → World → Prop} {a : Act} {w : World} {l : List Oper} (hm : P.follows .mixedOrders = true) (hB : Region.lexB .any l.toArray = true)
    (h : wpS P l.toArray (Bl w.drew) (fun a' => ∀ n : Ext w.drew, Q .normal a' n.at) l a) : (Code.region id l.toArray true).wp P Q a w :=
  wp_region_extall hm hB h.out
theorem wp_region_preS {id : Nat} {Q : Exit → Act → World → Prop} {a : Act} {w : World} {l : List Oper} (n m : Nat) (hm : P.follows .mixedOrders = true) (hn : l.length = n + m)
    (hs : Region.noSelect l.toArray = true) (hB : lexPre .any l.toArray (l.take n).length 0 (Array.replicate l.length false) = true)
    (h : wpS P l.toArray (Bl w.drew) (fun a' => wpAnyE P .any l.toArray (Bl w.drew) (fun a w => Q .normal a w) m (lexSet (l.take n).length 0 (Array.replicate l.length false)) a' w.drew) (l.take n) a) :
    (Code.region id l.toArray true).wp P Q a w :=
  wp_region_ext n m hm hn hs hB h.out
end
end Go.Proofs.Ytdjlnpiaehoofaa
end

/- versions and their order: cmp.Or, slices.Compare, slices.Max, ikey.Time. By an AI agent. -/
section
namespace Go.Proofs.Ytdjlnpiaehoofaa
open Go.RowKit

/-- the first that is not nought -/
def orL : List Int → Int
  | [] => 0
  | x :: xs => if x = 0 then orL xs else x
/-- lists in order, number by number -/
def cmpV : List Int → List Int → Int
  | [], [] => 0
  | [], _ :: _ => -1
  | _ :: _, [] => 1
  | x :: xs, y :: ys => if Lib.compareInt x y = 0 then cmpV xs ys else Lib.compareInt x y
/-- the greatest -/
def maxL : List Int → Int
  | [] => 0
  | x :: xs => xs.foldl max x
structure VerL where
  key : ByteArray
  at_ : List Int
  origin : Int
  tx : Int
  act : ActL
def timeL (v : VerL) : Int :=
  if v.origin = 254 ∧ 0 < v.at_.length then maxL v.at_
  else if 0 ≤ v.origin ∧ v.origin < (v.at_.length : Int) then nth v.at_ v.origin.toNat
  else 0
def orderL (a b : VerL) : Int :=
  orL [Lib.compareInt (timeL b) (timeL a), Lib.compareInt b.origin a.origin, Lib.compareInt b.tx a.tx, Lib.compareInt (a.at_.length : Int) (b.at_.length : Int), cmpV a.at_ b.at_]

theorem drop_cons {xs : List Int} {k : Nat} (h : k < xs.length) : xs.drop k = nth xs k :: xs.drop (k + 1) := by
  rw [nth_eq h]; exact List.drop_eq_getElem_cons h
theorem or_any (g n : Nat) (xs : List Int) (w : World) (hn : xs.length = n) (hn2 : n ≤ 1000) (hc : ∀ j, j < n → w.cell? ⟨g, j, none⟩ = some (.int .i64 (nth xs j))) :
    Calls Try.prog 52 #[.slice (some ⟨g, 0, none⟩) n n] w fun e w' => e = .returned (.int .i64 (orL xs)) ∧ w = w' := by
  have HN := Lib.hid hn
  go_enter Try.func52, Try.ntmps52
  go_wp2_with fail
  go_loop [8] (fun i => ∃ k : Nat, k ≤ n ∧ i = .int .i64 k ∧ orL xs = orL (xs.drop k)) (fun i => n - (intOf i).toNat)
  case atStart => exact ⟨0, Nat.zero_le _, rfl, rfl⟩
  case round =>
    obtain ⟨k, hk, rfl, ho⟩ := hrel
    by_cases hlt : k < n
    · have hck := hc k hlt
      have hd := drop_cons (xs := xs) (k := k) (by rw [HN.out]; exact hlt)
      rw [hd] at ho
      have HO := Lib.hid ho
      clear ho hd
      by_cases h0 : nth xs k = 0
      · have q : (nth xs k != 0) = false := by simp [h0]
        have H0 := Lib.hid h0
        clear h0
        go_wp2_with fail
        go_round
        case rel => exact ⟨k + 1, by omega, by go_num, by rw [HO.out]; show (if nth xs k = 0 then _ else _) = _; rw [if_pos H0.out]⟩
        case measure => simp [intOf]; omega
      · have q : (nth xs k != 0) = true := by simp [h0]
        have H0 := Lib.hid h0
        clear h0
        go_wp2_with fail
        go_ret
        exact ⟨ret_int (by rw [HO.out]; show _ = (if nth xs k = 0 then _ else _); rw [if_neg H0.out]), rfl⟩
    · have hE : xs.drop k = [] := List.drop_eq_nil_of_le (by omega)
      rw [hE] at ho
      have HO := Lib.hid ho
      clear ho hE
      go_wp2_with fail
      go_ret
      exact ⟨ret_int (by rw [HO.out]; rfl), rfl⟩

theorem IA.at_k {w : World} {a : Option Addr} {n : Nat} {xs : List Int} (h : IA w a n xs) (k : Nat) (hk : k < n) : ∃ b off, a = some ⟨b, off, none⟩ ∧ w.cell? ⟨b, off + k, none⟩ = some (.int .i64 (nth xs k)) := by
  obtain ⟨b, off, e, hc⟩ := h.cells k hk
  exact ⟨b, off, e, hc k hk⟩
theorem compare_zero {x y : Int} : Lib.compareInt x y = 0 ↔ x = y := by
  unfold Lib.compareInt
  split
  · constructor <;> intro h <;> omega
  · split
    · constructor <;> intro h <;> omega
    · constructor <;> intro h <;> omega
set_option maxHeartbeats 800000 in
theorem cmpV_any (a b : Option Addr) (n m ca cb : Nat) (xs ys : List Int) (w : World) (hx : IA w a n xs) (hy : IA w b m ys) :
    Calls Try.prog 54 #[.slice a n ca, .slice b m cb] w fun e w' => e = .returned (.int .i64 (cmpV xs ys)) ∧ w = w' := by
  have HX := Lib.hid hx.len
  have HY := Lib.hid hy.len
  have hnb := hx.cap
  have hmb := hy.cap
  go_enter Try.func54, Try.ntmps54
  go_wp2_with fail
  go_loop [11] (fun i => ∃ k : Nat, k ≤ n ∧ k ≤ m ∧ i = .int .i64 k ∧ cmpV xs ys = cmpV (xs.drop k) (ys.drop k)) (fun i => n - (intOf i).toNat)
  case atStart => exact ⟨0, Nat.zero_le _, Nat.zero_le _, rfl, rfl⟩
  case round =>
    obtain ⟨k, hk, hk2, rfl, ho⟩ := hrel
    by_cases hlt : k < n
    · obtain ⟨ba, oa, rfl, hca⟩ := hx.at_k k hlt
      have hd := drop_cons (xs := xs) (k := k) (by rw [HX.out]; exact hlt)
      by_cases hlt2 : k < m
      · obtain ⟨bb, ob, rfl, hcb⟩ := hy.at_k k hlt2
        have hd2 := drop_cons (xs := ys) (k := k) (by rw [HY.out]; exact hlt2)
        rw [hd, hd2] at ho
        have HO := Lib.hid ho
        clear ho hd hd2
        go_wp2_with fail
        refine (Try.cmp_Compare_int _ _ _).mono ?_
        rintro e w' ⟨rfl, rfl⟩
        by_cases h0 : Lib.compareInt (nth xs k) (nth ys k) = 0
        · rw [h0]
          have H0 := Lib.hid h0
          clear h0
          go_wp2_with fail
          go_round
          case rel => exact ⟨k + 1, by omega, by omega, by go_num, by rw [HO.out]; show (if Lib.compareInt _ _ = 0 then _ else _) = _; rw [if_pos H0.out]⟩
          case measure => simp [intOf]; omega
        · have H1 : Hid (cmpV xs ys = Lib.compareInt (nth xs k) (nth ys k)) := Lib.hid (by rw [HO.out]; show (if Lib.compareInt _ _ = 0 then _ else _) = _; rw [if_neg h0])
          have q : (Lib.compareInt (nth xs k) (nth ys k) != 0) = true := by simp [h0]
          clear HO
          generalize Lib.compareInt (nth xs k) (nth ys k) = c at *
          clear h0
          go_wp2_with fail
          go_ret
          exact ⟨ret_int H1.out.symm, rfl⟩
      · have hE : ys.drop k = [] := List.drop_eq_nil_of_le (by have := HY.out; omega)
        rw [hd, hE] at ho
        have HO := Lib.hid ho
        clear ho hE hd
        go_wp2_with fail
        go_ret
        exact ⟨ret_int (by rw [HO.out]; rfl), rfl⟩
    · have hE : xs.drop k = [] := List.drop_eq_nil_of_le (by have := HX.out; omega)
      rw [hE] at ho
      by_cases hnm : n < m
      · have hd2 := drop_cons (xs := ys) (k := k) (by have := HY.out; omega)
        rw [hd2] at ho
        have HO := Lib.hid ho
        clear ho hE hd2
        go_wp2_with fail
        go_ret
        exact ⟨ret_int (by rw [HO.out]; rfl), rfl⟩
      · have hE2 : ys.drop k = [] := List.drop_eq_nil_of_le (by have := HY.out; omega)
        rw [hE2] at ho
        have HO := Lib.hid ho
        clear ho hE hE2
        go_wp2_with fail
        go_ret
        exact ⟨ret_int (by rw [HO.out]; rfl), rfl⟩
theorem maxL_take {xs : List Int} {k : Nat} (h1 : 1 ≤ k) (h : k < xs.length) : maxL (xs.take (k + 1)) = max (maxL (xs.take k)) (nth xs k) := by
  cases xs with
  | nil => simp at h
  | cons x xs =>
    obtain ⟨j, rfl⟩ : ∃ j, k = j + 1 := ⟨k - 1, by omega⟩
    simp only [List.take_succ_cons, maxL]
    have hj : j < xs.length := by simpa using h
    rw [List.take_succ_eq_append_getElem hj, List.foldl_append]
    simp [nth, List.getD, hj]
set_option maxHeartbeats 800000 in
theorem maxV_any (a : Option Addr) (n ca : Nat) (xs : List Int) (w : World) (hx : IA w a n xs) (h0 : 0 < n) :
    Calls Try.prog 68 #[.slice a n ca] w fun e w' => e = .returned (.int .i64 (maxL xs)) ∧ w = w' := by
  have HX := Lib.hid hx.len
  have hnb := hx.cap
  obtain ⟨ba, oa, rfl, hc0⟩ := hx.at_k 0 h0
  have hn1 : ¬ ((n : Int) < 1) := by omega
  have hn2 : (0 : Int) < (n : Int) := by omega
  have hc1 : w.cell? ⟨ba, oa, none⟩ = some (.int .i64 (nth xs 0)) := hc0
  go_enter Try.func68, Try.ntmps68
  go_wp2_with fail
  go_loop [3, 4] (fun v i => ∃ k : Nat, 1 ≤ k ∧ k ≤ n ∧ i = .int .i64 k ∧ v = .int .i64 (maxL (xs.take k))) (fun _ i => n - (intOf i).toNat)
  case atStart =>
    refine ⟨1, Nat.le_refl _, h0, rfl, ?_⟩
    have hl := HX.out
    cases xs with
    | nil => simp at hl; omega
    | cons x xs => rfl
  case round =>
    clear hc0 hc1
    obtain ⟨k, h1, hk, rfl, rfl⟩ := hrel
    by_cases hlt : k < n
    · obtain ⟨b2, o2, e2, hck⟩ := hx.at_k k hlt
      simp only [Option.some.injEq, Addr.mk.injEq] at e2
      obtain ⟨rfl, rfl, _⟩ := e2
      have HM := Lib.hid (maxL_take h1 (xs := xs) (k := k) (by rw [HX.out]; exact hlt))
      go_wp2_with fail
      go_round
      case rel => exact ⟨k + 1, by omega, by omega, by go_num, by rw [HM.out]⟩
      case measure => simp [intOf]; omega
    · have HE : Hid (xs.take k = xs) := Lib.hid (List.take_of_length_le (by have := HX.out; omega))
      go_wp2_with fail
      go_ret
      exact ⟨ret_int (by rw [HE.out]), rfl⟩
end Go.Proofs.Ytdjlnpiaehoofaa
end

/- ikey.Time, ikey.Order. By an AI agent. -/
section
namespace Go.Proofs.Ytdjlnpiaehoofaa
open Go.RowKit
attribute [local go_sem] eOp eOper eUpon

/-- a version's eight cells -/
def verC (key : ByteArray) (a : Option Addr) (n ca : Nat) (o t : Int) (k : Int) (x : Nat) (m : Int) (s : ByteArray) : List Value :=
  [.string key, .slice a n ca, .int .i64 o, .int .i64 t, .int .i64 k, .float .f64 x, .int .i64 m, .string s]
theorem AC.ver {W : World} {g : Nat} {key : ByteArray} {a : Option Addr} {n ca : Nat} {o t : Int} {k : Int} {x : Nat} {m : Int} {s : ByteArray} (h : AC W g (verC key a n ca o t k x m s)) :
    W.cell? ⟨g, 0, none⟩ = some (.string key) ∧ W.cell? ⟨g, 1, none⟩ = some (.slice a n ca) ∧ W.cell? ⟨g, 2, none⟩ = some (.int .i64 o) ∧ W.cell? ⟨g, 3, none⟩ = some (.int .i64 t) ∧
    W.cell? ⟨g, 4, none⟩ = some (.int .i64 k) ∧ W.cell? ⟨g, 5, none⟩ = some (.float .f64 x) ∧ W.cell? ⟨g, 6, none⟩ = some (.int .i64 m) ∧ W.cell? ⟨g, 7, none⟩ = some (.string s) :=
  ⟨h.cell 0 _ rfl, h.cell 1 _ rfl, h.cell 2 _ rfl, h.cell 3 _ rfl, h.cell 4 _ rfl, h.cell 5 _ rfl, h.cell 6 _ rfl, h.cell 7 _ rfl⟩

set_option maxHeartbeats 1600000 in
set_option maxRecDepth 100000 in
theorem time_any (key : ByteArray) (a : Option Addr) (n ca : Nat) (xs : List Int) (o t : Int) (k : Int) (x : Nat) (m : Int) (s : ByteArray) (T : Int) (w : World) (hx : IA w a n xs)
    (HT : Hid (timeL ⟨key, xs, o, t, ⟨k, x, m, s⟩⟩ = T)) :
    Calls Try.prog 63 #[.agg #[.string key, .slice a n ca, .int .i64 o, .int .i64 t, .int .i64 k, .float .f64 x, .int .i64 m, .string s]] w fun e w' => e = .returned (.int .i64 T) ∧ Bl w w' := by
  have HX := Lib.hid hx.len
  have hbl := (Bl.refl w).alloc (.cells #[.string key, .slice a n ca, .int .i64 o, .int .i64 t, .int .i64 k, .float .f64 x, .int .i64 m, .string s] 35)
  have hE : (if o = 254 ∧ 0 < n then maxL xs else if 0 ≤ o ∧ o < (n : Int) then nth xs o.toNat else 0) = T := by
    have := HT.out
    unfold timeL at this
    simp only [HX.out] at this
    exact this
  by_cases h1 : o = 254 ∧ 0 < n
  · rw [if_pos h1] at hE
    subst hE
    obtain ⟨rfl, h0⟩ := h1
    have h0' : (0 : Int) < (n : Int) := by omega
    clear HT
    go_enter Try.func63, Try.ntmps63
    go_wp2_with fail
    refine (maxV_any a n ca xs _ (hx.keep hbl) h0).mono ?_
    rintro e w' ⟨rfl, rfl⟩
    go_wp2_with fail
    go_ret
    exact ⟨rfl, hbl⟩
  · rw [if_neg h1] at hE
    by_cases h2 : 0 ≤ o ∧ o < (n : Int)
    · rw [if_pos h2] at hE
      subst hE
      obtain ⟨j, rfl⟩ : ∃ j : Nat, o = j := ⟨o.toNat, by omega⟩
      have hj : j < n := by omega
      obtain ⟨ba, oa, rfl, hcj⟩ := (hx.keep hbl).at_k j hj
      have q : ((j : Int) == 254) = false := by
        rw [beq_eq_false_iff_ne]
        intro h
        exact h1 ⟨h, by omega⟩
      have h3 : (j : Int) < (n : Int) := by omega
      clear HT h1 h2
      go_enter Try.func63, Try.ntmps63
      go_wp2_with fail
      go_ret
      exact ⟨by rw [Int.toNat_natCast]; rfl, hbl⟩
    · rw [if_neg h2] at hE
      subst hE
      clear HT HX
      by_cases h3 : o = 254
      · subst h3
        obtain rfl : n = 0 := by omega
        go_enter Try.func63, Try.ntmps63
        go_wp2_with fail
        go_ret
        exact ⟨rfl, hbl⟩
      · have q : (o == 254) = false := by rw [beq_eq_false_iff_ne]; exact h3
        by_cases h4 : 0 ≤ o
        · have h5 : ¬ (o < (n : Int)) := fun h => h2 ⟨h4, h⟩
          clear h1 h2 h3
          go_enter Try.func63, Try.ntmps63
          go_wp2_with fail
          go_ret
          exact ⟨rfl, hbl⟩
        · clear h1 h2 h3
          go_enter Try.func63, Try.ntmps63
          go_wp2_with fail
          go_ret
          exact ⟨rfl, hbl⟩

/-- the two boxes of ikey.Order -/
structure O2 (w W : World) (c d : List Value) : Prop where
  bl : Bl w W
  a : AC W w.heap.size c
  b : AC W (w.heap.size + 1) d
theorem O2.keep {w W W' : World} {c d : List Value} (h : O2 w W c d) (k : Bl W W') : O2 w W' c d := ⟨h.bl.trans k, h.a.keep k, h.b.keep k⟩
theorem O2.new (w : World) (c d : List Value) (T U : TypeId) : O2 w ((w.alloc (.cells c.toArray T)).alloc (.cells d.toArray U)) c d :=
  ⟨((Bl.refl w).alloc _).alloc _, (AC.new w _ rfl c T).keep ((Bl.refl _).alloc _), AC.new (w.alloc (.cells c.toArray T)) (w.heap.size + 1) (by simp) d U⟩
theorem cmpI_any (x y r : Int) (w : World) (h : Hid (Lib.compareInt x y = r)) : Calls Try.prog 53 #[.int .i64 x, .int .i64 y] w fun e w' => e = .returned (.int .i64 r) ∧ Bl w w' := by
  refine (Try.cmp_Compare_int x y w).mono ?_
  rintro e w' ⟨rfl, rfl⟩
  rw [h.out]
  exact ⟨rfl, Bl.refl _⟩
set_option maxHeartbeats 3200000 in
set_option maxRecDepth 100000 in
theorem order_any (key : ByteArray) (a : Option Addr) (n ca : Nat) (xs : List Int) (o t : Int) (k : Int) (x : Nat) (m : Int) (s : ByteArray)
    (key2 : ByteArray) (a2 : Option Addr) (n2 ca2 : Nat) (ys : List Int) (o2 t2 : Int) (k2 : Int) (x2 : Nat) (m2 : Int) (s2 : ByteArray) (T1 T2 c1 c2 c3 c4 c5 R : Int) (w : World) (hx : IA w a n xs) (hy : IA w a2 n2 ys)
    (H1 : Hid (timeL ⟨key, xs, o, t, ⟨k, x, m, s⟩⟩ = T1)) (H2 : Hid (timeL ⟨key2, ys, o2, t2, ⟨k2, x2, m2, s2⟩⟩ = T2))
    (C1 : Hid (Lib.compareInt T2 T1 = c1)) (C2 : Hid (Lib.compareInt o2 o = c2)) (C3 : Hid (Lib.compareInt t2 t = c3)) (C4 : Hid (Lib.compareInt (n : Int) (n2 : Int) = c4)) (C5 : Hid (cmpV xs ys = c5)) (HR : Hid (orL [c1, c2, c3, c4, c5] = R)) :
    Calls Try.prog 49 #[.agg #[.string key, .slice a n ca, .int .i64 o, .int .i64 t, .int .i64 k, .float .f64 x, .int .i64 m, .string s], .agg #[.string key2, .slice a2 n2 ca2, .int .i64 o2, .int .i64 t2, .int .i64 k2, .float .f64 x2, .int .i64 m2, .string s2]] w fun e w' => e = .returned (.int .i64 R) ∧ Bl w w' := by
  have G := O2.new w (verC key a n ca o t k x m s) (verC key2 a2 n2 ca2 o2 t2 k2 x2 m2 s2) 35 35
  unfold verC at G
  go_enter Try.func49, Try.ntmps49
  go_wp2_with fail
  generalize (w.alloc (.cells #[.string key, .slice a n ca, .int .i64 o, .int .i64 t, .int .i64 k, .float .f64 x, .int .i64 m, .string s] 35)).alloc (.cells #[.string key2, .slice a2 n2 ca2, .int .i64 o2, .int .i64 t2, .int .i64 k2, .float .f64 x2, .int .i64 m2, .string s2] 35) = W0 at *
  refine wp_region_ext 27 3 (by kernel_rfl) rfl (by kernel_rfl) (by kernel_rfl) ?_
  have G := G.keep ((Bl.refl W0).drew)
  generalize W0.drew = W at *
  have a0 : ∀ n : Ext W, _ := fun n => (G.keep n.bl).a.cell 0 _ rfl
  have a1 : ∀ n : Ext W, _ := fun n => (G.keep n.bl).a.cell 1 _ rfl
  have a2' : ∀ n : Ext W, _ := fun n => (G.keep n.bl).a.cell 2 _ rfl
  have a3 : ∀ n : Ext W, _ := fun n => (G.keep n.bl).a.cell 3 _ rfl
  have a4 : ∀ n : Ext W, _ := fun n => (G.keep n.bl).a.cell 4 _ rfl
  have a5 : ∀ n : Ext W, _ := fun n => (G.keep n.bl).a.cell 5 _ rfl
  have a6 : ∀ n : Ext W, _ := fun n => (G.keep n.bl).a.cell 6 _ rfl
  have a7 : ∀ n : Ext W, _ := fun n => (G.keep n.bl).a.cell 7 _ rfl
  have b0 : ∀ n : Ext W, _ := fun n => (G.keep n.bl).b.cell 0 _ rfl
  have b1 : ∀ n : Ext W, _ := fun n => (G.keep n.bl).b.cell 1 _ rfl
  have b2 : ∀ n : Ext W, _ := fun n => (G.keep n.bl).b.cell 2 _ rfl
  have b3 : ∀ n : Ext W, _ := fun n => (G.keep n.bl).b.cell 3 _ rfl
  have b4 : ∀ n : Ext W, _ := fun n => (G.keep n.bl).b.cell 4 _ rfl
  have b5 : ∀ n : Ext W, _ := fun n => (G.keep n.bl).b.cell 5 _ rfl
  have b6 : ∀ n : Ext W, _ := fun n => (G.keep n.bl).b.cell 6 _ rfl
  have b7 : ∀ n : Ext W, _ := fun n => (G.keep n.bl).b.cell 7 _ rfl
  have hX : ∀ n' : Ext W, IA n'.at a n xs := fun n' => hx.keep (G.bl.trans n'.bl)
  have hY : ∀ n' : Ext W, IA n'.at a2 n2 ys := fun n' => hy.keep (G.bl.trans n'.bl)
  have HXY := Lib.hid (And.intro hX hY)
  clear hX hY
  have hcv : ∀ n' : Ext W, Calls Try.prog 54 #[.slice a n ca, .slice a2 n2 ca2] n'.at fun e w' => e = .returned (.int .i64 c5) ∧ Bl n'.at w' := fun n' => by
    refine (cmpV_any a a2 n n2 ca ca2 xs ys _ (HXY.out.1 n') (HXY.out.2 n')).mono ?_
    rintro e w' ⟨rfl, rfl⟩
    rw [C5.out]
    exact ⟨rfl, Bl.refl _⟩
  have HCV := Lib.hid hcv
  clear hcv
  simp only [List.take_succ_cons, List.take_zero]
  repeat (refine wpE_step (fun K hK => ?_); go_simp; first | (refine hK _ ?_; clear hK K) | (apply Exists.intro; refine ⟨fun n => ?_, hK _ ?_⟩; (first | exact time_any _ _ _ _ _ _ _ _ _ _ _ _ _ (HXY.out.1 n) H1 | exact time_any _ _ _ _ _ _ _ _ _ _ _ _ _ (HXY.out.2 n) H2 | exact cmpI_any _ _ _ _ C1 | exact cmpI_any _ _ _ _ C2 | exact cmpI_any _ _ _ _ C3 | exact cmpI_any _ _ _ _ C4 | exact HCV.out n); clear hK K))
  refine wpE_nil ?_
  clear a0 a1 a2' a3 a4 a5 a6 a7 b0 b1 b2 b3 b4 b5 b6 b7
  refine wpAnyE_one (i := 27) (by kernel_rfl) ?_
  intro W1 hb1
  go_simp
  have cg := AC.new W1 W1.heap.size rfl [.int .i64 c1, .int .i64 c2, .int .i64 c3, .int .i64 c4, .int .i64 c5] 3
  replace hb1 := hb1.alloc (.cells #[.int .i64 c1, .int .i64 c2, .int .i64 c3, .int .i64 c4, .int .i64 c5] 3)
  refine ⟨hb1, ?_⟩
  generalize W1.alloc (.cells #[.int .i64 c1, .int .i64 c2, .int .i64 c3, .int .i64 c4, .int .i64 c5] 3) = W2 at *
  generalize W1.heap.size = g at *
  refine wpAnyE_one (i := 28) (by kernel_rfl) ?_
  intro W3 hb3
  replace cg := cg.keep hb3
  replace hb1 := hb1.trans hb3
  go_simp
  refine (or_any g 5 [c1, c2, c3, c4, c5] _ rfl (by decide) ?_).mono ?_
  · intro j hj
    match j, hj with
    | 0, _ => exact cg.cell 0 _ rfl
    | 1, _ => exact cg.cell 1 _ rfl
    | 2, _ => exact cg.cell 2 _ rfl
    | 3, _ => exact cg.cell 3 _ rfl
    | 4, _ => exact cg.cell 4 _ rfl
  rintro e w' ⟨rfl, rfl⟩
  rw [HR.out]
  refine ⟨_, rfl, hb1, ?_⟩
  refine wpAnyE_one (i := 29) (by kernel_rfl) ?_
  intro W4 hb4
  replace hb1 := hb1.trans hb4
  go_simp
  refine ⟨by kernel_rfl, ?_⟩
  intro W5 hb5
  have hbn := G.bl.trans (hb1.trans hb5)
  go_wp2_with fail
  go_ret
  exact ⟨rfl, hbn⟩
end Go.Proofs.Ytdjlnpiaehoofaa
end

/- a block of one cell; recovered panics. By an AI agent. -/
section
namespace Go.Proofs.Ytdjlnpiaehoofaa
open Go.RowKit

/-! ### a block of one cell -/
def C1 (w : World) (g : Nat) (v : Value) : Prop := ∃ t, w.heap[g]? = some (.cells #[v] t (0, 0))
theorem C1.cell {w : World} {g : Nat} {v : Value} (h : C1 w g v) : w.cell? ⟨g, 0, none⟩ = some v := by
  obtain ⟨t, h⟩ := h
  rw [cell_of_row w g 0 _ t (0, 0) h]; rfl
theorem C1.frozen {w : World} {g : Nat} {v : Value} (h : C1 w g v) : w.frozen? ⟨g, 0, none⟩ = false := by
  obtain ⟨t, h⟩ := h
  exact frozen_of_row w g 0 _ t h
theorem C1.lt {w : World} {g : Nat} {v : Value} (h : C1 w g v) : g < w.heap.size := by
  obtain ⟨t, h⟩ := h
  exact lt_of_heap h
theorem C1.set {w : World} {g : Nat} {v : Value} (h : C1 w g v) (u : Value) : C1 (w.setCell ⟨g, 0, none⟩ u) g u := by
  obtain ⟨t, h⟩ := h
  exact ⟨t, by rw [heap_setCell_same w g 0 _ t _ h]; rfl⟩
theorem C1.other {w : World} {g g' : Nat} {v : Value} (h : C1 w g v) (hn : g ≠ g') (u : Value) : C1 (w.setCell ⟨g', 0, none⟩ u) g v := by
  obtain ⟨t, h⟩ := h
  exact ⟨t, by rw [Below.heap_setCell _ _ _ _ hn]; exact h⟩
theorem C1.keep {w w' : World} {g : Nat} {v : Value} (h : C1 w g v) (hb : Bl w w') : C1 w' g v := by
  obtain ⟨t, h⟩ := h
  exact ⟨t, hb.heap h⟩
theorem C1.grown {w w' : World} {g : Nat} {v : Value} {row : Option Nat} (h : C1 w g v) (hg : w.grownBy w' row) (hn : some g ≠ row) : C1 w' g v := by
  obtain ⟨t, h⟩ := h
  exact ⟨t, by rw [hg.block g (lt_of_heap h) hn]; exact h⟩
theorem C1.alloc {w : World} {g : Nat} {v : Value} (h : C1 w g v) (o : Obj) : C1 (w.alloc o) g v := h.keep ((Bl.refl w).alloc o)
theorem C1.new (w : World) (g : Nat) (hg : g = w.heap.size) (v : Value) (t : TypeId) : C1 (w.alloc (.cells #[v] t)) g v := by
  subst hg
  exact ⟨t, heap_alloc_new w _⟩

theorem hmf (fn : Fn) (first cap : Array Value) (w : World) : (Instr.makeFunc fn first cap).run Try.prog w = .ok (.func fn first cap) w := rfl
theorem store_fl (a : Addr) (b : Nat) (w : World) : (store a (.float .f64 b)).run Try.prog w = stored Try.prog w a (.float .f64 b) .plain := run_store Try.prog w a _ .plain rfl
/-- a recovered panic settles to a return -/
theorem leaves_back {P : Program} {fn : Func} {tmps : Array Value} {R : Ending → World → Prop} {w : World} {v x : Value} (h : (results fn tmps).run P w = .ok v w) (hR : R (.returned v) w) :
    Leaves P fn tmps R [] (settle (.panicking [{ v := x, recovered := true }])) w := ⟨v, h, hR⟩
theorem leaves_ret {P : Program} {fn : Func} {tmps : Array Value} {R : Ending → World → Prop} {w : World} {v : Value} (h : (results fn tmps).run P w = .ok v w) (hR : R (.returned v) w) :
    Leaves P fn tmps R [] (settle .returning) w := ⟨v, h, hR⟩
end Go.Proofs.Ytdjlnpiaehoofaa
end

/- stable merges and sorts: plain laws. By an AI agent. -/
section
set_option linter.unusedVariables false
set_option linter.unusedSectionVars false
namespace Go.Proofs.Ytdjlnpiaehoofaa

section
variable {α : Type} {le : α → α → Bool}
/-- an order in which any two stand, some of them alike -/
structure Pre (le : α → α → Bool) : Prop where
  total : ∀ a b, le a b = true ∨ le b a = true
  trans : ∀ a b c, le a b = true → le b c = true → le a c = true
theorem Pre.refl (h : Pre le) (a : α) : le a a = true := (h.total a a).elim id id
theorem Pre.flip (h : Pre le) {a b : α} (q : le a b = false) : le b a = true := (h.total a b).resolve_left (by rw [q]; decide)
/-- one stands ahead of another one and of what that is ahead of -/
theorem Pre.lt_trans (h : Pre le) {a b c : α} (q : le b a = false) (r : le b c = true) : le c a = false := by
  cases e : le c a with
  | false => rfl
  | true => rw [h.trans b c a r e] at q; cases q
theorem Pre.lt_of (h : Pre le) {a b c : α} (q : le b a = false) (r : le c a = true) : le b c = false := by
  cases e : le b c with
  | false => rfl
  | true => rw [h.trans b c a e r] at q; cases q
abbrev mrg (le : α → α → Bool) (l r : List α) : List α := l.merge r le
theorem mrg_cons (a b : α) (l r : List α) : mrg le (a :: l) (b :: r) = if le a b then a :: mrg le l (b :: r) else b :: mrg le (a :: l) r := List.cons_merge_cons le a b l r
theorem mrg_nil (r : List α) : mrg le [] r = r := List.nil_merge r
theorem mrg_right (l : List α) : mrg le l [] = l := List.merge_right l
/-- what is cut where it may be cut is merged in two parts -/
theorem mrg_split : ∀ (L1 R1 L2 R2 : List α), (∀ l ∈ L1, ∀ r ∈ R2.head?, le l r = true) → (∀ r ∈ R1, ∀ l ∈ L2.head?, le l r = false) → mrg le (L1 ++ L2) (R1 ++ R2) = mrg le L1 R1 ++ mrg le L2 R2
  | [], [], L2, R2, _, _ => by rw [mrg_nil]; rfl
  | a :: L1, [], L2, R2, h1, h2 => by
    have ih := mrg_split L1 [] L2 R2 (fun l q => h1 l (by simp [q])) (fun r q => by cases q)
    rw [List.nil_append, mrg_right] at ih ⊢
    cases R2 with
    | nil => rw [mrg_right, mrg_right]
    | cons b R2 =>
      rw [List.cons_append, mrg_cons, if_pos (h1 a (by simp) b (by simp)), ih, List.cons_append]
  | [], b :: R1, L2, R2, h1, h2 => by
    have ih := mrg_split [] R1 L2 R2 (fun r q => by cases q) (fun l q => h2 l (by simp [q]))
    rw [List.nil_append, mrg_nil] at ih ⊢
    cases L2 with
    | nil => rw [mrg_nil, mrg_nil]
    | cons a L2 =>
      rw [List.cons_append, mrg_cons, if_neg (by rw [h2 b (by simp) a (by simp)]; decide), ih, List.cons_append]
  | a :: L1, b :: R1, L2, R2, h1, h2 => by
    rw [List.cons_append, List.cons_append, mrg_cons, mrg_cons]
    split
    · have ih := mrg_split L1 (b :: R1) L2 R2 (fun l q => h1 l (by simp [q])) h2
      rw [List.cons_append] at ih
      rw [ih, List.cons_append]
    · have ih := mrg_split (a :: L1) R1 L2 R2 h1 (fun l q => h2 l (by simp [q]))
      rw [List.cons_append] at ih
      rw [ih, List.cons_append]
  termination_by L1 R1 => L1.length + R1.length
/-- one that is put into its place -/
theorem mrg_one (x : α) (A1 A2 : List α) (h1 : ∀ a ∈ A1, le a x = true) (h2 : ∀ a ∈ A2.head?, le a x = false) : mrg le (A1 ++ A2) [x] = A1 ++ x :: A2 := by
  have e1 : mrg le A1 [x] = A1 ++ [x] := by
    have := mrg_split (le := le) A1 [] [] [x] (fun l q r hr => by simp at hr; subst hr; exact h1 l q) (fun r q => by cases q)
    rw [List.append_nil, List.nil_append, mrg_right, mrg_nil] at this
    exact this
  have := mrg_split (le := le) A1 [x] A2 [] (fun l q r hr => by simp at hr) (fun r q l hl => by simp at q; subst q; exact h2 l hl)
  rw [List.append_nil, mrg_right, e1] at this
  rw [this]; simp
theorem mrg_first (x : α) (B1 B2 : List α) (h1 : ∀ b ∈ B1, le x b = false) (h2 : ∀ b ∈ B2.head?, le x b = true) : mrg le [x] (B1 ++ B2) = B1 ++ x :: B2 := by
  have e1 : mrg le [x] B2 = x :: B2 := by
    have := mrg_split (le := le) [x] [] [] B2 (fun l q r hr => by simp at q; subst q; exact h2 r hr) (fun r q => by cases q)
    rw [List.append_nil, List.nil_append, mrg_right, mrg_nil] at this
    exact this
  have := mrg_split (le := le) [] B1 [x] B2 (fun l q => by cases q) (fun r q l hl => by simp at hl; subst hl; exact h1 r q)
  rw [List.nil_append, mrg_nil, e1] at this
  exact this
theorem mrg_assoc (h : Pre le) : ∀ (A B C : List α), mrg le (mrg le A B) C = mrg le A (mrg le B C)
  | [], B, C => by rw [mrg_nil, mrg_nil]
  | a :: A, [], C => by rw [mrg_right, mrg_nil]
  | a :: A, b :: B, [] => by rw [mrg_right, mrg_right]
  | a :: A, b :: B, c :: C => by
    have i1 := mrg_assoc h A (b :: B) (c :: C)
    have i2 := mrg_assoc h (a :: A) B (c :: C)
    have i3 := mrg_assoc h (a :: A) (b :: B) C
    rw [mrg_cons a b, mrg_cons b c]
    cases hab : le a b
    · cases hbc : le b c
      · have hac : le a c = false := by
          cases e : le a c with
          | false => rfl
          | true => rw [h.trans a c b e (h.flip hbc)] at hab; cases hab
        simp only [Bool.false_eq_true, if_false]
        rw [mrg_cons b c, if_neg (by rw [hbc]; decide), mrg_cons a c, if_neg (by rw [hac]; decide), ← i3, mrg_cons a b, if_neg (by rw [hab]; decide)]
      · simp only [Bool.false_eq_true, if_false, if_true]
        rw [mrg_cons b c, if_pos hbc, mrg_cons a b, if_neg (by rw [hab]; decide), i2]
    · cases hbc : le b c
      · cases hac : le a c
        · simp only [Bool.false_eq_true, if_false, if_true]
          rw [mrg_cons a c, if_neg (by rw [hac]; decide), mrg_cons a c, if_neg (by rw [hac]; decide), ← i3, mrg_cons a b, if_pos hab]
        · simp only [Bool.false_eq_true, if_false, if_true]
          rw [mrg_cons a c, if_pos hac, mrg_cons a c, if_pos hac, i1, mrg_cons b c, if_neg (by rw [hbc]; decide)]
      · simp only [if_true]
        rw [mrg_cons a c, if_pos (h.trans a b c hab hbc), mrg_cons a b, if_pos hab, i1, mrg_cons b c, if_pos hbc]
  termination_by A B C => A.length + B.length + C.length
/-- sorted -/
abbrev Srt (le : α → α → Bool) (l : List α) : Prop := l.Pairwise (fun a b => le a b = true)
theorem Srt.mrg (h : Pre le) {l r : List α} (hl : Srt le l) (hr : Srt le r) : Srt le (mrg le l r) :=
  List.pairwise_merge h.trans (fun a b => by rcases h.total a b with q | q <;> simp [q]) _ _ hl hr
/-- the stable sort -/
def srt (le : α → α → Bool) (l : List α) : List α := l.foldr (fun x l => Go.Proofs.Ytdjlnpiaehoofaa.mrg le [x] l) []
theorem srt_nil : srt le ([] : List α) = [] := rfl
theorem srt_cons (x : α) (l : List α) : srt le (x :: l) = mrg le [x] (srt le l) := rfl
theorem srt_one (x : α) : srt le [x] = [x] := by rw [srt_cons, srt_nil, mrg_right]
theorem srt_append (h : Pre le) : ∀ A B : List α, srt le (A ++ B) = mrg le (srt le A) (srt le B)
  | [], B => by rw [srt_nil, mrg_nil]; rfl
  | a :: A, B => by rw [List.cons_append, srt_cons, srt_cons, srt_append h A B, mrg_assoc h]
theorem srt_sorted (h : Pre le) : ∀ l : List α, Srt le (srt le l)
  | [] => List.Pairwise.nil
  | a :: l => Srt.mrg h (List.pairwise_singleton _ _) (srt_sorted h l)
theorem srt_perm : ∀ l : List α, (srt le l).Perm l
  | [] => List.Perm.refl _
  | a :: l => (List.merge_perm_append (le := le) (xs := [a]) (ys := srt le l)).trans ((srt_perm l).cons a)
theorem srt_len (l : List α) : (srt le l).length = l.length := srt_perm l |>.length_eq
theorem srt_id : ∀ {l : List α}, Srt le l → srt le l = l
  | [], _ => rfl
  | a :: l, hs => by
    have h1 := List.pairwise_cons.1 hs
    rw [srt_cons, srt_id h1.2]
    have := mrg_first (le := le) a [] l (fun b q => by cases q) (fun b q => h1.1 b (List.mem_of_mem_head? q))
    exact this
end
end Go.Proofs.Ytdjlnpiaehoofaa
end

/- places in lists; where a merge may be cut; blocks that are sorted: plain laws. By an AI agent. -/
section
set_option linter.unusedVariables false
set_option linter.unusedSectionVars false
namespace Go.Proofs.Ytdjlnpiaehoofaa

section
variable {α : Type} [Inhabited α] {le : α → α → Bool}
def el (xs : List α) (j : Nat) : α := (xs[j]?).getD default
theorem el_eq {xs : List α} {j : Nat} (h : j < xs.length) : el xs j = xs[j] := by simp [el, h]
theorem el_left {A : List α} (B : List α) {j : Nat} (h : j < A.length) : el (A ++ B) j = el A j := by
  unfold el; rw [List.getElem?_append_left h]
theorem el_right (A B : List α) (j : Nat) : el (A ++ B) (A.length + j) = el B j := by
  unfold el; rw [List.getElem?_append_right (by omega)]; congr 1; rw [Nat.add_sub_cancel_left]
theorem el_at {P A : List α} (B : List α) {k j : Nat} (hp : P.length = k) (h : j < A.length) : el (P ++ (A ++ B)) (k + j) = el A j := by
  subst hp; rw [el_right, el_left B h]
theorem el_mem {xs : List α} {j : Nat} (h : j < xs.length) : el xs j ∈ xs := by rw [el_eq h]; exact List.getElem_mem h
theorem mem_el {xs : List α} {x : α} (h : x ∈ xs) : ∃ j, j < xs.length ∧ el xs j = x := by
  obtain ⟨j, hj, e⟩ := List.mem_iff_getElem.1 h
  exact ⟨j, hj, by rw [el_eq hj]; exact e⟩
theorem take_el {xs : List α} {j : Nat} (h : j < xs.length) : xs.take (j + 1) = xs.take j ++ [el xs j] := by
  rw [el_eq h, List.take_add_one, List.getElem?_eq_getElem h]; rfl
theorem drop_el {xs : List α} {j : Nat} (h : j < xs.length) : xs.drop j = el xs j :: xs.drop (j + 1) := by
  rw [el_eq h]; exact List.drop_eq_getElem_cons h
theorem srt_el {xs : List α} (h : Srt le xs) {i j : Nat} (hij : i < j) (hj : j < xs.length) : le (el xs i) (el xs j) = true := by
  rw [el_eq (by omega), el_eq hj]
  exact List.pairwise_iff_getElem.1 h i j (by omega) hj hij
theorem srt_le {xs : List α} (hp : Pre le) (h : Srt le xs) {i j : Nat} (hij : i ≤ j) (hj : j < xs.length) : le (el xs i) (el xs j) = true := by
  rcases Nat.lt_or_eq_of_le hij with q | q
  · exact srt_el h q hj
  · subst q; exact hp.refl _
theorem head_drop {xs : List α} {e : Nat} {x : α} (h : x ∈ (xs.drop e).head?) : e < xs.length ∧ x = Go.Proofs.Ytdjlnpiaehoofaa.el xs e := by
  by_cases hl : e < xs.length
  · rw [drop_el hl] at h
    simp at h
    exact ⟨hl, h.symm⟩
  · rw [List.drop_eq_nil_of_le (by omega)] at h
    simp at h
/-- where a merge may be cut -/
theorem sym_split (hp : Pre le) {L R : List α} (hL : Srt le L) (hR : Srt le R) {s e : Nat} (hs : s ≤ L.length) (he : e ≤ R.length) (c1 : 0 < s → e < R.length → le (el L (s - 1)) (el R e) = true) (c2 : 0 < e → s < L.length → le (el L s) (el R (e - 1)) = false) :
    mrg le L R = mrg le (L.take s) (R.take e) ++ mrg le (L.drop s) (R.drop e) := by
  have := mrg_split (le := le) (L.take s) (R.take e) (L.drop s) (R.drop e) (fun l q r hr => ?_) (fun r q l hl => ?_)
  · rw [List.take_append_drop, List.take_append_drop] at this
    exact this
  · obtain ⟨h1, rfl⟩ := head_drop hr
    obtain ⟨j, hj, rfl⟩ := mem_el q
    rw [List.length_take] at hj
    have e1 : el (L.take s) j = el L j := by unfold el; rw [List.getElem?_take_of_lt (by omega)]
    rw [e1]
    exact hp.trans _ _ _ (srt_le hp hL (show j ≤ s - 1 by omega) (by omega)) (c1 (by omega) h1)
  · obtain ⟨h1, rfl⟩ := head_drop hl
    obtain ⟨j, hj, rfl⟩ := mem_el q
    rw [List.length_take] at hj
    have e1 : el (R.take e) j = el R j := by unfold el; rw [List.getElem?_take_of_lt (by omega)]
    rw [e1]
    cases h : le (el L s) (el R j) with
    | false => rfl
    | true =>
      have := hp.trans _ _ _ h (srt_le hp hR (show j ≤ e - 1 by omega) (by omega))
      rw [c2 (by omega) h1] at this
      cases this
/-- one element is put into a sorted list -/
theorem one_first (hp : Pre le) (x : α) {R : List α} (hR : Srt le R) {i : Nat} (hi : i ≤ R.length) (c1 : 0 < i → le x (el R (i - 1)) = false) (c2 : i < R.length → le x (el R i) = true) : mrg le [x] R = R.take i ++ x :: R.drop i := by
  have := mrg_first (le := le) x (R.take i) (R.drop i) (fun b q => ?_) (fun b q => ?_)
  · rw [List.take_append_drop] at this
    exact this
  · obtain ⟨j, hj, rfl⟩ := mem_el q
    rw [List.length_take] at hj
    have e1 : el (R.take i) j = el R j := by unfold el; rw [List.getElem?_take_of_lt (by omega)]
    rw [e1]
    cases h : le x (el R j) with
    | false => rfl
    | true =>
      have := hp.trans _ _ _ h (srt_le hp hR (show j ≤ i - 1 by omega) (by omega))
      rw [c1 (by omega)] at this
      cases this
  · obtain ⟨h1, rfl⟩ := head_drop q
    exact c2 h1
theorem one_last (hp : Pre le) (x : α) {L : List α} (hL : Srt le L) {i : Nat} (hi : i ≤ L.length) (c1 : 0 < i → le (el L (i - 1)) x = true) (c2 : i < L.length → le (el L i) x = false) : mrg le L [x] = L.take i ++ x :: L.drop i := by
  have := mrg_one (le := le) x (L.take i) (L.drop i) (fun b q => ?_) (fun b q => ?_)
  · rw [List.take_append_drop] at this
    exact this
  · obtain ⟨j, hj, rfl⟩ := mem_el q
    rw [List.length_take] at hj
    have e1 : el (L.take i) j = el L j := by unfold el; rw [List.getElem?_take_of_lt (by omega)]
    rw [e1]
    exact hp.trans _ _ _ (srt_le hp hL (show j ≤ i - 1 by omega) (by omega)) (c1 (by omega))
  · obtain ⟨h1, rfl⟩ := head_drop q
    exact c2 h1

/-! ### blocks, each sorted -/
def blks (le : α → α → Bool) (s : Nat) : Nat → List α → List α
  | 0, _ => []
  | f + 1, l => if l.length ≤ s then srt le l else srt le (l.take s) ++ blks le s f (l.drop s)
/-- blocks of s, each sorted -/
def bk (le : α → α → Bool) (s : Nat) (l : List α) : List α := blks le s (l.length + 1) l
theorem blks_fuel {s : Nat} (hs : 0 < s) : ∀ (f g : Nat) (l : List α), l.length < f → l.length < g → blks le s f l = blks le s g l
  | f + 1, g + 1, l, h1, h2 => by
    unfold blks
    split
    · rfl
    · rw [blks_fuel hs f g (l.drop s) (by rw [List.length_drop]; omega) (by rw [List.length_drop]; omega)]
theorem bk_small {s : Nat} {l : List α} (h : l.length ≤ s) : bk le s l = srt le l := by unfold bk blks; rw [if_pos h]
theorem bk_step {s : Nat} (hs : 0 < s) {l : List α} (h : s ≤ l.length) : bk le s l = srt le (l.take s) ++ bk le s (l.drop s) := by
  by_cases e : l.length ≤ s
  · rw [bk_small e, List.take_of_length_le e, List.drop_eq_nil_of_le e, bk_small (by simp)]
    simp [srt_nil]
  · unfold bk
    rw [show blks le s (l.length + 1) l = srt le (l.take s) ++ blks le s l.length (l.drop s) from if_neg e]
    congr 1
    exact blks_fuel hs _ _ _ (by rw [List.length_drop]; omega) (by rw [List.length_drop]; omega)
theorem bk_len {s : Nat} (hs : 0 < s) : ∀ (k : Nat) (l : List α), l.length ≤ k → (bk le s l).length = l.length
  | k, l, h => by
    by_cases e : l.length ≤ s
    · rw [bk_small e, srt_len]
    · cases k with
      | zero => omega
      | succ k =>
        rw [bk_step hs (by omega), List.length_append, srt_len, bk_len hs k (l.drop s) (by rw [List.length_drop]; omega), List.length_take, List.length_drop]
        omega
/-- two blocks, merged, are one of twice as many -/
theorem bk_two (hp : Pre le) {s : Nat} (l : List α) : mrg le (srt le (l.take s)) (srt le ((l.drop s).take s)) = srt le (l.take (2 * s)) := by
  rw [← srt_append hp, show 2 * s = s + s by omega, List.take_add]
end
end Go.Proofs.Ytdjlnpiaehoofaa
end

/- the order of versions: an order in which any two stand. By an AI agent. -/
section
set_option linter.unusedVariables false
set_option linter.unusedSimpArgs false
namespace Go.Proofs.Ytdjlnpiaehoofaa
open Go.RowKit

theorem cmpI_lt {x y : Int} : Lib.compareInt x y < 0 ↔ x < y := by
  unfold Lib.compareInt
  split
  · simp; omega
  · split
    · simp; omega
    · simp; omega
theorem cmpI_neg (x y : Int) : Lib.compareInt y x = - Lib.compareInt x y := by
  unfold Lib.compareInt
  by_cases h1 : x < y
  · rw [if_pos h1, if_neg (by omega), if_pos h1]; rfl
  · by_cases h2 : y < x
    · rw [if_pos h2, if_neg h1, if_pos h2]
    · rw [if_neg h2, if_neg h1, if_neg h1, if_neg h2]; rfl
theorem cmpV_neg : ∀ xs ys : List Int, cmpV ys xs = - cmpV xs ys
  | [], [] => rfl
  | [], _ :: _ => rfl
  | _ :: _, [] => rfl
  | x :: xs, y :: ys => by
    unfold cmpV
    rw [cmpI_neg x y]
    by_cases h : Lib.compareInt x y = 0
    · rw [if_pos h, if_pos (by omega), cmpV_neg xs ys]
    · rw [if_neg h, if_neg (by omega)]
theorem cmpV_zero : ∀ {xs ys : List Int}, cmpV xs ys = 0 ↔ xs = ys
  | [], [] => by simp [cmpV]
  | [], _ :: _ => by simp [cmpV]
  | _ :: _, [] => by simp [cmpV]
  | x :: xs, y :: ys => by
    unfold cmpV
    by_cases h : Lib.compareInt x y = 0
    · rw [if_pos h, cmpV_zero, List.cons.injEq]
      have := compare_zero.1 h
      simp [this]
    · rw [if_neg h]
      constructor
      · exact fun e => absurd e h
      · intro e
        rw [List.cons.injEq] at e
        exact absurd (compare_zero.2 e.1) h
theorem cmpV_trans : ∀ {xs ys zs : List Int}, cmpV xs ys < 0 → cmpV ys zs < 0 → cmpV xs zs < 0
  | [], [], _, h, _ => by simp [cmpV] at h
  | [], _ :: _, [], _, h => by simp [cmpV] at h
  | [], _ :: _, _ :: _, _, _ => by simp [cmpV]
  | _ :: _, [], _, h, _ => by simp [cmpV] at h
  | _ :: _, _ :: _, [], _, h => by simp [cmpV] at h
  | x :: xs, y :: ys, z :: zs, h1, h2 => by
    unfold cmpV at h1 h2 ⊢
    by_cases e1 : Lib.compareInt x y = 0
    · have f1 := compare_zero.1 e1
      subst f1
      rw [if_pos e1] at h1
      by_cases e2 : Lib.compareInt x z = 0
      · rw [if_pos e2] at h2 ⊢
        exact cmpV_trans h1 h2
      · rw [if_neg e2] at h2 ⊢
        exact h2
    · rw [if_neg e1] at h1
      have g1 := cmpI_lt.1 h1
      by_cases e2 : Lib.compareInt y z = 0
      · have f2 := compare_zero.1 e2
        subst f2
        rw [if_neg e1]; exact h1
      · rw [if_neg e2] at h2
        have g2 := cmpI_lt.1 h2
        have g3 : Lib.compareInt x z < 0 := cmpI_lt.2 (by omega)
        rw [if_neg (by omega)]; exact g3
/-- a version stands ahead of another one -/
def LtV (a b : VerL) : Prop :=
  timeL b < timeL a ∨ (timeL b = timeL a ∧ (b.origin < a.origin ∨ (b.origin = a.origin ∧ (b.tx < a.tx ∨ (b.tx = a.tx ∧ (a.at_.length < b.at_.length ∨ (a.at_.length = b.at_.length ∧ cmpV a.at_ b.at_ < 0)))))))
/-- of one stamp -/
def AlV (a b : VerL) : Prop := timeL a = timeL b ∧ a.origin = b.origin ∧ a.tx = b.tx ∧ a.at_ = b.at_
theorem orL_cons (x : Int) (xs : List Int) : orL (x :: xs) = if x = 0 then orL xs else x := rfl
theorem orderL_lt {a b : VerL} : orderL a b < 0 ↔ LtV a b := by
  unfold orderL LtV
  rw [orL_cons]
  by_cases h1 : Lib.compareInt (timeL b) (timeL a) = 0
  · have e1 := compare_zero.1 h1
    rw [if_pos h1, orL_cons]
    by_cases h2 : Lib.compareInt b.origin a.origin = 0
    · have e2 := compare_zero.1 h2
      rw [if_pos h2, orL_cons]
      by_cases h3 : Lib.compareInt b.tx a.tx = 0
      · have e3 := compare_zero.1 h3
        rw [if_pos h3, orL_cons]
        by_cases h4 : Lib.compareInt (a.at_.length : Int) (b.at_.length : Int) = 0
        · have e4 := compare_zero.1 h4
          rw [if_pos h4, orL_cons]
          have e5 : orL [] = 0 := rfl
          by_cases h5 : cmpV a.at_ b.at_ = 0
          · rw [if_pos h5, e5]
            constructor
            · intro h; omega
            · intro h; omega
          · rw [if_neg h5]
            constructor
            · intro h; exact .inr ⟨e1, .inr ⟨e2, .inr ⟨e3, .inr ⟨by omega, h⟩⟩⟩⟩
            · intro h; omega
        · rw [if_neg h4, cmpI_lt]
          have e4 : (a.at_.length : Int) ≠ (b.at_.length : Int) := fun e => h4 (compare_zero.2 e)
          omega
      · rw [if_neg h3, cmpI_lt]
        have e3 : b.tx ≠ a.tx := fun e => h3 (compare_zero.2 e)
        omega
    · rw [if_neg h2, cmpI_lt]
      have e2 : b.origin ≠ a.origin := fun e => h2 (compare_zero.2 e)
      omega
  · rw [if_neg h1, cmpI_lt]
    have e1 : timeL b ≠ timeL a := fun e => h1 (compare_zero.2 e)
    omega
theorem orderL_zero {a b : VerL} : orderL a b = 0 ↔ AlV a b := by
  unfold orderL AlV
  rw [orL_cons]
  by_cases h1 : Lib.compareInt (timeL b) (timeL a) = 0
  · have e1 := compare_zero.1 h1
    rw [if_pos h1, orL_cons]
    by_cases h2 : Lib.compareInt b.origin a.origin = 0
    · have e2 := compare_zero.1 h2
      rw [if_pos h2, orL_cons]
      by_cases h3 : Lib.compareInt b.tx a.tx = 0
      · have e3 := compare_zero.1 h3
        rw [if_pos h3, orL_cons]
        by_cases h4 : Lib.compareInt (a.at_.length : Int) (b.at_.length : Int) = 0
        · rw [if_pos h4, orL_cons]
          have e5 : orL [] = 0 := rfl
          by_cases h5 : cmpV a.at_ b.at_ = 0
          · rw [if_pos h5, e5]
            exact ⟨fun _ => ⟨e1.symm, e2.symm, e3.symm, cmpV_zero.1 h5⟩, fun _ => rfl⟩
          · rw [if_neg h5]
            exact ⟨fun e => absurd e h5, fun e => absurd (cmpV_zero.2 e.2.2.2) h5⟩
        · rw [if_neg h4]
          exact ⟨fun e => absurd e h4, fun e => absurd (compare_zero.2 (by rw [e.2.2.2])) h4⟩
      · rw [if_neg h3]
        exact ⟨fun e => absurd e h3, fun e => absurd (compare_zero.2 e.2.2.1.symm) h3⟩
    · rw [if_neg h2]
      exact ⟨fun e => absurd e h2, fun e => absurd (compare_zero.2 e.2.1.symm) h2⟩
  · rw [if_neg h1]
    exact ⟨fun e => absurd e h1, fun e => absurd (compare_zero.2 e.1.symm) h1⟩
theorem LtV.trans {a b c : VerL} (h : LtV a b) (k : LtV b c) : LtV a c := by
  have ht := fun (x : cmpV a.at_ b.at_ < 0) (y : cmpV b.at_ c.at_ < 0) => cmpV_trans x y
  unfold LtV at *
  omega
theorem LtV.irrefl {a : VerL} (h : LtV a a) : False := by
  have hz : cmpV a.at_ a.at_ = 0 := cmpV_zero.2 rfl
  unfold LtV at h
  omega
theorem ltV_total (a b : VerL) : LtV a b ∨ AlV a b ∨ LtV b a := by
  have h1 := cmpV_neg a.at_ b.at_
  have h2 := @cmpV_zero a.at_ b.at_
  unfold LtV AlV
  by_cases e : a.at_ = b.at_
  · rw [e]; simp; omega
  · have : cmpV a.at_ b.at_ ≠ 0 := fun q => e (h2.1 q)
    omega
theorem AlV.refl (a : VerL) : AlV a a := ⟨rfl, rfl, rfl, rfl⟩
theorem AlV.symm {a b : VerL} (h : AlV a b) : AlV b a := ⟨h.1.symm, h.2.1.symm, h.2.2.1.symm, h.2.2.2.symm⟩
theorem AlV.trans {a b c : VerL} (h : AlV a b) (k : AlV b c) : AlV a c := ⟨h.1.trans k.1, h.2.1.trans k.2.1, h.2.2.1.trans k.2.2.1, h.2.2.2.trans k.2.2.2⟩
theorem LtV.al {a b c : VerL} (h : LtV a b) (k : AlV b c) : LtV a c := by
  obtain ⟨k1, k2, k3, k4⟩ := k
  unfold LtV at *
  rw [← k1, ← k2, ← k3, ← k4]; exact h
theorem AlV.lt {a b c : VerL} (k : AlV a b) (h : LtV b c) : LtV a c := by
  obtain ⟨k1, k2, k3, k4⟩ := k
  unfold LtV at *
  rw [k1, k2, k3, k4]; exact h
/-- ahead of, or of one stamp -/
def leV (a b : VerL) : Bool := !(decide (orderL b a < 0))
theorem leV_iff {a b : VerL} : leV a b = true ↔ ¬ LtV b a := by
  unfold leV
  rw [Bool.not_eq_true', decide_eq_false_iff_not, orderL_lt]
theorem leV_pre : Pre leV := by
  refine ⟨fun a b => ?_, fun a b c h1 h2 => ?_⟩
  · rw [leV_iff, leV_iff]
    by_cases h : LtV b a
    · exact .inr (fun k => (h.trans k).irrefl)
    · exact .inl h
  · rw [leV_iff] at *
    intro h
    rcases ltV_total a b with q | q | q
    · exact h2 (h.trans q)
    · exact h2 (h.al q)
    · exact h1 q
end Go.Proofs.Ytdjlnpiaehoofaa
end

/- contracts of the package op with structs taken apart. By an AI agent. -/
section
namespace Go.Proofs.Ytdjlnpiaehoofaa
open Go.RowKit

theorem after_agg (key : ByteArray) (vb : Bool) (vx : Nat) (vn : Int) (vs : ByteArray) (k : Int) (x : Nat) (n : Int) (s : ByteArray) (rb : Bool) (rx : Nat) (rn : Int) (rs : ByteArray) (w : World)
    (h : Hid (afterL key ⟨vb, vx, vn, vs⟩ ⟨k, x, n, s⟩ = ⟨rb, rx, rn, rs⟩)) (hkey : key.size ≤ 140737488351232) (ov : Hid (ValL.Ok ⟨vb, vx, vn, vs⟩)) (oa : Hid (ActL.Ok ⟨k, x, n, s⟩)) :
    Calls Try.prog 48 #[.string key, .agg #[.bool vb, .float .f64 vx, .int .i64 vn, .string vs], .agg #[.int .i64 k, .float .f64 x, .int .i64 n, .string s]] w fun e w' => e = .returned (.agg #[.bool rb, .float .f64 rx, .int .i64 rn, .string rs]) ∧ Bl w w' := by
  refine (after_any key ⟨vb, vx, vn, vs⟩ ⟨k, x, n, s⟩ w hkey ov.out oa.out).mono ?_
  rintro e w' ⟨rfl, hb⟩
  rw [h.out]
  exact ⟨rfl, hb⟩
theorem fits_agg (key : ByteArray) (k : Int) (x : Nat) (n : Int) (s : ByteArray) (r : Bool) (w : World)
    (h : Hid (fitsB key ⟨k, x, n, s⟩ = r)) (hkey : key.size ≤ 140737488351232) (oa : Hid (ActL.Ok ⟨k, x, n, s⟩)) :
    Calls Try.prog 19 #[.string key, .agg #[.int .i64 k, .float .f64 x, .int .i64 n, .string s]] w fun e w' => e = .returned (.bool r) ∧ Bl w w' := by
  refine (fits_any key ⟨k, x, n, s⟩ w hkey oa.out).mono ?_
  rintro e w' ⟨rfl, hb⟩
  rw [h.out]
  exact ⟨rfl, hb⟩
end Go.Proofs.Ytdjlnpiaehoofaa
end

/- op.Both, with structs taken apart. By an AI agent. -/
section
set_option linter.unusedVariables false
set_option linter.unusedSimpArgs false
namespace Go.Proofs.Ytdjlnpiaehoofaa
open Go.RowKit

theorem both_agg (key : ByteArray) (l : Int) (y : Nat) (m : Int) (t : ByteArray) (k : Int) (x : Nat) (n : Int) (s : ByteArray) (rk : Int) (rx : Nat) (rn : Int) (rs : ByteArray) (w : World)
    (h : Hid (bothL key ⟨l, y, m, t⟩ ⟨k, x, n, s⟩ = ⟨rk, rx, rn, rs⟩)) (hkey : key.size ≤ 140737488351232) (ob : Hid (ActL.Ok ⟨l, y, m, t⟩)) (oa : Hid (ActL.Ok ⟨k, x, n, s⟩)) :
    Calls Try.prog 45 #[.string key, .agg #[.int .i64 l, .float .f64 y, .int .i64 m, .string t], .agg #[.int .i64 k, .float .f64 x, .int .i64 n, .string s]] w fun e w' => e = .returned (.agg #[.int .i64 rk, .float .f64 rx, .int .i64 rn, .string rs]) ∧ Bl w w' := by
  refine (both_any key ⟨l, y, m, t⟩ ⟨k, x, n, s⟩ w hkey ob.out oa.out).mono ?_
  rintro e w' ⟨rfl, hb⟩
  rw [h.out]
  exact ⟨rfl, hb⟩
end Go.Proofs.Ytdjlnpiaehoofaa
end

/- op.Value of keys whose acts add up. By an AI agent. -/
section
namespace Go.Proofs.Ytdjlnpiaehoofaa
open Go.RowKit
attribute [local go_sem] eOp eOper eUpon

def noVer : VerL := ⟨nilS, [], 0, 0, ⟨0, 0, 0, nilS⟩⟩
def nthR (vs : List VerL) (j : Nat) : VerL := (vs[j]?).getD noVer
theorem nthR_eq {vs : List VerL} {j : Nat} (h : j < vs.length) : nthR vs j = vs[j] := by simp [nthR, h]
theorem take_nthR {vs : List VerL} {k : Nat} (h : k < vs.length) : vs.take (k + 1) = vs.take k ++ [nthR vs k] := by
  rw [nthR_eq h]; exact List.take_succ_eq_append_getElem h
/-- one element of a slice of versions: its eight cells -/
structure VE (w : World) (b off : Nat) (v : VerL) : Prop where
  c0 : w.cell? ⟨b, off, none⟩ = some (.string v.key)
  at_ : ∃ a n ca, w.cell? ⟨b, off + 1, none⟩ = some (.slice a n ca) ∧ IA w a n v.at_
  c2 : w.cell? ⟨b, off + 2, none⟩ = some (.int .i64 v.origin)
  c3 : w.cell? ⟨b, off + 3, none⟩ = some (.int .i64 v.tx)
  c4 : w.cell? ⟨b, off + 4, none⟩ = some (.int .i64 v.act.k)
  c5 : w.cell? ⟨b, off + 5, none⟩ = some (.float .f64 v.act.x)
  c6 : w.cell? ⟨b, off + 6, none⟩ = some (.int .i64 v.act.n)
  c7 : w.cell? ⟨b, off + 7, none⟩ = some (.string v.act.s)
  ok : v.act.Ok
theorem VE.keep {w w' : World} {b off : Nat} {v : VerL} (h : VE w b off v) (k : Bl w w') : VE w' b off v := by
  obtain ⟨a, n, ca, h1, h2⟩ := h.at_
  exact ⟨k.cell h.c0, ⟨a, n, ca, k.cell h1, h2.keep k⟩, k.cell h.c2, k.cell h.c3, k.cell h.c4, k.cell h.c5, k.cell h.c6, k.cell h.c7, h.ok⟩
/-- a slice of n versions at a reads as vs -/
structure VA (w : World) (a : Option Addr) (n : Nat) (vs : List VerL) : Prop where
  len : vs.length = n
  cap : n ≤ 140737488351232
  cells : ∀ j, j < n → ∃ b off, a = some ⟨b, off, none⟩ ∧ ∀ j, j < n → VE w b (off + j * 8) (nthR vs j)
theorem VA.keep {w w' : World} {a : Option Addr} {n : Nat} {vs : List VerL} (h : VA w a n vs) (hb : Bl w w') : VA w' a n vs :=
  ⟨h.len, h.cap, fun j hj => by
    obtain ⟨b, off, e, hc⟩ := h.cells j hj
    exact ⟨b, off, e, fun j hj => (hc j hj).keep hb⟩⟩

/-- what a key has that adds up -/
def outL (key : ByteArray) (vs : List VerL) : ValL := vs.foldl (fun o v => afterL key o v.act) noVal
theorem outL_snoc (key : ByteArray) (vs : List VerL) (v : VerL) : outL key (vs ++ [v]) = afterL key (outL key vs) v.act := by simp [outL]
theorem outL_ok {key : ByteArray} {vs : List VerL} (h : ∀ v ∈ vs, v.act.Ok) : (outL key vs).Ok := by
  unfold outL
  suffices ∀ (vs : List VerL) (o : ValL), o.Ok → (∀ v ∈ vs, v.act.Ok) → (vs.foldl (fun o v => afterL key o v.act) o).Ok from this vs _ noVal_ok h
  intro vs
  induction vs with
  | nil => intro o ho _; exact ho
  | cons v vs ih =>
    intro o ho h
    exact ih _ (after_ok ho (h v (by simp))) (fun u hu => h u (by simp [hu]))
theorem VA.oks {w : World} {a : Option Addr} {n : Nat} {vs : List VerL} (h : VA w a n vs) : ∀ v ∈ vs, v.act.Ok := by
  intro v hv
  obtain ⟨j, hj, rfl⟩ := List.mem_iff_getElem.1 hv
  obtain ⟨b, off, _, hc⟩ := h.cells j (by rw [← h.len]; exact hj)
  have := (hc j (by rw [← h.len]; exact hj)).ok
  rwa [nthR_eq hj] at this
/-- the two boxes of op.Value -/
structure OV (w W : World) (b : Bool) (x : Nat) (n : Int) (s : ByteArray) : Prop where
  bl : Bl w W
  r : AC W w.heap.size [.bool false, .float .f64 0, .int .i64 0, .string ⟨#[]⟩]
  o : AC W (w.heap.size + 1) [.bool b, .float .f64 x, .int .i64 n, .string s]
theorem OV.keep {w W W' : World} {b : Bool} {x : Nat} {n : Int} {s : ByteArray} (h : OV w W b x n s) (k : Bl W W') : OV w W' b x n s := ⟨h.bl.trans k, h.r.keep k, h.o.keep k⟩
theorem OV.new (w : World) (T U : TypeId) : OV w ((w.alloc (.cells #[.bool false, .float .f64 0, .int .i64 0, .string ⟨#[]⟩] T)).alloc (.cells #[.bool false, .float .f64 0, .int .i64 0, .string ⟨#[]⟩] U)) false 0 0 ⟨#[]⟩ :=
  ⟨((Bl.refl w).alloc _).alloc _, (AC.new w _ rfl [.bool false, .float .f64 0, .int .i64 0, .string ⟨#[]⟩] T).keep ((Bl.refl _).alloc _), AC.new _ (w.heap.size + 1) (by simp) [.bool false, .float .f64 0, .int .i64 0, .string ⟨#[]⟩] U⟩
theorem OV.set {w W : World} {b : Bool} {x : Nat} {n : Int} {s : ByteArray} (h : OV w W b x n s) (b' : Bool) (x' : Nat) (n' : Int) (s' : ByteArray) :
    OV w ((((W.setCell ⟨w.heap.size + 1, 0, none⟩ (.bool b')).setCell ⟨w.heap.size + 1, 1, none⟩ (.float .f64 x')).setCell ⟨w.heap.size + 1, 2, none⟩ (.int .i64 n')).setCell ⟨w.heap.size + 1, 3, none⟩ (.string s')) b' x' n' s' :=
  ⟨h.bl.store4 (Nat.le_succ _) _ _ _ _, h.r.other4 (by omega) _ _ _ _, h.o.set4 _ _ _ _⟩

set_option maxHeartbeats 3200000 in
set_option maxRecDepth 100000 in
theorem value_num (key : ByteArray) (a : Option Addr) (n ca : Nat) (vs : List VerL) (w : World) (hkey : key.size ≤ 140737488351232) (hreg : regB key = false) (hv : VA w a n vs) :
    Calls Try.prog 29 #[.string key, .slice a n ca] w fun e w' => e = .returned (ValL.v (outL key vs)) ∧ Bl w w' := by
  have hsf := store_float
  have HL := Lib.hid hv.len
  have HOK := Lib.hid hv.oks
  have hcap := hv.cap
  have HR := Lib.hid hreg
  clear hreg
  go_enter Try.func29, Try.ntmps29
  go_wp2_with fail
  have G0 := OV.new w 38 38
  go_loopw [6, 11] (fun p i wr => ∃ k : Nat, k ≤ n ∧ p = .pointer none ∧ i = .int .i64 k ∧ OV w wr (outL key (vs.take k)).there (outL key (vs.take k)).x (outL key (vs.take k)).n (outL key (vs.take k)).s) (fun _ i _ => n - (intOf i).toNat)
  case atStart => exact ⟨0, Nat.zero_le _, rfl, rfl, G0⟩
  case round =>
    clear G0
    obtain ⟨k, hk, rfl, rfl, G⟩ := hrel
    by_cases hlt : k < n
    · obtain ⟨b, off, rfl, hc⟩ := hv.cells k hlt
      have E := (hc k hlt).keep G.bl
      clear hc
      have HS := Lib.hid (take_nthR (vs := vs) (k := k) (by rw [HL.out]; exact hlt))
      have HA := Lib.hid E.ok
      have HO := Lib.hid (outL_ok (key := key) (vs := vs.take k) (fun v hv => HOK.out v (List.mem_of_mem_take hv)))
      generalize hV : nthR vs k = V at *
      obtain ⟨O, hQ⟩ : ∃ O, outL key (vs.take k) = O := ⟨_, rfl⟩
      rw [hQ] at G HO
      have HQ := Lib.hid hQ
      clear hQ
      have e4 := E.c4
      have e5 := E.c5
      have e6 := E.c6
      have e7 := E.c7
      clear E
      obtain ⟨vk, va, vo, vt, ⟨k1, x1, n1, s1⟩⟩ := V
      obtain ⟨ob, ox, on, oz⟩ := O
      simp only at e4 e5 e6 e7
      obtain ⟨f, hf⟩ : ∃ f, fitsB key ⟨k1, x1, n1, s1⟩ = f := ⟨_, rfl⟩
      have HF := Lib.hid hf
      clear hf
      go_wp2_with fail
      refine (fits_agg key k1 x1 n1 s1 f _ HF hkey HA).mono ?_
      rintro e w2 ⟨rfl, hb2⟩
      have G := G.keep hb2
      replace e4 := hb2.cell e4
      replace e5 := hb2.cell e5
      replace e6 := hb2.cell e6
      replace e7 := hb2.cell e7
      clear hb2
      cases f
      · have HN : Hid (afterL key ⟨ob, ox, on, oz⟩ ⟨k1, x1, n1, s1⟩ = ⟨ob, ox, on, oz⟩) := Lib.hid (by unfold afterL; rw [HF.out]; rfl)
        go_wp2_with fail
        go_roundw
        case rel => exact ⟨k + 1, by omega, rfl, by go_num, by rw [HS.out, outL_snoc]; show OV w w2 _ _ _ _; rw [HQ.out, HN.out]; exact G⟩
        case measure => simp [intOf]; omega
      · go_wp2_with fail
        refine (registers_any key _ hkey).mono ?_
        rintro e w3 ⟨rfl, rfl⟩
        rw [HR.out]
        obtain ⟨o0, o1, o2, o3⟩ := G.o.val
        go_wp2_with fail
        obtain ⟨wd, hwd⟩ : ∃ wd, wd = w2.drew := ⟨_, rfl⟩
        have G := G.keep (show Bl w2 wd by rw [hwd]; exact (Bl.refl w2).drew)
        go_still_tail 6, (by kernel_rfl)
        change wpList _ _ _ _ _ w2.drew
        rw [← hwd]
        clear hwd o0 o1 o2 o3 e4 e5 e6 e7
        obtain ⟨R, hR⟩ : ∃ R, afterL key ⟨ob, ox, on, oz⟩ ⟨k1, x1, n1, s1⟩ = R := ⟨_, rfl⟩
        obtain ⟨rb, rx, rn, rz⟩ := R
        have HRR := Lib.hid hR
        clear hR
        go_wp2_with fail
        refine (after_agg key ob ox on oz k1 x1 n1 s1 rb rx rn rz _ HRR hkey HO HA).mono ?_
        rintro e w4 ⟨rfl, hb4⟩
        have G := G.keep hb4
        obtain ⟨o0, o1, o2, o3⟩ := G.o.val
        have f0 := G.o.frozen
        go_wp2_with fail
        go_roundw
        case rel => exact ⟨k + 1, by omega, rfl, by go_num, by rw [HS.out, outL_snoc]; show OV w _ _ _ _ _; rw [HQ.out, HRR.out]; exact G.set _ _ _ _⟩
        case measure => simp [intOf]; omega
    · have hE : vs.take k = vs := List.take_of_length_le (by have := HL.out; omega)
      rw [hE] at G
      have HO := Lib.hid (outL_ok (key := key) HOK.out)
      obtain ⟨O, hQ⟩ : ∃ O, outL key vs = O := ⟨_, rfl⟩
      rw [hQ] at G HO
      have HQ := Lib.hid hQ
      clear hQ
      obtain ⟨ob, ox, on, oz⟩ := O
      simp only at G
      obtain ⟨o0, o1, o2, o3⟩ := G.o.val
      obtain ⟨r0, r1, r2, r3⟩ := G.r.val
      have fr := G.r.frozen
      clear hE
      go_wp2_with fail
      have R := G.r.set4 (.bool ob) (.float .f64 ox) (.int .i64 on) (.string oz)
      obtain ⟨d0, d1, d2, d3⟩ := R.val
      refine bodyPost_ret (v := .agg #[.bool ob, .float .f64 ox, .int .i64 on, .string oz]) (by simp [results, Try.results29, go_sem, d0, d1, d2, d3]) rfl ⟨by rw [HQ.out]; rfl, G.bl.store4 (Nat.le_refl _) _ _ _ _⟩
end Go.Proofs.Ytdjlnpiaehoofaa
end
