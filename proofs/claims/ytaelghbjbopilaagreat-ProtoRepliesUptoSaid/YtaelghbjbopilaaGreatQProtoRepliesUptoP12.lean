import Derived.Test.YtaelghbjbopilaaGreatQProtoRepliesUptoP11
import Derived.Deep.DeepCutAuto
import Derived.Deep.QuietTactic
import Derived.Test.YtaelghbjbopilaaGreatQProtoRepliesUptoP1

/- proto.of: what a kind of request uses. By an AI agent. -/
section
set_option linter.unusedVariables false
set_option linter.unusedSimpArgs false
namespace Go.Proofs.YtaelghbjbopilaaGreat
open Go.RowKit

/-- what a kind uses, as the program has it -/
def usesV (k : Int) : List Value := [.bool (uSes k), .bool (uAt k), .bool (uTx k), .bool (uKey k), .bool (uAct k), .bool (uText k), .bool (uNum k), .bool (uId k)]
theorem of_results {tmps : Array Value} {W : World} {g : Nat} {b : Bool} {c0 c1 c2 c3 c4 c5 c6 c7 : Value} (h : tmps.getD 2 undef = .pointer (some ⟨g, 0, none⟩)) (h3 : tmps.getD 3 undef = .bool b) (hc : AC W g [c0, c1, c2, c3, c4, c5, c6, c7]) :
    (results Tryz.f163 tmps).run Tryz.prog W = .ok (.tuple #[.agg #[c0, c1, c2, c3, c4, c5, c6, c7], .bool b]) W := by
  rw [Array.getD_eq_getD_getElem?] at h h3
  have k0 := hc.cell 0 _ rfl
  have k1 := hc.cell 1 _ rfl
  have k2 := hc.cell 2 _ rfl
  have k3 := hc.cell 3 _ rfl
  have k4 := hc.cell 4 _ rfl
  have k5 := hc.cell 5 _ rfl
  have k6 := hc.cell 6 _ rfl
  have k7 := hc.cell 7 _ rfl
  simp [results, Tryz.results163, go_sem, h, h3, k0, k1, k2, k3, k4, k5, k6, k7]

/-- what all kinds use -/
def usesT : List Value := [.bool false, .bool false, .bool false, .bool false, .bool false, .bool false, .bool false, .bool false, .bool true, .bool false, .bool false, .bool false, .bool false, .bool false, .bool false, .bool false, .bool true, .bool true, .bool false, .bool false, .bool false, .bool false, .bool false, .bool false, .bool true, .bool false, .bool true, .bool true, .bool false, .bool false, .bool false, .bool false, .bool true, .bool false, .bool true, .bool true, .bool true, .bool false, .bool false, .bool false, .bool true, .bool false, .bool true, .bool false, .bool false, .bool false, .bool false, .bool false, .bool true, .bool false, .bool true, .bool false, .bool false, .bool false, .bool false, .bool false, .bool true, .bool false, .bool true, .bool true, .bool false, .bool true, .bool true, .bool false, .bool true, .bool true, .bool false, .bool false, .bool false, .bool false, .bool true, .bool false, .bool true, .bool false, .bool false, .bool false, .bool false, .bool false, .bool true, .bool true, .bool true, .bool false, .bool false, .bool false, .bool false, .bool false, .bool false, .bool true, .bool true, .bool false, .bool false, .bool false, .bool false, .bool false, .bool false, .bool false, .bool true, .bool false, .bool false, .bool false, .bool false, .bool false, .bool false, .bool false, .bool true, .bool false, .bool false, .bool false, .bool false, .bool false, .bool false, .bool false, .bool true, .bool true, .bool false, .bool false, .bool false, .bool false, .bool false, .bool false, .bool true, .bool false, .bool false, .bool false, .bool false, .bool true, .bool false, .bool false]
theorem usesT_get (k : Nat) (h : k < 16) : usesT[k * 8]? = some (.bool (uSes k)) ∧ usesT[k * 8 + 1]? = some (.bool (uAt k)) ∧ usesT[k * 8 + 2]? = some (.bool (uTx k)) ∧ usesT[k * 8 + 3]? = some (.bool (uKey k)) ∧
    usesT[k * 8 + 4]? = some (.bool (uAct k)) ∧ usesT[k * 8 + 5]? = some (.bool (uText k)) ∧ usesT[k * 8 + 6]? = some (.bool (uNum k)) ∧ usesT[k * 8 + 7]? = some (.bool (uId k)) := by
  have hk : k = 0 ∨ k = 1 ∨ k = 2 ∨ k = 3 ∨ k = 4 ∨ k = 5 ∨ k = 6 ∨ k = 7 ∨ k = 8 ∨ k = 9 ∨ k = 10 ∨ k = 11 ∨ k = 12 ∨ k = 13 ∨ k = 14 ∨ k = 15 := by omega
  rcases hk with rfl | rfl | rfl | rfl | rfl | rfl | rfl | rfl | rfl | rfl | rfl | rfl | rfl | rfl | rfl | rfl <;> exact ⟨rfl, rfl, rfl, rfl, rfl, rfl, rfl, rfl⟩
theorem AC.uses {W : World} {g : Nat} (h : AC W g usesT) (k : Nat) (hk : k < 16) : W.cell? ⟨g, k * 8, none⟩ = some (.bool (uSes k)) ∧ W.cell? ⟨g, k * 8 + 1, none⟩ = some (.bool (uAt k)) ∧ W.cell? ⟨g, k * 8 + 2, none⟩ = some (.bool (uTx k)) ∧ W.cell? ⟨g, k * 8 + 3, none⟩ = some (.bool (uKey k)) ∧ W.cell? ⟨g, k * 8 + 4, none⟩ = some (.bool (uAct k)) ∧ W.cell? ⟨g, k * 8 + 5, none⟩ = some (.bool (uText k)) ∧ W.cell? ⟨g, k * 8 + 6, none⟩ = some (.bool (uNum k)) ∧ W.cell? ⟨g, k * 8 + 7, none⟩ = some (.bool (uId k)) := by
  obtain ⟨h0, h1, h2, h3, h4, h5, h6, h7⟩ := usesT_get k hk
  exact ⟨h.cell _ _ h0, h.cell _ _ h1, h.cell _ _ h2, h.cell _ _ h3, h.cell _ _ h4, h.cell _ _ h5, h.cell _ _ h6, h.cell _ _ h7⟩
set_option maxHeartbeats 1600000 in
set_option maxRecDepth 100000 in
theorem of_yes (k : Nat) (w : World) (hk : k < 16) :
    Calls Tryz.prog 163 #[.int .i64 k] w fun e w' => e = .returned (.tuple #[.agg (usesV k).toArray, .bool true]) ∧ Bl w w' := by
  go_enter Tryz.func163, Tryz.ntmps163
  go_upto_region 1 with fail
  go_cut [4] (fun s4 W => s4 = .slice (some ⟨w.heap.size + 1, 0, none⟩) 16 16 ∧ Bl w W ∧ AC W w.heap.size [.bool false, .bool false, .bool false, .bool false, .bool false, .bool false, .bool false, .bool false] ∧ AC W (w.heap.size + 1) usesT)
  case first =>
    go_wp2_with fail
    go_meet
    case rel => exact ⟨rfl, ((Bl.refl w).alloc _).alloc _, (AC.new w _ rfl [.bool false, .bool false, .bool false, .bool false, .bool false, .bool false, .bool false, .bool false] _).keep ((Bl.refl _).alloc _), AC.new _ (w.heap.size + 1) (by simp) usesT _⟩
  case rest =>
    obtain ⟨rfl, hb, hr, ht⟩ := hcut
    obtain ⟨d0, d1, d2, d3, d4, d5, d6, d7⟩ := ht.uses k hk
    have fr := hr.frozen
    have k0 := hr.cell 0 _ rfl
    have k1 := hr.cell 1 _ rfl
    have k2 := hr.cell 2 _ rfl
    have k3 := hr.cell 3 _ rfl
    have k4 := hr.cell 4 _ rfl
    have k5 := hr.cell 5 _ rfl
    have k6 := hr.cell 6 _ rfl
    have k7 := hr.cell 7 _ rfl
    have HR := Lib.hid hr
    have HB := Lib.hid hb
    clear hr hb ht
    have HU := Lib.hid (show usesV k = [.bool (uSes k), .bool (uAt k), .bool (uTx k), .bool (uKey k), .bool (uAct k), .bool (uText k), .bool (uNum k), .bool (uId k)] from rfl)
    generalize uSes k = b0 at *
    generalize uAt k = b1 at *
    generalize uTx k = b2 at *
    generalize uKey k = b3 at *
    generalize uAct k = b4 at *
    generalize uText k = b5 at *
    generalize uNum k = b6 at *
    generalize uId k = b7 at *
    go_wp2_with fail
    refine bodyPost_ret (of_results rfl rfl (HR.out.fill [.bool b0, .bool b1, .bool b2, .bool b3, .bool b4, .bool b5, .bool b6, .bool b7] rfl)) rfl ⟨by rw [HU.out], ?_⟩
    exact Bl.fill (Nat.le_refl _) [.bool b0, .bool b1, .bool b2, .bool b3, .bool b4, .bool b5, .bool b6, .bool b7] wc 0 HB.out
set_option maxHeartbeats 1600000 in
set_option maxRecDepth 100000 in
theorem of_no (k : Int) (w : World) (hk : k < 0 ∨ 16 ≤ k) :
    Calls Tryz.prog 163 #[.int .i64 k] w fun e w' => e = .returned (.tuple #[.agg #[.bool false, .bool false, .bool false, .bool false, .bool false, .bool false, .bool false, .bool false], .bool false]) ∧ Bl w w' := by
  go_enter Tryz.func163, Tryz.ntmps163
  go_upto_region 1 with fail
  go_cut [4] (fun s4 W => s4 = .slice (some ⟨w.heap.size + 1, 0, none⟩) 16 16 ∧ Bl w W ∧ AC W w.heap.size [.bool false, .bool false, .bool false, .bool false, .bool false, .bool false, .bool false, .bool false])
  case first =>
    go_wp2_with fail
    go_meet
    case rel => exact ⟨rfl, ((Bl.refl w).alloc _).alloc _, (AC.new w _ rfl [.bool false, .bool false, .bool false, .bool false, .bool false, .bool false, .bool false, .bool false] _).keep ((Bl.refl _).alloc _)⟩
  case rest =>
    obtain ⟨rfl, hb, hr⟩ := hcut
    have fr := hr.frozen
    have k0 := hr.cell 0 _ rfl
    have k1 := hr.cell 1 _ rfl
    have k2 := hr.cell 2 _ rfl
    have k3 := hr.cell 3 _ rfl
    have k4 := hr.cell 4 _ rfl
    have k5 := hr.cell 5 _ rfl
    have k6 := hr.cell 6 _ rfl
    have k7 := hr.cell 7 _ rfl
    have HR := Lib.hid hr
    have HB := Lib.hid hb
    clear hr hb
    by_cases hk0 : k < 0
    · go_wp2_with fail
      refine bodyPost_ret (of_results rfl rfl (HR.out.fill [.bool false, .bool false, .bool false, .bool false, .bool false, .bool false, .bool false, .bool false] rfl)) rfl ⟨rfl, ?_⟩
      exact Bl.fill (Nat.le_refl _) [.bool false, .bool false, .bool false, .bool false, .bool false, .bool false, .bool false, .bool false] wc 0 HB.out
    · have hk1 : 16 ≤ k := by omega
      clear hk
      go_wp2_with fail
      refine bodyPost_ret (of_results rfl rfl (HR.out.fill [.bool false, .bool false, .bool false, .bool false, .bool false, .bool false, .bool false, .bool false] rfl)) rfl ⟨rfl, ?_⟩
      exact Bl.fill (Nat.le_refl _) [.bool false, .bool false, .bool false, .bool false, .bool false, .bool false, .bool false, .bool false] wc 0 HB.out
end Go.Proofs.YtaelghbjbopilaaGreat
end

/- Regions that draw their order and whose calls make memory: an operation that tells the same in every world that goes on from the region's first one, and only goes on from the world that it got, may be taken first. · Regions that draw their order: the operations that may be taken first, named by their numbers. By an AI agent. -/
section
namespace Go.Proofs.YtaelghbjbopilaaGreat
open Go.RowKit

/-- a world of a class -/
def ExtC (C : World → Prop) : Type := { w' : World // C w' }
def ExtC.at {C : World → Prop} (n : ExtC C) : World := n.val
theorem ExtC.ok {C : World → Prop} (n : ExtC C) : C n.at := n.property
/-- a world that goes on from w -/
abbrev Ext (w : World) : Type := ExtC (Bl w)
theorem ExtC.bl {w : World} (n : Ext w) : Bl w n.at := n.property
instance (w : World) : Nonempty (Ext w) := ⟨⟨w, Bl.refl w⟩⟩

section
variable {P : Program} {ops : Array Oper} {md : Region.Mode} {C : World → Prop}

/-- what is asked of an operation: it returns -/
def eUpon (P : Program) (o : Oper) (a : Act) (K : Act → World → Prop) : Result Next → Prop
  | .ok (.value u) w' => K (a.put o.dst u) w'
  | .ok .skip w' => K (a.put o.dst undef) w'
  | .ok (.enter f args) w' => Calls P f args w' (fun e w'' => ∃ v, e = .returned v ∧ K (a.put o.dst v) w'')
  | _ => False
def eOper (P : Program) (o : Oper) (a : Act) (w : World) (K : Act → World → Prop) : Prop := eUpon P o a K ((execOp a.eval o).run P w)
def eOp (P : Program) (ops : Array Oper) (i : Nat) (K : Act → World → Prop) (a : Act) (w : World) : Prop :=
  match ops[i]? with
  | none => K a w
  | some o => if Region.wanted o (yielded ops a.tmps) then eOper P o a w K else K (a.put o.dst undef) w

theorem eUpon_mono {o : Oper} {a : Act} {K K' : Act → World → Prop} (h : ∀ a w, K a w → K' a w) {r : Result Next} (hh : eUpon P o a K r) : eUpon P o a K' r := by
  cases r with
  | ok n w' =>
    cases n <;> simp only [eUpon] at hh ⊢
    case value u => exact h _ _ hh
    case skip => exact h _ _ hh
    case enter f args => exact hh.mono fun e w'' ⟨v, he, hk⟩ => ⟨v, he, h _ _ hk⟩
  | halt x w' => simp only [eUpon] at hh
theorem eOp_mono {i : Nat} {a : Act} {w : World} {K K' : Act → World → Prop} (h : ∀ a w, K a w → K' a w) (hh : eOp P ops i K a w) : eOp P ops i K' a w := by
  unfold eOp at *
  split
  · exact h _ _ (by simpa [*] using hh)
  · rename_i o ho
    simp only [ho] at hh
    split
    · rename_i hw; simp only [hw, if_true] at hh; exact eUpon_mono h hh
    · rename_i hw; simp only [hw] at hh; exact h _ _ hh
theorem wpOp_of_eOp {i : Nat} {a : Act} {w : World} {K : Act → World → Prop} {Q : Exit → Act → World → Prop} (hh : eOp P ops i K a w) : wpOp P ops Q i K a w := by
  unfold eOp at hh
  unfold wpOp
  split
  · rename_i ho; simp only [ho] at hh; exact hh
  · rename_i o ho
    simp only [ho] at hh
    split
    · rename_i hw
      simp only [hw, if_true] at hh
      refine .inl ?_
      unfold eOper at hh
      unfold Oper.wp
      generalize (execOp a.eval o).run P w = r at *
      cases r with
      | ok n w' =>
        cases n <;> simp only [eUpon] at hh <;> simp only [Oper.upon]
        case value u => exact hh
        case skip => exact hh
        case enter f args => exact hh.mono fun e w'' ⟨v, he, hk⟩ => by subst he; exact hk
      | halt x w' => simp only [eUpon] at hh
    · rename_i hw; simp only [hw] at hh; exact hh

/-- whatever order is picked from here on, and whatever is laid behind meanwhile -/
def wpAnyE (P : Program) (md : Region.Mode) (ops : Array Oper) (C : World → Prop) (Q : Act → World → Prop) : Nat → Array Bool → Act → World → Prop
  | 0, listed, a, w => Region.ready md ops listed = [] ∧ ∀ w', Bl w w' → Q a w'
  | fuel + 1, listed, a, w =>
    (Region.ready md ops listed = [] → ∀ w', Bl w w' → Q a w') ∧
    ∀ i ∈ Region.ready md ops listed, ∀ w', Bl w w' → eOp P ops i (fun a'' w'' => C w'' ∧ wpAnyE P md ops C Q fuel (listed.setIfInBounds i true) a'' w'') a w'

theorem wpAnyE_ext {Q : Act → World → Prop} : ∀ {fuel : Nat} {listed : Array Bool} {a : Act} {w w' : World}, Bl w w' → wpAnyE P md ops C Q fuel listed a w → wpAnyE P md ops C Q fuel listed a w'
  | 0, _, _, _, _, hb, h => ⟨h.1, fun w'' h2 => h.2 w'' (hb.trans h2)⟩
  | _ + 1, _, _, _, _, hb, h => ⟨fun h0 w'' h2 => h.1 h0 w'' (hb.trans h2), fun i hi w'' h2 => h.2 i hi w'' (hb.trans h2)⟩
theorem wpAny_of_E {Q : Act → World → Prop} {Q' : Exit → Act → World → Prop} (hQ : ∀ a w, Q a w → Q' .normal a w) : ∀ (fuel : Nat) (listed : Array Bool) (a : Act) (w : World),
    wpAnyE P md ops C Q fuel listed a w → wpAny P md ops Q' fuel listed a w
  | 0, _, _, _, h => ⟨h.1, hQ _ _ (h.2 _ (Bl.refl _))⟩
  | fuel + 1, _, _, _, h => ⟨fun h0 => hQ _ _ (h.1 h0 _ (Bl.refl _)), fun i hi => wpOp_mono (fun _ _ k => wpAny_of_E hQ fuel _ _ _ k.2) (wpOp_of_eOp (h.2 i hi _ (Bl.refl _)))⟩

/-- in every world that goes on from C the operation yields v and goes on from the world that it got -/
def YE (P : Program) (ops : Array Oper) (C : World → Prop) (o : Oper) (v : Value) (a : Act) : Prop :=
  (Region.wanted o (yielded ops a.tmps) = true ∧ ∀ w, C w → o.quietAt P a (fun w'' => Bl w w'') w v) ∨
  (Region.wanted o (yielded ops a.tmps) = false ∧ v = undef)
theorem YE.of_same {o : Oper} {v : Value} {a a' : Act} (hy : YE P ops C o v a) (he : execOp a'.eval o = execOp a.eval o)
    (hw : Region.wanted o (yielded ops a'.tmps) = Region.wanted o (yielded ops a.tmps)) : YE P ops C o v a' := by
  unfold YE Oper.quietAt at *
  rw [he, hw]
  exact hy
theorem YE.eOp {i : Nat} {o : Oper} {v : Value} {a : Act} {w : World} (hi : ops[i]? = some o) (hy : YE P ops C o v a) (hw0 : C w) {K : Act → World → Prop} (h : ∀ w', Bl w w' → K (a.put o.dst v) w') : eOp P ops i K a w := by
  unfold Go.Proofs.YtaelghbjbopilaaGreat.eOp
  simp only [hi]
  rcases hy with ⟨hw, hv⟩ | ⟨hw, rfl⟩
  · simp only [hw, if_true]
    have h3 := hv w hw0
    unfold Oper.quietAt at h3
    unfold eOper
    generalize (execOp a.eval o).run P w = r at *
    cases r with
    | ok n w' =>
      cases n <;> simp only [Oper.quietUpon] at h3 <;> simp only [eUpon]
      case value u =>
        obtain ⟨e1, e2⟩ := h3
        rw [e1, e2]; exact h _ (Bl.refl _)
      case skip =>
        obtain ⟨e1, e2⟩ := h3
        rw [e1, ← e2]; exact h _ (Bl.refl _)
      case enter f args =>
        obtain ⟨e1, hc⟩ := h3
        rw [e1]
        exact hc.mono fun e w'' ⟨he, hb⟩ => ⟨v, he, h _ hb⟩
    | halt x w' => simp only [Oper.quietUpon] at h3
  · simp only [hw, Bool.false_eq_true, if_false]; exact h _ (Bl.refl _)

/-- one operation, apart from another one whose value may be there already or not -/
theorem eOp_put {j : Nat} {oi oj : Oper} {v : Value} (hj : ops[j]? = some oj) (hap : oi.apart ops oj = true)
    (hsi : ∀ cs b, oi.op ≠ .select cs b) (hsj : ∀ cs b, oj.op ≠ .select cs b) {K : Act → World → Prop} {a : Act} {w : World}
    (hy : YE P ops C oi v a) (h : eOp P ops j K (a.put oi.dst v) w) :
    eOp P ops j (fun a' w' => YE P ops C oi v a' ∧ K (a'.put oi.dst v) w') a w := by
  obtain ⟨h1, h2, h3⟩ := Oper.apart_spec hap
  have keep : ∀ (a : Act), YE P ops C oi v a → ∀ u, YE P ops C oi v (a.put oj.dst u) := fun a hy u =>
    hy.of_same (execOp_put oi hsi a oj.dst u h3) (wanted_put oi a oj.dst u h3)
  unfold Go.Proofs.YtaelghbjbopilaaGreat.eOp at *
  simp only [hj] at *
  rw [wanted_put oj a oi.dst v h1] at h
  split
  · rename_i hw
    simp only [hw, if_true] at h
    unfold eOper at *
    rw [execOp_put oj hsj a oi.dst v h1] at h
    generalize (execOp a.eval oj).run P w = r at *
    cases r with
    | ok n w' =>
      cases n <;> simp only [eUpon] at h ⊢
      case value u => exact ⟨keep a hy u, by rw [← Act.put_comm a v u h2]; exact h⟩
      case skip => exact ⟨keep a hy _, by rw [← Act.put_comm a v undef h2]; exact h⟩
      case enter f args => exact h.mono fun e w'' ⟨u, he, hk⟩ => ⟨u, he, keep a hy u, by rw [← Act.put_comm a v u h2]; exact hk⟩
    | halt x w' => simp only [eUpon] at h
  · rename_i hw
    simp only [hw] at h
    exact ⟨keep a hy _, by rw [← Act.put_comm a v undef h2]; exact h⟩

theorem wpAnyE_first (hcl : ∀ w w', C w → Bl w w' → C w') {Q : Act → World → Prop} {i : Nat} {oi : Oper} {v : Value} (hi : ops[i]? = some oi) (hsel : ∀ (j : Nat) (o : Oper) cs b, ops[j]? = some o → o.op ≠ .select cs b) :
    ∀ (fuel : Nat) (listed : Array Bool) (a : Act) (w : World), C w →
      (∀ j oj, ops[j]? = some oj → j ≠ i → listed.getD j true = false → (∀ e ∈ oj.after, Region.binds md e = true → e.on ≠ i) → oi.apart ops oj = true) →
      i ∈ Region.ready md ops listed → YE P ops C oi v a →
      wpAnyE P md ops C Q fuel (listed.setIfInBounds i true) (a.put oi.dst v) w → wpAnyE P md ops C Q (fuel + 1) listed a w := by
  intro fuel
  induction fuel with
  | zero =>
    intro listed a w hb _ hr hy H
    refine ⟨fun h => (by rw [h] at hr; cases hr), fun j hj w' hb' => ?_⟩
    by_cases hji : j = i
    · subst hji; exact hy.eOp hi (hcl _ _ hb hb') fun w'' hb'' => ⟨hcl _ _ hb (hb'.trans hb''), wpAnyE_ext (hb'.trans hb'') H⟩
    · have := ready_mono hj hji
      rw [H.1] at this
      cases this
  | succ fuel ih =>
    intro listed a w hb hfree hr hy H
    refine ⟨fun h => (by rw [h] at hr; cases hr), fun j hj w' hb' => ?_⟩
    by_cases hji : j = i
    · subst hji; exact hy.eOp hi (hcl _ _ hb hb') fun w'' hb'' => ⟨hcl _ _ hb (hb'.trans hb''), wpAnyE_ext (hb'.trans hb'') H⟩
    · have h1 := H.2 j (ready_mono hj hji) w' hb'
      obtain ⟨hjun, oj, hoj, hall⟩ := mem_ready.1 hj
      have hnot : ∀ e ∈ oj.after, Region.binds md e = true → e.on ≠ i := fun e he hb heq => by
        have h1 := hall e he hb
        have h0 := (mem_ready.1 hr).1
        rw [heq] at h1
        rcases Nat.lt_or_ge i listed.size with h' | h'
        · simp [h'] at h0 h1; rw [h0] at h1; cases h1
        · simp [Array.getElem?_eq_none h'] at h1
      have h2 := eOp_put hoj (hfree j oj hoj hji hjun hnot) (fun cs b => hsel i oi cs b hi) (fun cs b => hsel j oj cs b hoj) hy h1
      have hfree' : ∀ k ok, ops[k]? = some ok → k ≠ i → (listed.setIfInBounds j true).getD k true = false →
          (∀ e ∈ ok.after, Region.binds md e = true → e.on ≠ i) → oi.apart ops ok = true := fun k ok hk hki hun hno => by
        refine hfree k ok hk hki ?_ hno
        by_cases hjk : j = k
        · subst hjk; exact hjun
        · rw [getD_set_ne true hjk] at hun; exact hun
      refine eOp_mono (fun a' w'' h3 => ⟨h3.2.1, ih (listed.setIfInBounds j true) a' w'' h3.2.1 hfree' (ready_mono hr (Ne.symm hji)) h3.1 ?_⟩) h2
      rw [Array.setIfInBounds_comm _ _ hji]
      exact h3.2.2

/-! the lexical walk of the first operations -/
def wpE (P : Program) (ops : Array Oper) (C : World → Prop) (Q : Act → Prop) : List Oper → Act → Prop
  | [], a => Q a
  | o :: rest, a => if Region.wanted o (yielded ops a.tmps) then ∃ v, (∀ n : ExtC C, o.quietAt P a (fun w'' => Bl n.at w'') n.at v) ∧ wpE P ops C Q rest (a.put o.dst v) else wpE P ops C Q rest (a.put o.dst undef)
theorem wpE_nil {Q : Act → Prop} {a : Act} (h : Q a) : wpE P ops C Q [] a := h
theorem wpE_step {Q : Act → Prop} {a : Act} {o : Oper} {rest : List Oper}
    (h : ∀ K : Act → Prop, (∀ a, wpE P ops C Q rest a → K a) → if Region.wanted o (yielded ops a.tmps) then ∃ v, (∀ n : ExtC C, o.quietAt P a (fun w'' => Bl n.at w'') n.at v) ∧ K (a.put o.dst v) else K (a.put o.dst undef)) : wpE P ops C Q (o :: rest) a :=
  h _ (fun _ h => h)
/-- may the next n operations, from k on, be taken first, one behind the other? -/
def lexPre (md : Region.Mode) (ops : Array Oper) : Nat → Nat → Array Bool → Bool
  | 0, _, _ => true
  | n + 1, k, listed => (Region.ready md ops listed).contains k && Region.free md ops listed k && lexPre md ops n (k + 1) (listed.setIfInBounds k true)
def lexSet : Nat → Nat → Array Bool → Array Bool
  | 0, _, listed => listed
  | n + 1, k, listed => lexSet n (k + 1) (listed.setIfInBounds k true)
theorem wpAnyE_lex (hcl : ∀ w w', C w → Bl w w' → C w') {Q : Act → World → Prop} (hs : Region.noSelect ops = true) (m : Nat) (w : World) (hw : C w) : ∀ (l : List Oper) (k : Nat) (listed : Array Bool) (a : Act), (∀ j o, l[j]? = some o → ops[k + j]? = some o) →
    lexPre md ops l.length k listed = true → wpE P ops C (fun a' => wpAnyE P md ops C Q m (lexSet l.length k listed) a' w) l a → wpAnyE P md ops C Q (l.length + m) listed a w
  | [], _, _, _, _, _, h => by rw [List.length_nil, Nat.zero_add]; exact h
  | o :: l, k, listed, a, hl, hB, h => by
    have h0 : ops[k]? = some o := by simpa using hl 0 o rfl
    simp only [List.length_cons, lexPre, Bool.and_eq_true] at hB
    obtain ⟨⟨hr, hf⟩, hB'⟩ := hB
    have hl' : ∀ j o, l[j]? = some o → ops[k + 1 + j]? = some o := fun j o h => by
      have := hl (j + 1) o (by simpa using h)
      rwa [show k + 1 + j = k + (j + 1) by omega]
    rw [List.length_cons, show l.length + 1 + m = (l.length + m) + 1 by omega]
    unfold wpE at h
    have key : ∀ v, YE P ops C o v a → wpE P ops C (fun a' => wpAnyE P md ops C Q m (lexSet (o :: l).length k listed) a' w) l (a.put o.dst v) → wpAnyE P md ops C Q (l.length + m + 1) listed a w := fun v hy hK =>
      wpAnyE_first hcl h0 (Region.noSelect_spec hs) (l.length + m) listed a w hw (Region.free_spec h0 hf) (by simpa using hr) hy
        (wpAnyE_lex hcl hs m w hw l (k + 1) _ _ hl' hB' hK)
    split at h
    · rename_i hw
      obtain ⟨v, hv, hK⟩ := h
      exact key v (.inl ⟨hw, fun w hb => hv ⟨w, hb⟩⟩) hK
    · rename_i hw
      exact key undef (.inr ⟨by simpa using hw, rfl⟩) h

/-- a region whose first n operations only tell or call, whatever comes behind them, at a class of worlds -/
theorem wp_region_extC {id : Nat} {Q : Exit → Act → World → Prop} {a : Act} {w : World} {l : List Oper} (C : World → Prop) (hcl : ∀ w w', C w → Bl w w' → C w') (hw : C w.drew) (n m : Nat) (hm : P.follows .mixedOrders = true) (hn : l.length = n + m)
    (hs : Region.noSelect l.toArray = true) (hB : lexPre .any l.toArray (l.take n).length 0 (Array.replicate l.length false) = true)
    (h : wpE P l.toArray C (fun a' => wpAnyE P .any l.toArray C (fun a w => Q .normal a w) m (lexSet (l.take n).length 0 (Array.replicate l.length false)) a' w.drew) (l.take n) a) :
    (Code.region id l.toArray true).wp P Q a w := by
  refine wp_region_any hm (wpAny_of_E (C := C) (Q := fun a w => Q .normal a w) (fun _ _ h => h) _ _ _ _ ?_)
  have hk := wpAnyE_lex (md := .any) hcl (Q := fun a w => Q .normal a w) hs m w.drew hw (l.take n) 0 (Array.replicate l.length false) a (fun j o h => by
    rw [List.getElem?_take] at h
    split at h
    · simpa using h
    · cases h) hB h
  have e : (l.take n).length + m = l.toArray.size := by simp; omega
  rw [e] at hk
  simpa using hk
/-- all of them -/
theorem wp_region_extall {id : Nat} {Q : Exit → Act → World → Prop} {a : Act} {w : World} {l : List Oper} (hm : P.follows .mixedOrders = true)
    (hB : Region.lexB .any l.toArray = true)
    (h : wpE P l.toArray (Bl w.drew) (fun a' => ∀ n : Ext w.drew, Q .normal a' n.at) l a) :
    (Code.region id l.toArray true).wp P Q a w := by
  simp only [Region.lexB, Bool.and_eq_true] at hB
  have hpre : ∀ (f k : Nat) (listed : Array Bool), Region.lexFrom .any l.toArray f k listed = true → lexPre .any l.toArray f k listed = true ∧ Region.ready .any l.toArray (lexSet f k listed) = [] := by
    intro f
    induction f with
    | zero => intro k listed h; exact ⟨rfl, by simpa [Region.lexFrom, lexSet] using h⟩
    | succ f ih =>
      intro k listed h
      simp only [Region.lexFrom, Bool.and_eq_true] at h
      have := ih (k + 1) _ h.2
      exact ⟨by simp only [lexPre, Bool.and_eq_true]; exact ⟨h.1, this.1⟩, this.2⟩
  have h2 := hpre _ _ _ hB.2
  have hsz : l.toArray.size = l.length := by simp
  rw [hsz] at h2
  refine wp_region_any hm (wpAny_of_E (C := Bl w.drew) (Q := fun a w => Q .normal a w) (fun _ _ h => h) _ _ _ _ ?_)
  have hk := wpAnyE_lex (P := P) (C := Bl w.drew) (md := .any) (fun _ _ h k => h.trans k) (Q := fun a w => Q .normal a w) hB.1 0 w.drew (Bl.refl _) l 0 (Array.replicate l.length false) a (fun j o h => by simpa using h) h2.1 (by
    have hmono : ∀ (Q1 Q2 : Act → Prop), (∀ a, Q1 a → Q2 a) → ∀ (m : List Oper) (a : Act), wpE P l.toArray (Bl w.drew) Q1 m a → wpE P l.toArray (Bl w.drew) Q2 m a := by
      intro Q1 Q2 hq m
      induction m with
      | nil => exact fun a h => hq a h
      | cons o m ih =>
        intro a h
        unfold wpE at h ⊢
        split at h
        · rename_i hw
          obtain ⟨v, h1, h2⟩ := h
          rw [if_pos hw]; exact ⟨v, h1, ih _ h2⟩
        · rename_i hw
          rw [if_neg hw]; exact ih _ h
    exact hmono _ _ (fun a ha => ⟨h2.2, fun w' hb => ha ⟨w', hb⟩⟩) l a h)
  rw [Nat.add_zero] at hk
  simpa using hk

/-- the operations that are left, one of them at a time -/
theorem wpAnyE_all {Q : Act → World → Prop} {rs : List Nat} {fuel : Nat} {listed : Array Bool} {a : Act} {w : World} (hr : Region.ready md ops listed = rs) (hne : rs ≠ [])
    (h : ∀ i ∈ rs, ∀ w', Bl w w' → eOp P ops i (fun a'' w'' => C w'' ∧ wpAnyE P md ops C Q fuel (listed.setIfInBounds i true) a'' w'') a w') : wpAnyE P md ops C Q (fuel + 1) listed a w :=
  ⟨fun h0 => absurd (hr.symm.trans h0) hne, fun i hi => h i (hr ▸ hi)⟩
theorem wpAnyE_one {Q : Act → World → Prop} {i fuel : Nat} {listed : Array Bool} {a : Act} {w : World} (hr : Region.ready md ops listed = [i])
    (h : ∀ w', Bl w w' → eOp P ops i (fun a'' w'' => C w'' ∧ wpAnyE P md ops C Q fuel (listed.setIfInBounds i true) a'' w'') a w') : wpAnyE P md ops C Q (fuel + 1) listed a w :=
  wpAnyE_all hr (by simp) fun j hj => by
    rw [List.mem_singleton] at hj; subst hj; exact h
theorem wpAnyE_done {Q : Act → World → Prop} {fuel : Nat} {listed : Array Bool} {a : Act} {w : World} (hr : Region.ready md ops listed = []) (h : ∀ w', Bl w w' → Q a w') : wpAnyE P md ops C Q fuel listed a w := by
  cases fuel with
  | zero => exact ⟨hr, h⟩
  | succ fuel => exact ⟨fun _ => h, fun i hi => by rw [hr] at hi; cases hi⟩
/-- 'append' to what the call itself has made, among the operations that are left -/
theorem eOp_append {i : Nat} {o : Oper} {a : Act} {w : World} {K : Act → World → Prop} (ho' : ops[i]? = some o) (hgd : o.guard = none) (s x : Operand) (t : TypeId)
    (ho : o.op = .call { callee := .builtin .append, args := #[s, x], argTypes := #[t, t] })
    (base : Nat) (e : TypeId) (ti : TypeInfo) (z : Value) (size bytes : Nat) (ht : P.underlying t = some (.slice e)) (hi : P.info? e = some ti) (hz : ti.zero = some z)
    (hsize : ti.size = size) (hby : ti.bytes = bytes) (hzs : z.cells.size = size) (hsz : 0 < size)
    (v : Value) (n : Nat) (xs : List Value) (hs : a.eval s = v) (hown : w.ownsRow base e size v n xs)
    (ad : Addr) (m c : Nat) (news : List Value) (hx : a.eval x = .slice (some ad) m c) (hl : news.length = m * size) (hnews : ∀ j u, news[j]? = some u → w.cell? (ad.add j) = some u) (h1 : ∀ u ∈ news, u.oneCell' = true)
    (h63 : n + m ≤ maxLen) (hbytes : (n + m) * bytes ≤ 140737488355328) (hbase : base ≤ w.heap.size)
    (h : ∀ v' w', w'.ownsRow base e size v' (n + m) (xs ++ news) → w.grownBy w' v.ownBlock → (v' = .slice none 0 0 ↔ v = .slice none 0 0 ∧ m = 0) → K (a.put o.dst v') w') : eOp P ops i K a w := by
  obtain ⟨v', w', hr, h2, h3, h4⟩ := run_append_own (P := P) w base t o.type e ti z size bytes ht hi hz hsize hby hzs hsz v n xs hown ad m c news hl hnews h1 h63 hbytes hbase
  unfold eOp
  simp only [ho']
  rw [if_pos (by simp [Region.wanted, hgd])]
  unfold eOper execOp
  simp only [ho, resolve, invoke, builtin, Sem.run_bind, Sem.run_pure, Result.andThen_ok, List.map_toArray, List.map_cons, List.map_nil, hs, hx, hr, eUpon]
  exact h v' w' h2 h3 h4
end
end Go.Proofs.YtaelghbjbopilaaGreat

namespace Go.Proofs.YtaelghbjbopilaaGreat
open Go.RowKit

section
variable {P : Program} {ops : Array Oper} {md : Region.Mode} {C : World → Prop}

/-- may these operations be taken first, one behind the other? -/
def preB (md : Region.Mode) (ops : Array Oper) : List Nat → Array Bool → Bool
  | [], _ => true
  | i :: is, listed => (Region.ready md ops listed).contains i && Region.free md ops listed i && preB md ops is (listed.setIfInBounds i true)
def setAll : List Nat → Array Bool → Array Bool
  | [], listed => listed
  | i :: is, listed => setAll is (listed.setIfInBounds i true)
def wpI (P : Program) (ops : Array Oper) (C : World → Prop) (Q : Act → Prop) : List Nat → Act → Prop
  | [], a => Q a
  | i :: is, a => ∃ o, ops[i]? = some o ∧ if Region.wanted o (yielded ops a.tmps) then ∃ v, (∀ n : ExtC C, o.quietAt P a (fun w'' => Bl n.at w'') n.at v) ∧ wpI P ops C Q is (a.put o.dst v) else wpI P ops C Q is (a.put o.dst undef)
theorem wpI_nil {Q : Act → Prop} {a : Act} (h : Q a) : wpI P ops C Q [] a := h
theorem wpI_step {Q : Act → Prop} {a : Act} {i : Nat} {is : List Nat} {o : Oper} (ho : ops[i]? = some o)
    (h : ∀ K : Act → Prop, (∀ a, wpI P ops C Q is a → K a) → if Region.wanted o (yielded ops a.tmps) then ∃ v, (∀ n : ExtC C, o.quietAt P a (fun w'' => Bl n.at w'') n.at v) ∧ K (a.put o.dst v) else K (a.put o.dst undef)) : wpI P ops C Q (i :: is) a :=
  ⟨o, ho, h _ (fun _ h => h)⟩
theorem wpAnyE_idx (hcl : ∀ w w', C w → Bl w w' → C w') {Q : Act → World → Prop} (hs : Region.noSelect ops = true) (m : Nat) (w : World) (hw : C w) : ∀ (is : List Nat) (listed : Array Bool) (a : Act),
    preB md ops is listed = true → wpI P ops C (fun a' => wpAnyE P md ops C Q m (setAll is listed) a' w) is a → wpAnyE P md ops C Q (is.length + m) listed a w
  | [], _, _, _, h => by rw [List.length_nil, Nat.zero_add]; exact h
  | i :: is, listed, a, hB, h => by
    simp only [preB, Bool.and_eq_true] at hB
    obtain ⟨⟨hr, hf⟩, hB'⟩ := hB
    obtain ⟨o, h0, h⟩ := h
    rw [List.length_cons, show is.length + 1 + m = (is.length + m) + 1 by omega]
    have key : ∀ v, YE P ops C o v a → wpI P ops C (fun a' => wpAnyE P md ops C Q m (setAll (i :: is) listed) a' w) is (a.put o.dst v) → wpAnyE P md ops C Q (is.length + m + 1) listed a w := fun v hy hK =>
      wpAnyE_first hcl h0 (Region.noSelect_spec hs) (is.length + m) listed a w hw (Region.free_spec h0 hf) (by simpa using hr) hy
        (wpAnyE_idx hcl hs m w hw is _ _ hB' hK)
    split at h
    · rename_i hw
      obtain ⟨v, hv, hK⟩ := h
      exact key v (.inl ⟨hw, fun w hb => hv ⟨w, hb⟩⟩) hK
    · rename_i hw
      exact key undef (.inr ⟨by simpa using hw, rfl⟩) h
/-- a region of which the named operations only tell or call and may be taken first -/
theorem wp_region_idx {id : Nat} {Q : Exit → Act → World → Prop} {a : Act} {w : World} {l : List Oper} (is : List Nat) (m : Nat) (C : World → Prop) (hcl : ∀ w w', C w → Bl w w' → C w') (hw : C w.drew) (hm : P.follows .mixedOrders = true) (hn : l.length = is.length + m)
    (hs : Region.noSelect l.toArray = true) (hB : preB .any l.toArray is (Array.replicate l.length false) = true)
    (h : wpI P l.toArray C (fun a' => wpAnyE P .any l.toArray C (fun a w => Q .normal a w) m (setAll is (Array.replicate l.length false)) a' w.drew) is a) :
    (Code.region id l.toArray true).wp P Q a w := by
  refine wp_region_any hm (wpAny_of_E (C := C) (Q := fun a w => Q .normal a w) (fun _ _ h => h) _ _ _ _ ?_)
  have hk := wpAnyE_idx (md := .any) hcl (Q := fun a w => Q .normal a w) hs m w.drew hw is (Array.replicate l.length false) a hB h
  have e : is.length + m = l.toArray.size := by simp; omega
  rw [e] at hk
  simpa using hk
end
/-! a narrower class of worlds from here on -/
section
variable {P : Program} {ops : Array Oper} {md : Region.Mode}
end

/-! the walk of all operations, shut: nothing of it is laid open but one operation at a time (where a guard is not met the open form would be reckoned to its end) -/
section
variable {P : Program} {ops : Array Oper} {C : World → Prop}
structure wpS (P : Program) (ops : Array Oper) (C : World → Prop) (Q : Act → Prop) (l : List Oper) (a : Act) : Prop where
  out : wpE P ops C Q l a
theorem wpS_nil {Q : Act → Prop} {a : Act} (h : Q a) : wpS P ops C Q [] a := ⟨h⟩
theorem wpS_step {Q : Act → Prop} {a : Act} {o : Oper} {rest : List Oper}
    (h : ∀ K : Act → Prop, (∀ a, wpS P ops C Q rest a → K a) → if Region.wanted o (yielded ops a.tmps) then ∃ v, (∀ n : ExtC C, o.quietAt P a (fun w'' => Bl n.at w'') n.at v) ∧ K (a.put o.dst v) else K (a.put o.dst undef)) : wpS P ops C Q (o :: rest) a :=
  ⟨wpE_step fun K hK => h K fun a k => hK a k.out⟩
theorem wp_region_allS {id : Nat} {Q : Exit → Act → World → Prop} {a : Act} {w : World} {l : List Oper} (hm : P.follows .mixedOrders = true) (hB : Region.lexB .any l.toArray = true)
    (h : wpS P l.toArray (Bl w.drew) (fun a' => ∀ n : Ext w.drew, Q .normal a' n.at) l a) : (Code.region id l.toArray true).wp P Q a w :=
  wp_region_extall hm hB h.out
end
end Go.Proofs.YtaelghbjbopilaaGreat
end
