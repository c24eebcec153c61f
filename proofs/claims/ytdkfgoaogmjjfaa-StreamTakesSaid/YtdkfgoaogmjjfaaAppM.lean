/- in the middle of a drawn region: operations that only tell may be taken first. By an AI agent. -/
import Derived.Test.YtdkfgoaogmjjfaaAppP
set_option linter.unusedVariables false
namespace Go.Proofs.Ytdkfgoaogmjjfaa
open Go.RowKit
section
variable {P : Program} {ops : Array Oper} {md : Region.Mode} {C : World → Prop} {R : List PanicEntry → World → Prop} {L : List Nat} {Q : Act → World → Prop}
def cloB (md : Region.Mode) (ops : Array Oper) (listed : Array Bool) : Bool := (List.range ops.size).all fun j => match ops[j]? with
  | none => true
  | some o => !(listed.getD j false) || o.after.all (fun e => !Region.binds md e || listed.getD e.on false)
theorem cloB_clo {listed : Array Bool} (h : cloB md ops listed = true) : Clo md ops listed := by
  intro j o hj hl e he hb
  unfold cloB at h
  have h1 := List.all_eq_true.1 h j (List.mem_range.2 (Array.getElem?_eq_some_iff.1 hj).1)
  rw [hj] at h1
  simp only [hl, Bool.not_true, Bool.false_or] at h1
  have h2 := Array.all_eq_true'.1 h1 e he
  simpa [hb] using h2
theorem wpAnyP_mid (is : List Nat) (m : Nat) {listed : Array Bool} {a : Act} {w : World} (hcl : ∀ w w', C w → Bl w w' → C w') (hs : Region.noSelect ops = true) (hw : C w) (hclo : cloB md ops listed = true)
    (hL : (is.all fun i => L.all fun j => behindT md ops i ops.size j) = true) (hB : preB md ops is listed = true) (h : wpI P ops C (fun a' => wpAnyP P R md ops C L Q m (setAll is listed) a' w) is a) : wpAnyP P R md ops C L Q (is.length + m) listed a w :=
  wpAnyP_idxT hcl hs m w hw is listed a (cloB_clo hclo) hL hB h
/-- all that is left stands on L -/
def endB (ops : Array Oper) (L : List Nat) (listed : Array Bool) : Bool := (List.range ops.size).all fun j => listed.getD j false || L.contains j
theorem endB_mem {listed : Array Bool} {i : Nat} (h : endB ops L listed = true) (hi : i ∈ Region.ready md ops listed) : i ∈ L := by
  obtain ⟨h1, o, ho, _⟩ := mem_ready.1 hi
  have h2 := List.all_eq_true.1 h i (List.mem_range.2 (Array.getElem?_eq_some_iff.1 ho).1)
  simp only [Bool.or_eq_true, List.contains_iff_mem] at h2
  rcases h2 with h2 | h2
  · rw [Array.getD_eq_getD_getElem?] at h1 h2
    cases hq : listed[i]? with
    | none => rw [hq] at h1; cases h1
    | some b => rw [hq] at h1 h2; simp only [Option.getD_some] at h1 h2; rw [h1] at h2; cases h2
  · exact h2
theorem endB_set {listed : Array Bool} {i : Nat} (h : endB ops L listed = true) : endB ops L (listed.setIfInBounds i true) = true := by
  refine List.all_eq_true.2 fun j hj => ?_
  have h2 := List.all_eq_true.1 h j hj
  rw [Bool.or_eq_true] at h2 ⊢
  rcases h2 with h2 | h2
  · refine .inl ?_
    by_cases e : j = i
    · subst e
      exact getD_set_true h2
    · rw [getD_set_ne false (Ne.symm e)]; exact h2
  · exact .inr h2
theorem wpAnyP_end : ∀ {fuel : Nat} {listed : Array Bool} {a : Act} {w : World}, endB ops L listed = true → wpAnyP P R md ops (fun _ => True) [] Q fuel listed a w → wpAnyP P R md ops C L Q fuel listed a w
  | 0, _, _, _, _, h => h
  | fuel + 1, listed, a, w, he, h => ⟨h.1, fun i hi w' hb => by
    refine pOp_mono (fun a w hk => ?_) (h.2 i hi w' hb)
    exact ⟨fun hn => absurd (endB_mem he hi) hn, wpAnyP_end (endB_set he) hk.2⟩⟩
end
end Go.Proofs.Ytdkfgoaogmjjfaa
