import Derived.Test.YtaokennbpgdngaaCore6
import Derived.Test.YtaokennbpgdngaaCore19

/- a block that is filled anew, cell by cell. By an AI agent. -/
section
namespace Go.Proofs.Ytaokennbpgdngaa
open Go.RowKit

/-- the cells of block g from j on are set anew -/
def fill (w : World) (g : Nat) : Nat → List Value → World
  | _, [] => w
  | j, v :: vs => fill (w.setCell ⟨g, j, none⟩ v) g (j + 1) vs
theorem AC.fillFrom (vs : List Value) : ∀ (w : World) (g j : Nat) (cs ds : List Value), AC w g (ds ++ cs) → ds.length = j → cs.length = vs.length → AC (fill w g j vs) g (ds ++ vs) := by
  induction vs with
  | nil =>
    intro w g j cs ds h _ hl
    obtain rfl : cs = [] := List.eq_nil_of_length_eq_zero hl
    exact h
  | cons v vs ih =>
    intro w g j cs ds h hj hl
    cases cs with
    | nil => cases hl
    | cons c cs =>
      have h1 := h.setj j v
      have e : (ds ++ c :: cs).set j v = (ds ++ [v]) ++ cs := by
        subst hj
        rw [List.set_append_right _ _ (Nat.le_refl _)]
        simp
      rw [e] at h1
      have := ih (w.setCell ⟨g, j, none⟩ v) g (j + 1) cs (ds ++ [v]) h1 (by simp [hj]) (by simpa using hl)
      simpa [fill] using this
theorem AC.fill {w : World} {g : Nat} {cs : List Value} (h : AC w g cs) (vs : List Value) (hl : cs.length = vs.length) : AC (fill w g 0 vs) g vs :=
  AC.fillFrom vs w g 0 cs [] h rfl hl
theorem Bl.fill {w : World} {g : Nat} (hg : w.heap.size ≤ g) (vs : List Value) : ∀ (W : World) (j : Nat), Bl w W → Bl w (fill W g j vs) := by
  induction vs with
  | nil => intro W j h; exact h
  | cons v vs ih => intro W j h; exact ih _ _ (h.setCell (p := ⟨g, j, none⟩) hg v)
theorem AC.fillOther {g g' : Nat} {cs : List Value} (hn : g ≠ g') (vs : List Value) : ∀ (w : World) (j : Nat), AC w g cs → AC (Go.Proofs.Ytaokennbpgdngaa.fill w g' j vs) g cs := by
  induction vs with
  | nil => intro w j h; exact h
  | cons v vs ih => intro w j h; exact ih _ _ (h.other hn)
theorem FarIA.fill {B : Nat} {a : Option Addr} {n : Nat} {xs : List Int} {q : Nat} (hq : q < B) (vs : List Value) : ∀ (w : World) (j : Nat), FarIA B w a n xs → FarIA B (Go.Proofs.Ytaokennbpgdngaa.fill w q j vs) a n xs := by
  induction vs with
  | nil => intro w j h; exact h
  | cons v vs ih => intro w j h; exact ih _ _ (h.set hq j v)
theorem C1.fillOther {g g' : Nat} {v : Value} (hn : g ≠ g') (vs : List Value) : ∀ (w : World) (j : Nat), C1 w g v → C1 (Go.Proofs.Ytaokennbpgdngaa.fill w g' j vs) g v := by
  induction vs with
  | nil => intro w j h; exact h
  | cons u vs ih => intro w j h; exact ih _ _ (h.otherj hn)
theorem IA.apart {w : World} {a : Option Addr} {n : Nat} {xs : List Int} (h : IA w a n xs) {q : Nat} (hq : ∀ b off, a = some ⟨b, off, none⟩ → n = 0 ∨ b ≠ q) (j : Nat) (u : Value) : IA (w.setCell ⟨q, j, none⟩ u) a n xs := by
  refine ⟨h.len, h.cap, fun i hi => ?_, h.wf⟩
  obtain ⟨b, off, e, hc⟩ := h.cells i hi
  refine ⟨b, off, e, fun i hi => ?_⟩
  have hne : b ≠ q := by
    have := hq b off e
    omega
  rw [← hc i hi]
  unfold World.cell?
  rw [Below.heap_setCell _ _ _ _ hne]
theorem IA.fillApart {a : Option Addr} {n : Nat} {xs : List Int} {q : Nat} (hq : ∀ b off, a = some ⟨b, off, none⟩ → n = 0 ∨ b ≠ q) (vs : List Value) : ∀ (w : World) (j : Nat), IA w a n xs → IA (fill w q j vs) a n xs := by
  induction vs with
  | nil => intro w j h; exact h
  | cons v vs ih => intro w j h; exact ih _ _ (h.apart hq j v)
theorem IA.block {w : World} {a : Option Addr} {n : Nat} {xs : List Int} (h : IA w a n xs) : ∀ b off, a = some ⟨b, off, none⟩ → n = 0 ∨ b < w.heap.size := by
  intro b off e
  by_cases hn : n = 0
  · exact .inl hn
  · obtain ⟨b', off', e', hc⟩ := h.cells 0 (by omega)
    rw [e] at e'
    cases e'
    exact .inr (World.block_lt_of_cell? _ _ (hc 0 (by omega)))
end Go.Proofs.Ytaokennbpgdngaa
end

/- in the middle of a drawn region: operations that only tell may be taken first. By an AI agent. -/
section
set_option linter.unusedVariables false
namespace Go.Proofs.Ytaokennbpgdngaa
open Go.RowKit
section
variable {P : Program} {ops : Array Oper} {md : Region.Mode} {C : World → Prop} {R : List PanicEntry → World → Prop} {L : List Nat} {Q : Act → World → Prop}
def cloB (md : Region.Mode) (ops : Array Oper) (listed : Array Bool) : Bool := (List.range ops.size).all fun j => match ops[j]? with
  | none => true
  | some o => !(listed.getD j false) || o.after.all (fun e => !Region.binds md e || listed.getD e.on false)
theorem cloB_clo {listed : Array Bool} (h : cloB md ops listed = true) : Clo md ops listed := by
  intro j o hj hl e he hb
  unfold cloB at h
  have h1 := List.all_eq_true.1 h j (List.mem_range.2 (Array.getElem?_eq_some_iff.1 hj).1)
  rw [hj] at h1
  simp only [hl, Bool.not_true, Bool.false_or] at h1
  have h2 := Array.all_eq_true'.1 h1 e he
  simpa [hb] using h2
theorem wpAnyP_mid (is : List Nat) (m : Nat) {listed : Array Bool} {a : Act} {w : World} (hcl : ∀ w w', C w → Bl w w' → C w') (hs : Region.noSelect ops = true) (hw : C w) (hclo : cloB md ops listed = true)
    (hL : (is.all fun i => L.all fun j => behindT md ops i ops.size j) = true) (hB : preB md ops is listed = true) (h : wpI P ops C (fun a' => wpAnyP P R md ops C L Q m (setAll is listed) a' w) is a) : wpAnyP P R md ops C L Q (is.length + m) listed a w :=
  wpAnyP_idxT hcl hs m w hw is listed a (cloB_clo hclo) hL hB h
/-- all that is left stands on L -/
def endB (ops : Array Oper) (L : List Nat) (listed : Array Bool) : Bool := (List.range ops.size).all fun j => listed.getD j false || L.contains j
theorem endB_mem {listed : Array Bool} {i : Nat} (h : endB ops L listed = true) (hi : i ∈ Region.ready md ops listed) : i ∈ L := by
  obtain ⟨h1, o, ho, _⟩ := mem_ready.1 hi
  have h2 := List.all_eq_true.1 h i (List.mem_range.2 (Array.getElem?_eq_some_iff.1 ho).1)
  simp only [Bool.or_eq_true, List.contains_iff_mem] at h2
  rcases h2 with h2 | h2
  · rw [Array.getD_eq_getD_getElem?] at h1 h2
    cases hq : listed[i]? with
    | none => rw [hq] at h1; cases h1
    | some b => rw [hq] at h1 h2; simp only [Option.getD_some] at h1 h2; rw [h1] at h2; cases h2
  · exact h2
theorem endB_set {listed : Array Bool} {i : Nat} (h : endB ops L listed = true) : endB ops L (listed.setIfInBounds i true) = true := by
  refine List.all_eq_true.2 fun j hj => ?_
  have h2 := List.all_eq_true.1 h j hj
  rw [Bool.or_eq_true] at h2 ⊢
  rcases h2 with h2 | h2
  · refine .inl ?_
    by_cases e : j = i
    · subst e
      exact getD_set_true h2
    · rw [getD_set_ne false (Ne.symm e)]; exact h2
  · exact .inr h2
theorem wpAnyP_end : ∀ {fuel : Nat} {listed : Array Bool} {a : Act} {w : World}, endB ops L listed = true → wpAnyP P R md ops (fun _ => True) [] Q fuel listed a w → wpAnyP P R md ops C L Q fuel listed a w
  | 0, _, _, _, _, h => h
  | fuel + 1, listed, a, w, he, h => ⟨h.1, fun i hi w' hb => by
    refine pOp_mono (fun a w hk => ?_) (h.2 i hi w' hb)
    exact ⟨fun hn => absurd (endB_mem he hi) hn, wpAnyP_end (endB_set he) hk.2⟩⟩
end
end Go.Proofs.Ytaokennbpgdngaa
end
