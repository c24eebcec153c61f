import Derived.Test.YtkpikmfijcffiaaGreatQBase
import Derived.Laws.AppendOwnNone
import Derived.Test.YtkpikmfijcffiaaGreatQTxnWritesUptoP16
import Derived.Test.YtkpikmfijcffiaaGreatQTxnWritesUptoP10
import Derived.Test.YtkpikmfijcffiaaGreatQTxnWritesUptoP12
import Derived.Test.YtkpikmfijcffiaaGreatQTxnWritesUptoP11
import Derived.Deep.DeepCutAuto
import Derived.Test.YtkpikmfijcffiaaGreatQOp4

/- slices.Clone of a vector. By an AI agent. -/
section
set_option linter.unusedVariables false
set_option linter.unusedSimpArgs false
namespace Go.Proofs.YtkpikmfijcffiaaGreat
open Go.RowKit

set_option maxHeartbeats 400000 in
theorem vclone_any (a : Option Addr) (n ca : Nat) (xs : List Int) (w : World) (hx : IA w a n xs) :
    Calls Tryz.prog 111 #[.slice a n ca] w fun e w' => ∃ v, e = .returned v ∧ FI w.heap.size w' v xs ∧ Bl w w' := by
  obtain ⟨i0, hi, hz0, hz1, hz2⟩ := info_parts info_int
  have hx1 := hx.cap
  have hnil := fun (w : World) => Lib.run_eql_slice_nil w 60 3 a n ca 0 0 Tryz.underlying60
  cases a with
  | none =>
    have hn : n = 0 := by
      rcases Nat.eq_zero_or_pos n with h | h
      · exact h
      · obtain ⟨_, _, h', _⟩ := hx.cells 0 h
        simp at h'
    have hxs : xs = [] := List.eq_nil_of_length_eq_zero (hx.len.trans hn)
    subst hn hxs
    go_enter Tryz.func111, Tryz.ntmps111
    go_wp2
    go_ret
    exact ⟨_, rfl, FI.nil _ _, Bl.refl _⟩
  | some ad =>
    have hcells : ∀ j u, (xs.map (Value.int .i64))[j]? = some u → ∀ o, (w.alloc o).cell? (ad.add j) = some u := by
      intro j u hj o
      have hjl : j < n := by
        have := (List.getElem?_eq_some_iff.1 hj).1
        simpa [hx.len] using this
      obtain ⟨b, off, e, hc⟩ := hx.cells j hjl
      obtain rfl := Option.some.inj e
      have h1 := hc j hjl
      rw [← Go.WideShapes.add_plain] at h1
      rw [((Bl.refl w).alloc o).cell h1]
      have hjx : j < xs.length := by rw [hx.len]; exact hjl
      simp [hjx] at hj
      rw [nth_eq hjx, hj]
    have HC := Lib.hid hcells; clear hcells
    have HX := Lib.hid hx
    have HL := Lib.hid hx.len
    clear hx
    go_enter Tryz.func111, Tryz.ntmps111
    go_wp2_with (at_builtin; refine wpList_append_own _ rfl _ _ 60 rfl (w.heap.size) 3 i0 (.int .i64 0) 1 8 Tryz.underlying60 hi hz0 hz1 hz2 rfl (by decide) _ 0 [] rfl (World.ownsRow_lit w #[] 0 (Nat.le_refl _) (by decide) rfl) ad n ca (xs.map (Value.int .i64)) rfl ?c1 ?c2 ?c3 ?c4 ?c5 ?c6 ?_)
    case c1 => simp [HL.out]
    case c2 => intro j u hj; exact HC.out j u hj _
    case c3 => intro u hu; simp at hu; obtain ⟨x, _, rfl⟩ := hu; rfl
    case c4 => unfold maxLen; omega
    case c5 => omega
    case c6 => simp
    intro v' w1 hown' hgrow _
    have hb : Bl w w1 := ((Bl.refl w).alloc _).grown hgrow (by simp) (fun k hk => by simp [Value.ownBlock] at hk; omega)
    have hf : FI w.heap.size w1 v' xs := ⟨by simpa [OI, HL.out] using hown', by rw [HL.out]; exact hx1, HX.out.wf⟩
    clear hown' hgrow
    go_wp2
    go_ret
    exact ⟨_, rfl, hf, hb⟩
end Go.Proofs.YtkpikmfijcffiaaGreat
end

/- in the middle of a drawn region: operations that only tell may be taken first. By an AI agent. -/
section
set_option linter.unusedVariables false
namespace Go.Proofs.YtkpikmfijcffiaaGreat
open Go.RowKit
section
variable {P : Program} {ops : Array Oper} {md : Region.Mode} {C : World → Prop} {R : List PanicEntry → World → Prop} {L : List Nat} {Q : Act → World → Prop}
def cloB (md : Region.Mode) (ops : Array Oper) (listed : Array Bool) : Bool := (List.range ops.size).all fun j => match ops[j]? with
  | none => true
  | some o => !(listed.getD j false) || o.after.all (fun e => !Region.binds md e || listed.getD e.on false)
theorem cloB_clo {listed : Array Bool} (h : cloB md ops listed = true) : Clo md ops listed := by
  intro j o hj hl e he hb
  unfold cloB at h
  have h1 := List.all_eq_true.1 h j (List.mem_range.2 (Array.getElem?_eq_some_iff.1 hj).1)
  rw [hj] at h1
  simp only [hl, Bool.not_true, Bool.false_or] at h1
  have h2 := Array.all_eq_true'.1 h1 e he
  simpa [hb] using h2
theorem wpAnyP_mid (is : List Nat) (m : Nat) {listed : Array Bool} {a : Act} {w : World} (hcl : ∀ w w', C w → Bl w w' → C w') (hs : Region.noSelect ops = true) (hw : C w) (hclo : cloB md ops listed = true)
    (hL : (is.all fun i => L.all fun j => behindT md ops i ops.size j) = true) (hB : preB md ops is listed = true) (h : wpI P ops C (fun a' => wpAnyP P R md ops C L Q m (setAll is listed) a' w) is a) : wpAnyP P R md ops C L Q (is.length + m) listed a w :=
  wpAnyP_idxT hcl hs m w hw is listed a (cloB_clo hclo) hL hB h
/-- all that is left stands on L -/
def endB (ops : Array Oper) (L : List Nat) (listed : Array Bool) : Bool := (List.range ops.size).all fun j => listed.getD j false || L.contains j
theorem endB_mem {listed : Array Bool} {i : Nat} (h : endB ops L listed = true) (hi : i ∈ Region.ready md ops listed) : i ∈ L := by
  obtain ⟨h1, o, ho, _⟩ := mem_ready.1 hi
  have h2 := List.all_eq_true.1 h i (List.mem_range.2 (Array.getElem?_eq_some_iff.1 ho).1)
  simp only [Bool.or_eq_true, List.contains_iff_mem] at h2
  rcases h2 with h2 | h2
  · rw [Array.getD_eq_getD_getElem?] at h1 h2
    cases hq : listed[i]? with
    | none => rw [hq] at h1; cases h1
    | some b => rw [hq] at h1 h2; simp only [Option.getD_some] at h1 h2; rw [h1] at h2; cases h2
  · exact h2
theorem endB_set {listed : Array Bool} {i : Nat} (h : endB ops L listed = true) : endB ops L (listed.setIfInBounds i true) = true := by
  refine List.all_eq_true.2 fun j hj => ?_
  have h2 := List.all_eq_true.1 h j hj
  rw [Bool.or_eq_true] at h2 ⊢
  rcases h2 with h2 | h2
  · refine .inl ?_
    by_cases e : j = i
    · subst e
      exact getD_set_true h2
    · rw [getD_set_ne false (Ne.symm e)]; exact h2
  · exact .inr h2
theorem wpAnyP_end : ∀ {fuel : Nat} {listed : Array Bool} {a : Act} {w : World}, endB ops L listed = true → wpAnyP P R md ops (fun _ => True) [] Q fuel listed a w → wpAnyP P R md ops C L Q fuel listed a w
  | 0, _, _, _, _, h => h
  | fuel + 1, listed, a, w, he, h => ⟨h.1, fun i hi w' hb => by
    refine pOp_mono (fun a w hk => ?_) (h.2 i hi w' hb)
    exact ⟨fun hn => absurd (endB_mem he hi) hn, wpAnyP_end (endB_set he) hk.2⟩⟩
end
end Go.Proofs.YtkpikmfijcffiaaGreat
end

/- a block that is filled anew, cell by cell. By an AI agent. -/
section
namespace Go.Proofs.YtkpikmfijcffiaaGreat
open Go.RowKit

/-- the cells of block g from j on are set anew -/
def fill (w : World) (g : Nat) : Nat → List Value → World
  | _, [] => w
  | j, v :: vs => fill (w.setCell ⟨g, j, none⟩ v) g (j + 1) vs
theorem AC.fillFrom (vs : List Value) : ∀ (w : World) (g j : Nat) (cs ds : List Value), AC w g (ds ++ cs) → ds.length = j → cs.length = vs.length → AC (fill w g j vs) g (ds ++ vs) := by
  induction vs with
  | nil =>
    intro w g j cs ds h _ hl
    obtain rfl : cs = [] := List.eq_nil_of_length_eq_zero hl
    exact h
  | cons v vs ih =>
    intro w g j cs ds h hj hl
    cases cs with
    | nil => cases hl
    | cons c cs =>
      have h1 := h.setj j v
      have e : (ds ++ c :: cs).set j v = (ds ++ [v]) ++ cs := by
        subst hj
        rw [List.set_append_right _ _ (Nat.le_refl _)]
        simp
      rw [e] at h1
      have := ih (w.setCell ⟨g, j, none⟩ v) g (j + 1) cs (ds ++ [v]) h1 (by simp [hj]) (by simpa using hl)
      simpa [fill] using this
theorem AC.fill {w : World} {g : Nat} {cs : List Value} (h : AC w g cs) (vs : List Value) (hl : cs.length = vs.length) : AC (fill w g 0 vs) g vs :=
  AC.fillFrom vs w g 0 cs [] h rfl hl
theorem Bl.fill {w : World} {g : Nat} (hg : w.heap.size ≤ g) (vs : List Value) : ∀ (W : World) (j : Nat), Bl w W → Bl w (fill W g j vs) := by
  induction vs with
  | nil => intro W j h; exact h
  | cons v vs ih => intro W j h; exact ih _ _ (h.setCell (p := ⟨g, j, none⟩) hg v)
theorem AC.fillOther {g g' : Nat} {cs : List Value} (hn : g ≠ g') (vs : List Value) : ∀ (w : World) (j : Nat), AC w g cs → AC (Go.Proofs.YtkpikmfijcffiaaGreat.fill w g' j vs) g cs := by
  induction vs with
  | nil => intro w j h; exact h
  | cons v vs ih => intro w j h; exact ih _ _ (h.other hn)
theorem FarIA.fill {B : Nat} {a : Option Addr} {n : Nat} {xs : List Int} {q : Nat} (hq : q < B) (vs : List Value) : ∀ (w : World) (j : Nat), FarIA B w a n xs → FarIA B (Go.Proofs.YtkpikmfijcffiaaGreat.fill w q j vs) a n xs := by
  induction vs with
  | nil => intro w j h; exact h
  | cons v vs ih => intro w j h; exact ih _ _ (h.set hq j v)
theorem C1.fillOther {g g' : Nat} {v : Value} (hn : g ≠ g') (vs : List Value) : ∀ (w : World) (j : Nat), C1 w g v → C1 (Go.Proofs.YtkpikmfijcffiaaGreat.fill w g' j vs) g v := by
  induction vs with
  | nil => intro w j h; exact h
  | cons u vs ih => intro w j h; exact ih _ _ (h.otherj hn)
theorem IA.apart {w : World} {a : Option Addr} {n : Nat} {xs : List Int} (h : IA w a n xs) {q : Nat} (hq : ∀ b off, a = some ⟨b, off, none⟩ → n = 0 ∨ b ≠ q) (j : Nat) (u : Value) : IA (w.setCell ⟨q, j, none⟩ u) a n xs := by
  refine ⟨h.len, h.cap, fun i hi => ?_, h.wf⟩
  obtain ⟨b, off, e, hc⟩ := h.cells i hi
  refine ⟨b, off, e, fun i hi => ?_⟩
  have hne : b ≠ q := by
    have := hq b off e
    omega
  rw [← hc i hi]
  unfold World.cell?
  rw [Below.heap_setCell _ _ _ _ hne]
theorem IA.fillApart {a : Option Addr} {n : Nat} {xs : List Int} {q : Nat} (hq : ∀ b off, a = some ⟨b, off, none⟩ → n = 0 ∨ b ≠ q) (vs : List Value) : ∀ (w : World) (j : Nat), IA w a n xs → IA (fill w q j vs) a n xs := by
  induction vs with
  | nil => intro w j h; exact h
  | cons v vs ih => intro w j h; exact ih _ _ (h.apart hq j v)
theorem IA.block {w : World} {a : Option Addr} {n : Nat} {xs : List Int} (h : IA w a n xs) : ∀ b off, a = some ⟨b, off, none⟩ → n = 0 ∨ b < w.heap.size := by
  intro b off e
  by_cases hn : n = 0
  · exact .inl hn
  · obtain ⟨b', off', e', hc⟩ := h.cells 0 (by omega)
    rw [e] at e'
    cases e'
    exact .inr (World.block_lt_of_cell? _ _ (hc 0 (by omega)))
end Go.Proofs.YtkpikmfijcffiaaGreat
end

/- what 'each' tells, plain. By an AI agent. -/
section
set_option linter.unusedVariables false
set_option linter.unusedSimpArgs false
namespace Go.Proofs.YtkpikmfijcffiaaGreat
open Go.RowKit

theorem zip_take {t : Int → Int → Int} {xs ys : List Int} (h : xs.length = ys.length) {k : Nat} (hk : k < xs.length) :
    (List.zipWith t xs ys).take (k + 1) = (List.zipWith t xs ys).take k ++ [t (nth xs k) (nth ys k)] := by
  have h' : k < (List.zipWith t xs ys).length := by simp; omega
  rw [List.take_succ_eq_append_getElem h', List.getElem_zipWith, nth_eq hk, nth_eq (by omega : k < ys.length)]
theorem zip_wf {t : Int → Int → Int} (ht : ∀ x y, t x y = x ∨ t x y = y) {P : Int → Prop} {xs ys : List Int} (hx : ∀ x ∈ xs, P x) (hy : ∀ x ∈ ys, P x) : ∀ x ∈ List.zipWith t xs ys, P x := by
  induction xs generalizing ys with
  | nil => simp
  | cons x xs ih =>
    cases ys with
    | nil => simp
    | cons y ys =>
      intro z hz
      simp only [List.zipWith_cons_cons, List.mem_cons] at hz
      rcases hz with rfl | hz
      · rcases ht x y with e | e <;> rw [e]
        · exact hx x (by simp)
        · exact hy y (by simp)
      · exact ih (fun a ha => hx a (by simp [ha])) (fun a ha => hy a (by simp [ha])) z hz
/-- what 'each' tells -/
def eachL (t : Int → Int → Int) (xs ys : List Int) : List Int := if xs.length = ys.length then List.zipWith t xs ys else []
def joinL : List Int → List Int → List Int := eachL max
def meetL : List Int → List Int → List Int := eachL min
end Go.Proofs.YtkpikmfijcffiaaGreat
end

/- the lattice of vectors, number by number: plain laws. By an AI agent. -/
section
set_option linter.unusedVariables false
namespace Go.Proofs.YtkpikmfijcffiaaGreat
open Go.RowKit

/-! ### the lattice, number by number -/
theorem each_len (t : Int → Int → Int) {xs ys : List Int} (h : xs.length = ys.length) : (eachL t xs ys).length = xs.length := by
  rw [eachL, if_pos h]; simp; omega
theorem each_nth (t : Int → Int → Int) {xs ys : List Int} (h : xs.length = ys.length) {j : Nat} (hj : j < xs.length) : nth (eachL t xs ys) j = t (nth xs j) (nth ys j) := by
  have h1 := zip_take (t := t) h hj
  have hl : (List.zipWith t xs ys).length = xs.length := by simp; omega
  rw [eachL, if_pos h, nth_eq (by rw [hl]; exact hj), List.getElem_zipWith, nth_eq hj, nth_eq (by omega)]
theorem join_len' {xs ys : List Int} (h : xs.length = ys.length) : (joinL xs ys).length = xs.length := each_len _ h
theorem meet_len' {xs ys : List Int} (h : xs.length = ys.length) : (meetL xs ys).length = xs.length := each_len _ h
theorem join_nth {xs ys : List Int} (h : xs.length = ys.length) {j : Nat} (hj : j < xs.length) : nth (joinL xs ys) j = max (nth xs j) (nth ys j) := each_nth _ h hj
theorem meet_nth {xs ys : List Int} (h : xs.length = ys.length) {j : Nat} (hj : j < xs.length) : nth (meetL xs ys) j = min (nth xs j) (nth ys j) := each_nth _ h hj

theorem leq_refl (xs : List Int) : leqL xs xs = true := (leqL_iff rfl).2 fun _ _ => Int.le_refl _
theorem leq_trans {xs ys zs : List Int} (h1 : xs.length = ys.length) (h2 : ys.length = zs.length) (ha : leqL xs ys = true) (hb : leqL ys zs = true) : leqL xs zs = true :=
  (leqL_iff (h1.trans h2)).2 fun j hj => Int.le_trans ((leqL_iff h1).1 ha j hj) ((leqL_iff h2).1 hb j (by omega))
theorem leq_anti {xs ys : List Int} (h : xs.length = ys.length) (ha : leqL xs ys = true) : leqL ys xs = decide (xs = ys) := by
  rw [Bool.eq_iff_iff, decide_eq_true_eq]
  constructor
  · intro hb
    exact getD_ext h fun j hj => Int.le_antisymm ((leqL_iff h).1 ha j hj) ((leqL_iff h.symm).1 hb j (by omega))
  · rintro rfl; exact leq_refl _
section
variable {xs ys zs : List Int} (h : xs.length = ys.length) (h2 : ys.length = zs.length)
include h
theorem leq_join1 : leqL xs (joinL xs ys) = true := (leqL_iff (join_len' h).symm).2 fun j hj => by rw [join_nth h hj]; omega
theorem leq_join2 : leqL ys (joinL xs ys) = true := (leqL_iff ((join_len' h).trans h).symm).2 fun j hj => by rw [join_nth h (by omega)]; omega
theorem meet_leq1 : leqL (meetL xs ys) xs = true := (leqL_iff (meet_len' h)).2 fun j hj => by rw [meet_len' h] at hj; rw [meet_nth h hj]; omega
theorem meet_leq2 : leqL (meetL xs ys) ys = true := (leqL_iff ((meet_len' h).trans h)).2 fun j hj => by rw [meet_len' h] at hj; rw [meet_nth h hj]; omega
theorem leq_eq_join : leqL xs ys = decide (joinL xs ys = ys) := by
  rw [Bool.eq_iff_iff, decide_eq_true_eq, leqL_iff h]
  constructor
  · intro ha
    refine getD_ext ((join_len' h).trans h) fun j hj => ?_
    rw [join_len' h] at hj
    rw [join_nth h hj]; have := ha j hj; omega
  · intro e j hj
    have := join_nth h hj
    rw [e] at this; omega
theorem join_comm' : decide (joinL xs ys = joinL ys xs) = true := decide_eq_true (getD_ext ((join_len' h).trans (h.trans (join_len' h.symm).symm)) fun j hj => by
  rw [join_len' h] at hj
  rw [join_nth h hj, join_nth h.symm (by omega)]; omega)
include h2
theorem join_least (ha : leqL xs zs = true) (hb : leqL ys zs = true) : leqL (joinL xs ys) zs = true :=
  (leqL_iff ((join_len' h).trans (h.trans h2))).2 fun j hj => by
    rw [join_len' h] at hj
    have h3 := (leqL_iff (h.trans h2)).1 ha j hj
    have h4 := (leqL_iff h2).1 hb j (by omega)
    rw [join_nth h hj]; omega
theorem meet_most (ha : leqL zs xs = true) (hb : leqL zs ys = true) : leqL zs (meetL xs ys) = true :=
  (leqL_iff ((meet_len' h).trans (h.trans h2)).symm).2 fun j hj => by
    have h3 := (leqL_iff (h.trans h2).symm).1 ha j hj
    have h4 := (leqL_iff h2.symm).1 hb j hj
    rw [meet_nth h (by omega)]; omega
theorem join_assoc' : decide (joinL (joinL xs ys) zs = joinL xs (joinL ys zs)) = true := by
  have l1 := join_len' h
  have l2 := join_len' h2
  refine decide_eq_true (getD_ext ?_ fun j hj => ?_)
  · rw [join_len' (by omega), join_len' (xs := xs) (ys := joinL ys zs) (by omega)]; exact l1
  · rw [join_len' (by omega)] at hj
    rw [join_nth (by omega) hj, join_nth h (by omega), join_nth (by omega) (by omega), join_nth h2 (by omega)]
    omega
theorem distrib : decide (meetL xs (joinL ys zs) = joinL (meetL xs ys) (meetL xs zs)) = true := by
  have l1 := meet_len' h
  have l2 := join_len' h2
  have l3 := meet_len' (h.trans h2)
  refine decide_eq_true (getD_ext ?_ fun j hj => ?_)
  · rw [meet_len' (by omega), join_len' (by omega)]; exact l1.symm
  · rw [meet_len' (by omega)] at hj
    rw [meet_nth (by omega) hj, join_nth h2 (by omega), join_nth (by omega) (by omega), meet_nth h (by omega), meet_nth (by omega) (by omega)]
    omega
end
end Go.Proofs.YtkpikmfijcffiaaGreat
end

/- what goes from place to place: plain definitions and laws. By an AI agent. -/
section
set_option linter.unusedVariables false
set_option linter.unusedSimpArgs false
namespace Go.Proofs.YtkpikmfijcffiaaGreat
open Go.RowKit

def judgeL (known : List Int) (self : Int) (t : TxnL) : Int :=
  if validT t = false ∨ t.at_.length ≠ known.length ∨ t.o = self then 4
  else if atT t ≤ nth known t.o.toNat then 1
  else if t.prev ≠ nth known t.o.toNat then 2
  else if leqL (withL t.deps t.o (nth known t.o.toNat)) known = false then 3
  else 0
def chainAt (own : List TxnL) (self : Int) (i : Nat) : Bool :=
  validT (nthT own i) && (decide ((nthT own i).o = self) && (decide ((nthT own i).at_.length = (nthT own 0).at_.length) &&
    (if i = 0 then decide ((nthT own i).prev = 0) else decide ((nthT own i).prev = nth (nthT own (i - 1)).at_ self.toNat) && decide ((nthT own i).num = (nthT own (i - 1)).num + 1))))
def chainL (own : List TxnL) (self : Int) : Bool := (List.range own.length).all (chainAt own self)
def offT (self : Int) (t : TxnL) : Bool := decide (self < 0 ∨ t.at_.length ≤ self)
def newT (self : Int) (row : List Int) (t : TxnL) : Bool := decide ((row.length : Int) ≤ self) || decide (nth row self.toNat < nth t.at_ self.toNat)
def unsentL (own : List TxnL) (self : Int) (row : List Int) (most : Int) : List TxnL :=
  if own.any (offT self) then [] else
  if 0 ≤ most then (own.filter (newT self row)).take most.toNat else own.filter (newT self row)

/-! ### a chain of place 0 -/
structure ChainOf (own : List TxnL) (n : Nat) : Prop where
  parts : ∀ i, i < own.length → TxParts (nthT own i)
  o : ∀ i, i < own.length → (nthT own i).o = 0
  len : ∀ i, i < own.length → (nthT own i).at_.length = n
  first : 0 < own.length → (nthT own 0).prev = 0
  next : ∀ i, i + 1 < own.length → (nthT own (i + 1)).prev = nth (nthT own i).at_ 0
theorem chain_of {own : List TxnL} (h : chainL own 0 = true) : ChainOf own (nthT own 0).at_.length := by
  have h' : ∀ i, i < own.length → chainAt own 0 i = true := by
    simpa [chainL, List.all_eq_true] using h
  have key : ∀ i, i < own.length → TxParts (nthT own i) ∧ (nthT own i).o = 0 ∧ (nthT own i).at_.length = (nthT own 0).at_.length := fun i hi => by
    have := h' i hi
    simp only [chainAt, Bool.and_eq_true, decide_eq_true_eq] at this
    exact ⟨validT_parts this.1, this.2.1, this.2.2.1⟩
  refine ⟨fun i hi => (key i hi).1, fun i hi => (key i hi).2.1, fun i hi => (key i hi).2.2, fun h0 => ?_, fun i hi => ?_⟩
  · have := h' 0 h0
    simp only [chainAt, Bool.and_eq_true, decide_eq_true_eq, if_true] at this
    exact this.2.2.2
  · have := h' (i + 1) hi
    simp only [chainAt, Bool.and_eq_true, decide_eq_true_eq] at this
    have h2 := this.2.2.2
    rw [if_neg (Nat.succ_ne_zero i)] at h2
    simp only [Bool.and_eq_true, decide_eq_true_eq, Nat.add_sub_cancel] at h2
    exact h2.1
/-- how far place 0 is behind k transactions -/
def farL (own : List TxnL) (k : Nat) : Int := if k = 0 then 0 else nth (nthT own (k - 1)).at_ 0
theorem ChainOf.atT {own : List TxnL} {n : Nat} (h : ChainOf own n) {i : Nat} (hi : i < own.length) : Go.Proofs.YtkpikmfijcffiaaGreat.atT (nthT own i) = nth (nthT own i).at_ 0 := by
  unfold Go.Proofs.YtkpikmfijcffiaaGreat.atT
  rw [h.o i hi]; rfl
theorem ChainOf.prev {own : List TxnL} {n : Nat} (h : ChainOf own n) {i : Nat} (hi : i < own.length) : (nthT own i).prev = farL own i := by
  unfold farL
  split
  · rename_i e; subst e; exact h.first hi
  · rename_i e
    obtain ⟨j, rfl⟩ : ∃ j, i = j + 1 := ⟨i - 1, by omega⟩
    exact h.next j hi
theorem ChainOf.step {own : List TxnL} {n : Nat} (h : ChainOf own n) {i : Nat} (hi : i < own.length) : farL own i < farL own (i + 1) := by
  have h1 := (h.parts i hi).prev.2
  rw [h.prev hi, h.atT hi] at h1
  have e : farL own (i + 1) = nth (nthT own i).at_ 0 := by unfold farL; rw [if_neg (Nat.succ_ne_zero i)]; rfl
  rw [e]; exact h1
theorem ChainOf.mono {own : List TxnL} {n : Nat} (h : ChainOf own n) : ∀ {i j : Nat}, i ≤ j → j ≤ own.length → farL own i ≤ farL own j
  | i, 0, hij, _ => by
    obtain rfl : i = 0 := by omega
    exact Int.le_refl _
  | i, j + 1, hij, hj => by
    by_cases e : i = j + 1
    · subst e; exact Int.le_refl _
    · have := h.step (i := j) (by omega)
      have := h.mono (i := i) (j := j) (by omega) (by omega)
      omega
/-- what place 1 knows when it has k of them, and all else -/
structure Knows (own : List TxnL) (n : Nat) (k : Nat) (known : List Int) : Prop where
  len : known.length = n
  at0 : nth known 0 = farL own k
  more : ∀ i, i < own.length → ∀ j, 1 ≤ j → j < n → nth (nthT own i).deps j ≤ nth known j
theorem Knows.take {own : List TxnL} {n k : Nat} {known : List Int} (h : Knows own n k known) (hn : 1 ≤ n) : Knows own n (k + 1) (withL known 0 (nth (nthT own k).at_ 0)) := by
  refine ⟨by rw [withL_len]; exact h.len, ?_, fun i hi j h1 hj => ?_⟩
  · rw [withL_nth _ _ _ _ (by rw [h.len]; omega), if_pos (by rfl)]
    unfold farL
    rw [if_neg (Nat.succ_ne_zero k)]; rfl
  · rw [withL_nth _ _ _ _ (by rw [h.len]; omega), if_neg (by omega)]
    exact h.more i hi j h1 hj
theorem Knows.judge {own : List TxnL} {n k : Nat} {known : List Int} (h : Knows own n k known) (c : ChainOf own n) (hk : k ≤ own.length) {i : Nat} (hi : i < own.length) :
    judgeL known 1 (nthT own i) = if i < k then 1 else if i = k then 0 else 2 := by
  have hv := validT_of (c.parts i hi)
  have ho := c.o i hi
  have hl := c.len i hi
  have hp := c.prev hi
  have ha := c.atT hi
  have hs := c.step hi
  have e1 : farL own (i + 1) = nth (nthT own i).at_ 0 := by unfold farL; rw [if_neg (Nat.succ_ne_zero i)]; rfl
  have hdl := (c.parts i hi).len
  unfold judgeL
  rw [if_neg (by rw [hv, hl, h.len, ho]; simp), ha, ho, show (0 : Int).toNat = 0 from rfl, h.at0, hp, ← e1]
  by_cases h1 : i < k
  · rw [if_pos h1, if_pos (c.mono (i := i + 1) (j := k) (by omega) hk)]
  · rw [if_neg h1]
    have h2 := c.mono (i := k) (j := i) (by omega) (by omega)
    rw [if_neg (by omega)]
    by_cases h3 : i = k
    · subst h3
      rw [if_neg (by simp), if_pos rfl, if_neg]
      rw [Bool.not_eq_false, leqL_iff (by rw [withL_len, h.len, hdl, hl])]
      intro j hj
      rw [withL_len, hdl, hl] at hj
      rw [withL_nth _ _ _ _ (by rw [hdl, hl]; exact hj)]
      split
      · rename_i e
        obtain rfl : j = 0 := by omega
        rw [h.at0]; exact Int.le_refl _
      · exact h.more i hi j (by omega) hj
    · rw [if_neg h3, if_pos]
      have h4 := c.mono (i := k + 1) (j := i) (by omega) (by omega)
      have h5 := c.step (i := k) (by omega)
      omega
theorem Knows.none {own : List TxnL} {n : Nat} {known : List Int} (h : Knows own n own.length known) (c : ChainOf own n) (hn : 1 ≤ n) (most : Int) : unsentL own 0 known most = [] := by
  have hf : own.filter (newT 0 known) = [] := by
    rw [List.filter_eq_nil_iff]
    intro t ht
    obtain ⟨i, hi, rfl⟩ := List.getElem_of_mem ht
    rw [← nthT_eq hi]
    have h1 := c.mono (i := i + 1) (j := own.length) (by omega) (Nat.le_refl _)
    have e1 : farL own (i + 1) = nth (nthT own i).at_ 0 := by unfold farL; rw [if_neg (Nat.succ_ne_zero i)]; rfl
    have h2 := h.at0
    have h3 := h.len
    rw [e1] at h1
    simp only [newT, Bool.or_eq_true, decide_eq_true_eq, show (0 : Int).toNat = 0 from rfl]
    omega
  unfold unsentL
  rw [hf]
  split
  · rfl
  · split <;> simp
/-- the start: all that the chain hangs on -/
def startL (own : List TxnL) : Nat → List Int → List Int
  | 0, z => z
  | k + 1, z => joinL (startL own k z) (withL (nthT own k).deps 0 0)
theorem start_len {own : List TxnL} {n : Nat} (c : ChainOf own n) : ∀ k, k ≤ own.length → (startL own k (zeroL n)).length = n
  | 0, _ => by simp [startL, zeroL]
  | k + 1, hk => by
    have := start_len c k (by omega)
    have hd : (nthT own k).deps.length = n := (c.parts k (by omega)).len.trans (c.len k (by omega))
    unfold startL
    rw [join_len' (by rw [this, withL_len, hd])]
    exact this
theorem start_nth {own : List TxnL} {n : Nat} (c : ChainOf own n) (hn : 1 ≤ n) : ∀ k, k ≤ own.length → nth (startL own k (zeroL n)) 0 = 0 ∧ ∀ i, i < k → ∀ j, 1 ≤ j → j < n → nth (nthT own i).deps j ≤ nth (startL own k (zeroL n)) j
  | 0, _ => ⟨by
    unfold startL zeroL
    rw [nth_eq (by simp; omega)]; simp, fun i hi => absurd hi (Nat.not_lt_zero _)⟩
  | k + 1, hk => by
    have hl := start_len c k (by omega)
    have hd : (nthT own k).deps.length = n := (c.parts k (by omega)).len.trans (c.len k (by omega))
    obtain ⟨h0, h1⟩ := start_nth c hn k (by omega)
    have he : (startL own k (zeroL n)).length = (withL (nthT own k).deps 0 0).length := by rw [hl, withL_len, hd]
    unfold startL
    refine ⟨?_, fun i hi j h2 h3 => ?_⟩
    · rw [join_nth he (by omega), h0, withL_nth _ _ _ _ (by omega), if_pos (by rfl)]; rfl
    · rw [join_nth he (by omega), withL_nth _ _ _ _ (by omega), if_neg (by omega)]
      by_cases e : i = k
      · subst e; omega
      · have := h1 i (by omega) j h2 h3
        omega
theorem start_knows {own : List TxnL} {n : Nat} (c : ChainOf own n) (hn : 1 ≤ n) : Knows own n 0 (startL own own.length (zeroL n)) :=
  ⟨start_len c _ (Nat.le_refl _), by rw [(start_nth c hn _ (Nat.le_refl _)).1]; rfl, fun i hi j h1 h2 => (start_nth c hn _ (Nat.le_refl _)).2 i hi j h1 h2⟩
/-! ### what is unsent of a chain -/
theorem far_succ (own : List TxnL) (i : Nat) : farL own (i + 1) = nth (nthT own i).at_ 0 := by unfold farL; rw [if_neg (Nat.succ_ne_zero i)]; rfl
theorem filter_first {own : List TxnL} {n : Nat} (c : ChainOf own n) {row : List Int} (hr : 0 < row.length) {f : Nat} (hf : f ≤ own.length) (h1 : ∀ i, i < f → nth (nthT own i).at_ 0 ≤ nth row 0) (h2 : f < own.length → nth row 0 < nth (nthT own f).at_ 0) :
    own.filter (newT 0 row) = own.drop f := by
  have key : ∀ i, i < own.length → newT 0 row (nthT own i) = decide (f ≤ i) := fun i hi => by
    have e0 : newT 0 row (nthT own i) = decide (nth row 0 < nth (nthT own i).at_ 0) := by
      unfold newT
      rw [show decide ((row.length : Int) ≤ 0) = false from decide_eq_false (by omega), Bool.false_or]; rfl
    rw [e0, decide_eq_decide]
    constructor
    · intro h
      refine Classical.byContradiction fun q => ?_
      have := h1 i (by omega)
      omega
    · intro h
      have h3 := h2 (by omega)
      have h4 := c.mono (i := f + 1) (j := i + 1) (by omega) (by omega)
      rw [far_succ, far_succ] at h4
      omega
  conv => lhs; rw [← List.take_append_drop f own]
  rw [List.filter_append]
  have ha : (own.take f).filter (newT 0 row) = [] := by
    rw [List.filter_eq_nil_iff]
    intro t ht
    obtain ⟨i, hi, rfl⟩ := List.getElem_of_mem ht
    rw [List.length_take] at hi
    rw [List.getElem_take, ← nthT_eq (by omega), key i (by omega)]
    simp; omega
  have hb : (own.drop f).filter (newT 0 row) = own.drop f := by
    rw [List.filter_eq_self]
    intro t ht
    obtain ⟨i, hi, rfl⟩ := List.getElem_of_mem ht
    rw [List.length_drop] at hi
    rw [List.getElem_drop, ← nthT_eq (by omega), key (f + i) (by omega)]
    simp
  rw [ha, hb, List.nil_append]
theorem chain_off {own : List TxnL} {n : Nat} (c : ChainOf own n) (hn : 1 ≤ n) : own.any (offT 0) = false := by
  rw [List.any_eq_false]
  intro t ht
  obtain ⟨i, hi, rfl⟩ := List.getElem_of_mem ht
  rw [← nthT_eq hi]
  have := c.len i hi
  simp only [offT, decide_eq_true_eq]
  omega
theorem ChainOf.pos {own : List TxnL} {n : Nat} (c : ChainOf own n) (h : 0 < own.length) : 1 ≤ n := by
  have h1 := (c.parts 0 h).o1
  have h2 := (c.parts 0 h).o0
  rw [c.len 0 h] at h1
  omega
theorem unsent_all {own : List TxnL} {n : Nat} (c : ChainOf own n) {row : List Int} (hr : row.length = n) (hn : 1 ≤ n) {f : Nat} (hf : f ≤ own.length) (h1 : ∀ i, i < f → nth (nthT own i).at_ 0 ≤ nth row 0) (h2 : f < own.length → nth row 0 < nth (nthT own f).at_ 0) (most : Int) :
    unsentL own 0 row most = if 0 ≤ most then (own.drop f).take most.toNat else own.drop f := by
  unfold unsentL
  rw [chain_off c hn, filter_first c (by omega) hf h1 h2]
  rfl
theorem unsent_join {own : List TxnL} {n : Nat} (c : ChainOf own n) {row : List Int} (hr : row.length = n) (hn : 1 ≤ n) (h0 : 0 < own.length) : unsentL own 0 (joinL row (nthT own (own.length - 1)).at_) (-1) = [] := by
  have hl : row.length = (nthT own (own.length - 1)).at_.length := by rw [hr, c.len _ (by omega)]
  have hj : nth (joinL row (nthT own (own.length - 1)).at_) 0 = max (nth row 0) (nth (nthT own (own.length - 1)).at_ 0) := join_nth hl (by omega)
  rw [unsent_all c (f := own.length) (by rw [join_len' hl]; exact hr) hn (Nat.le_refl _) (fun i hi => ?_) (fun h => absurd h (Nat.lt_irrefl _)), List.drop_length]
  · rfl
  · have h4 := c.mono (i := i + 1) (j := own.length - 1 + 1) (by omega) (by omega)
    rw [far_succ, far_succ] at h4
    rw [hj]; omega

/-! ### messages -/
/-- a message read: a transaction, or a place and what it has -/
def rdMsg : List UInt8 → Option (TxnL × Int × List Int)
  | [] => none
  | c :: m => if c = 84 then (rdTx m).map fun t => (t, t.o, [])
    else if c = 82 then match m with
      | [] => none
      | f :: r => match rdV r with
        | some (xs, []) => if (f.toNat : Int) < xs.length then some (nilTx, (f.toNat : Int), xs) else none
        | _ => none
    else none
def msgTx (t : TxnL) : List UInt8 := 84 :: putTx t
def msgRow (from_ : Int) (row : List Int) : List UInt8 := 82 :: (numB from_ 1 ++ putL row)
theorem rdMsg_T (m : List UInt8) : rdMsg (84 :: m) = (rdTx m).map fun t => (t, t.o, []) := by simp [rdMsg]
end Go.Proofs.YtkpikmfijcffiaaGreat
end

/- a list of writes cloned. By an AI agent. -/
section
set_option linter.unusedVariables false
set_option linter.unusedSimpArgs false
namespace Go.Proofs.YtkpikmfijcffiaaGreat
open Go.RowKit
attribute [local go_sem] eOp eOper eUpon pOp pOper pUpon

theorem sg_ww {w : World} {a : Option Addr} {n : Nat} {ws : List (ByteArray × ActL)} (h : WW w a n ws) : SG w 5 a n (cellsW ws) := by
  refine ⟨by rw [cellsW_len, h.len], fun ad e j u hu => ?_, fun e => ?_, fun u hu => ?_⟩
  · have hjl : j < n * 5 := by
      have := (List.getElem?_eq_some_iff.1 hu).1
      rwa [cellsW_len, h.len] at this
    have hi : j / 5 < n := by omega
    obtain ⟨b, off, e', hc⟩ := h.cells (j / 5) hi
    rw [e] at e'
    obtain rfl := Option.some.inj e'
    have hg := cellsW_get ws (j / 5) (by rw [h.len]; exact hi) (j % 5) (by omega)
    rw [show j / 5 * 5 + j % 5 = j by omega, hu] at hg
    have hcc := hc (j / 5) hi
    rw [Addr.add_lit, show off + j = off + j / 5 * 5 + j % 5 by omega]
    have hr : j % 5 < 5 := by omega
    generalize j % 5 = r at hg hr
    match r, hr with
    | 0, _ => rw [Nat.add_zero, hcc.c0]; exact hg.symm
    | 1, _ => rw [hcc.c1]; exact hg.symm
    | 2, _ => rw [hcc.c2]; exact hg.symm
    | 3, _ => rw [hcc.c3]; exact hg.symm
    | 4, _ => rw [hcc.c4]; exact hg.symm
  · subst e
    by_cases hn : 0 < n
    · obtain ⟨b, off, e', _⟩ := h.cells 0 hn
      cases e'
    · omega
  · obtain ⟨p, _, hp⟩ := List.mem_flatMap.1 hu
    simp only [writeCs, List.mem_cons, List.not_mem_nil, or_false] at hp
    rcases hp with rfl | rfl | rfl | rfl | rfl <;> rfl
theorem wclone_any (a : Option Addr) (n ca : Nat) (ws : List (ByteArray × ActL)) (w : World) (hx : WW w a n ws) (hn : n ≤ 1000000) :
    Calls Tryz.prog 26 #[.slice a n ca] w fun e w' => ∃ v, e = .returned v ∧ OWR w.heap.size w' v n ws ∧ Bl w w' := by
  have hnil := fun (w : World) => Lib.run_eql_slice_nil w 22 58 a n ca 0 0 Tryz.underlying22
  have HX := Lib.hid hx
  cases a with
  | none =>
    have hn0 : n = 0 := (sg_ww hx).nil rfl
    have hws : ws = [] := List.eq_nil_of_length_eq_zero (hx.len.trans hn0)
    subst hn0 hws
    clear hx
    go_enter Tryz.func26, Tryz.ntmps26
    go_wp2
    go_ret
    exact ⟨_, rfl, OWR.nil _ _, Bl.refl _⟩
  | some ad =>
    have HS := Lib.hid ((sg_ww hx).keep ((Bl.refl w).alloc (.cells #[] 58)))
    clear hx
    go_enter Tryz.func26, Tryz.ntmps26
    go_wp2_with (at_builtin; refine wpList_appG rfl _ _ _ rfl el_wr w.heap.size _ 0 [] rfl (World.ownsRow_lit w #[] 0 (Nat.le_refl _) (by decide) rfl) ?c0 (some ad) n ca _ rfl HS.out ?c1 ?c2 ?_)
    case c0 => simp
    case c1 => unfold maxLen; omega
    case c2 => omega
    intro v' w1 hown' hgrow
    have hb : Bl w w1 := ((Bl.refl w).alloc _).grown hgrow (by simp) (fun k hk => by simp [Value.ownBlock] at hk; omega)
    have HO : Hid (OWR w.heap.size w1 v' n ws) := Lib.hid ⟨HX.out.len, by simpa using hown'⟩
    have HB := Lib.hid hb
    clear hown' hgrow hb
    go_wp2
    go_ret
    exact ⟨_, rfl, HO.out, HB.out⟩
theorem own_apart {A B : Nat} {W W' : World} {E F : TypeId} {y z m n : Nat} {u v : Value} {cs ds : List Value} (h : W.ownsRow A E y u m cs) (k : W'.ownsRow B F z v n ds) (hB : W.heap.size ≤ B) : u.ownBlock = none ∨ u.ownBlock ≠ v.ownBlock := by
  cases e : u.ownBlock with
  | none => exact .inl rfl
  | some b =>
    refine .inr (fun e2 => ?_)
    have h1 := (World.ownsRow.lt h b e).2
    have h2 := (World.ownsRow.lt k b e2.symm).1
    omega
theorem own_less {B B' : Nat} {W : World} {E : TypeId} {z n : Nat} {v : Value} {cs : List Value} (h : W.ownsRow B E z v n cs) (hb : B' ≤ B) : W.ownsRow B' E z v n cs := by
  obtain ⟨h1, h2 | ⟨g, cap, cur, hv, hB, r⟩⟩ := h
  · exact ⟨h1, .inl h2⟩
  · exact ⟨h1, .inr ⟨g, cap, cur, hv, Nat.le_trans hb hB, r⟩⟩
theorem own_set {B : Nat} {W : World} {E : TypeId} {z n : Nat} {v : Value} {cs : List Value} (h : W.ownsRow B E z v n cs) {q : Nat} (hq : q < B) (j : Nat) (u : Value) : (W.setCell ⟨q, j, none⟩ u).ownsRow B E z v n cs := by
  obtain ⟨h1, h2 | ⟨g, cap, cur, hv, hB, hg, r⟩⟩ := h
  · exact ⟨h1, .inl h2⟩
  · exact ⟨h1, .inr ⟨g, cap, cur, hv, hB, by rw [Below.heap_setCell _ _ _ _ (show g ≠ q by omega)]; exact hg, r⟩⟩
theorem own_fill {B : Nat} {E : TypeId} {z n : Nat} {v : Value} {cs : List Value} {q : Nat} (hq : q < B) (vs : List Value) : ∀ (W : World) (j : Nat), W.ownsRow B E z v n cs → (Go.Proofs.YtkpikmfijcffiaaGreat.fill W q j vs).ownsRow B E z v n cs := by
  induction vs with
  | nil => intro W j h; exact h
  | cons u vs ih => intro W j h; exact ih _ _ (own_set h hq j u)
def zTx : List Value := [.int .i64 0, .int .i64 0, .int .i64 0, .slice none 0 0, .slice none 0 0, .slice none 0 0]
/-- the two boxes of copied -/
structure CB (w W : World) (cs rs : List Value) : Prop where
  bl : Bl w W
  t : AC W w.heap.size cs
  r : AC W (w.heap.size + 1) rs
theorem CB.keep {w W W' : World} {cs rs : List Value} (h : CB w W cs rs) (k : Bl W W') : CB w W' cs rs := ⟨h.bl.trans k, h.t.keep k, h.r.keep k⟩
theorem CB.store {w W : World} {cs rs : List Value} (h : CB w W cs rs) (j : Nat) (v : Value) : CB w (W.setCell ⟨w.heap.size, j, none⟩ v) (cs.set j v) rs :=
  ⟨h.bl.setCell (p := ⟨w.heap.size, j, none⟩) (Nat.le_refl _) v, h.t.setj j v, h.r.other (by omega)⟩
theorem CB.new (w : World) (cs rs : List Value) (T U : TypeId) : CB w ((w.alloc (.cells cs.toArray T)).alloc (.cells rs.toArray U)) cs rs :=
  ⟨((Bl.refl w).alloc _).alloc _, (AC.new w _ rfl cs T).keep ((Bl.refl _).alloc _), AC.new _ (w.heap.size + 1) (by simp) rs U⟩
end Go.Proofs.YtkpikmfijcffiaaGreat
end

/- contracts of the package op with structs taken apart. By an AI agent. -/
section
namespace Go.Proofs.YtkpikmfijcffiaaGreat
open Go.RowKit

theorem after_agg (key : ByteArray) (vb : Bool) (vx : Nat) (vn : Int) (vs : ByteArray) (k : Int) (x : Nat) (n : Int) (s : ByteArray) (rb : Bool) (rx : Nat) (rn : Int) (rs : ByteArray) (w : World)
    (h : Hid (afterL key ⟨vb, vx, vn, vs⟩ ⟨k, x, n, s⟩ = ⟨rb, rx, rn, rs⟩)) (hkey : key.size ≤ 140737488351232) (ov : Hid (ValL.Ok ⟨vb, vx, vn, vs⟩)) (oa : Hid (ActL.Ok ⟨k, x, n, s⟩)) :
    Calls Tryz.prog 32 #[.string key, .agg #[.bool vb, .float .f64 vx, .int .i64 vn, .string vs], .agg #[.int .i64 k, .float .f64 x, .int .i64 n, .string s]] w fun e w' => e = .returned (.agg #[.bool rb, .float .f64 rx, .int .i64 rn, .string rs]) ∧ Bl w w' := by
  refine (after_any key ⟨vb, vx, vn, vs⟩ ⟨k, x, n, s⟩ w hkey ov.out oa.out).mono ?_
  rintro e w' ⟨rfl, hb⟩
  rw [h.out]
  exact ⟨rfl, hb⟩
theorem fits_agg (key : ByteArray) (k : Int) (x : Nat) (n : Int) (s : ByteArray) (r : Bool) (w : World)
    (h : Hid (fitsB key ⟨k, x, n, s⟩ = r)) (hkey : key.size ≤ 140737488351232) (oa : Hid (ActL.Ok ⟨k, x, n, s⟩)) :
    Calls Tryz.prog 25 #[.string key, .agg #[.int .i64 k, .float .f64 x, .int .i64 n, .string s]] w fun e w' => e = .returned (.bool r) ∧ Bl w w' := by
  refine (fits_any key ⟨k, x, n, s⟩ w hkey oa.out).mono ?_
  rintro e w' ⟨rfl, hb⟩
  rw [h.out]
  exact ⟨rfl, hb⟩
end Go.Proofs.YtkpikmfijcffiaaGreat
end
