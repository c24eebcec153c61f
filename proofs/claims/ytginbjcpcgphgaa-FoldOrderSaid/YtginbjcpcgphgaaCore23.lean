import Derived.Test.YtginbjcpcgphgaaCore22
import Derived.Test.YtginbjcpcgphgaaCore14
import Derived.Test.YtginbjcpcgphgaaCore20
import Derived.Test.YtginbjcpcgphgaaCore21

/- joins and meets of valid vectors are valid. By an AI agent. -/
section
set_option linter.unusedVariables false
namespace Go.Proofs.Ytginbjcpcgphgaa
open Go.RowKit

theorem valid_mk {xs : List Int} (h1 : 1 ≤ xs.length) (h8 : xs.length ≤ 8) (h : ∀ j, j < xs.length → 0 ≤ nth xs j ∧ nth xs j < 281474976710656) : validL xs = true := by
  simp only [validL, Bool.and_eq_true, decide_eq_true_eq, Bool.not_eq_true']
  refine ⟨⟨h1, h8⟩, ?_⟩
  rw [List.any_eq_false]
  intro x hx
  obtain ⟨j, hj, rfl⟩ := List.getElem_of_mem hx
  have h2 := h j hj
  rw [nth_eq hj] at h2
  simp [badT]; omega

theorem join_valid {xs ys : List Int} (hx : validL xs = true) (hy : validL ys = true) (hl : xs.length = ys.length) : validL (joinL xs ys) = true := by
  have a := valid_parts hx
  have b := valid_parts hy
  have e := join_len' hl
  refine valid_mk (by omega) (by omega) fun j hj => ?_
  rw [e] at hj
  rw [join_nth hl hj]
  have p := a.2.2 j hj
  have q := b.2.2 j (by omega)
  omega
theorem meet_valid {xs ys : List Int} (hx : validL xs = true) (hy : validL ys = true) (hl : xs.length = ys.length) : validL (meetL xs ys) = true := by
  have a := valid_parts hx
  have b := valid_parts hy
  have e := meet_len' hl
  refine valid_mk (by omega) (by omega) fun j hj => ?_
  rw [e] at hj
  rw [meet_nth hl hj]
  have p := a.2.2 j hj
  have q := b.2.2 j (by omega)
  omega
end Go.Proofs.Ytginbjcpcgphgaa
end

/- what versions tell, and what is left of them: plain laws. By an AI agent. -/
section
set_option linter.unusedVariables false
set_option linter.unusedSimpArgs false
namespace Go.Proofs.Ytginbjcpcgphgaa
open Go.RowKit

/-- no two are of one stamp -/
abbrev NoAl (l : List VerL) : Prop := l.Pairwise (fun a b => ¬ AlV a b)
/-- the first of those that count -/
def BestV (key : ByteArray) (vs : List VerL) : Option VerL → Prop
  | none => ∀ v ∈ vs, fitsB key v.act = false
  | some u => u ∈ vs ∧ fitsB key u.act = true ∧ ∀ v ∈ vs, fitsB key v.act = true → v = u ∨ LtV u v
theorem bestV_step {key : ByteArray} {vs : List VerL} {o : Option VerL} {v : VerL} (h : BestV key vs o) (ha : ∀ u ∈ vs, ¬ AlV u v) : BestV key (vs ++ [v]) (stepL key o v) := by
  unfold stepL
  cases hf : fitsB key v.act with
  | false =>
    rw [if_neg (by decide)]
    cases o with
    | none =>
      intro u hu
      rcases List.mem_append.1 hu with q | q
      · exact h u q
      · rw [List.mem_singleton.1 q]; exact hf
    | some u =>
      obtain ⟨h1, h2, h3⟩ := h
      refine ⟨by simp [h1], h2, fun w hw fw => ?_⟩
      rcases List.mem_append.1 hw with q | q
      · exact h3 w q fw
      · rw [List.mem_singleton.1 q, hf] at fw; cases fw
  | true =>
    rw [if_pos rfl]
    cases o with
    | none =>
      refine ⟨by simp, hf, fun w hw fw => ?_⟩
      rcases List.mem_append.1 hw with q | q
      · rw [h w q] at fw; cases fw
      · exact .inl (List.mem_singleton.1 q)
    | some u =>
      obtain ⟨h1, h2, h3⟩ := h
      dsimp only
      by_cases hl : orderL v u < 0
      · rw [if_pos hl]
        have hl := orderL_lt.1 hl
        refine ⟨by simp, hf, fun w hw fw => ?_⟩
        rcases List.mem_append.1 hw with q | q
        · rcases h3 w q fw with r | r
          · subst r; exact .inr hl
          · exact .inr (hl.trans r)
        · exact .inl (List.mem_singleton.1 q)
      · rw [if_neg hl]
        refine ⟨by simp [h1], h2, fun w hw fw => ?_⟩
        rcases List.mem_append.1 hw with q | q
        · exact h3 w q fw
        · rw [List.mem_singleton.1 q]
          rcases ltV_total u v with r | r | r
          · exact .inr r
          · exact absurd r (ha u h1)
          · exact absurd (orderL_lt.2 r) hl
theorem bestV_fold {key : ByteArray} : ∀ (vs us : List VerL) (o : Option VerL), BestV key us o → NoAl (us ++ vs) → BestV key (us ++ vs) (vs.foldl (stepL key) o)
  | [], us, o, h, _ => by simpa using h
  | v :: vs, us, o, h, hp => by
    have h1 := bestV_step (v := v) h (fun u hu => (List.pairwise_append.1 hp).2.2 u hu v (by simp))
    have := bestV_fold vs (us ++ [v]) _ h1 (by simpa using hp)
    simpa using this
theorem bestV_last {key : ByteArray} {vs : List VerL} (hp : NoAl vs) : BestV key vs (lastL key vs) := by
  have := bestV_fold (key := key) vs [] none (fun v hv => by cases hv) (by simpa using hp)
  simpa [lastL] using this
theorem bestV_one {key : ByteArray} {vs us : List VerL} {o p : Option VerL} (hm : ∀ v, v ∈ vs ↔ v ∈ us) (h : BestV key vs o) (k : BestV key us p) : o = p := by
  cases o with
  | none =>
    cases p with
    | none => rfl
    | some u => have := h u ((hm u).2 k.1); rw [k.2.1] at this; cases this
  | some v =>
    cases p with
    | none => have := k v ((hm v).1 h.1); rw [h.2.1] at this; cases this
    | some u =>
      congr 1
      rcases h.2.2 u ((hm u).2 k.1) k.2.1 with r | r
      · exact r.symm
      · rcases k.2.2 v ((hm v).1 h.1) h.2.1 with s | s
        · exact s
        · exact absurd (r.trans s) LtV.irrefl
theorem last_valV {key : ByteArray} (hr : regB key = true) (vs : List VerL) : valueL key vs = ofLast key (lastL key vs) := by unfold valueL; rw [if_pos hr]
theorem out_val {key : ByteArray} (hr : regB key = false) (vs : List VerL) : valueL key vs = vs.foldl (fun o v => afterL key o v.act) noVal := by unfold valueL; rw [if_neg (by rw [hr]; decide)]; rfl
/-- what versions tell does not hang on their order -/
theorem val_perm {key : ByteArray} {vs us : List VerL} (h : vs.Perm us) (hp : NoAl vs) (hok : ∀ v ∈ vs, v.act.Ok) : SamV (valueL key vs) (valueL key us) := by
  cases hr : regB key with
  | true =>
    rw [last_valV hr, last_valV hr, bestV_one (fun v => h.mem_iff) (bestV_last hp) (bestV_last (h.pairwise hp (fun q r => q r.symm)))]
    exact SamV.refl _
  | false =>
    rw [out_val hr, out_val hr]
    exact out_perm hr h noVal hok

def leqV (at_ : List Int) (v : VerL) : Bool := leqL v.at_ at_
/-- fold.Read -/
def readL (key : ByteArray) (l : List VerL) (at_ : List Int) : ValL := valueL key ((orderOf l).filter (leqV at_))
def stayL (floor : List Int) (o : List VerL) : List VerL := o.filter (fun v => !leqV floor v)
def seenL (key : ByteArray) (floor : List Int) (o : List VerL) : List VerL := o.filter (fun v => leqV floor v && fitsB key v.act)
def minV : List Int → Int
  | [] => 0
  | x :: xs => xs.foldl min x
def goneL (stay : List VerL) (first : VerL) (floor : List Int) (all : Bool) : Bool := all && (decide (first.act.k = 4) && (decide (timeL first ≤ minV floor) && !stay.any (fun v => decide (orderL first v < 0))))
def oneStep (key : ByteArray) (o v : VerL) : VerL := ⟨key, joinL o.at_ v.at_, 254, max o.tx v.tx, bothL key o.act v.act⟩
def oneV (key : ByteArray) (v : VerL) : VerL := ⟨key, v.at_, 254, v.tx, v.act⟩
/-- fold.one, of what is seen turned round -/
def oneL (key : ByteArray) : List VerL → VerL
  | [] => oneV key noVer
  | last :: rest => rest.foldl (oneStep key) (oneV key last)
/-- what Drop keeps of what stays and of what is seen -/
def keptL (key : ByteArray) (stay : List VerL) (floor : List Int) (all : Bool) : List VerL → List VerL
  | [] => stay
  | first :: rest =>
    if regB key then orderOf (stay ++ (if goneL stay first floor all then [] else [first]))
    else if all && decide (rest ≠ []) then stay ++ [oneL key (first :: rest).reverse]
    else orderOf (stay ++ (first :: rest))
/-- fold.Drop -/
def dropO (key : ByteArray) (o : List VerL) (floor : List Int) (all : Bool) : List VerL :=
  if isKeyB key && validL floor then keptL key (stayL floor o) floor all (seenL key floor o) else o
def dropL (key : ByteArray) (l : List VerL) (floor : List Int) (all : Bool) : List VerL := dropO key (orderOf l) floor all
/-- versions of a key that can be -/
structure RightV (key : ByteArray) (n : Nat) (v : VerL) : Prop where
  valid : validL v.at_ = true
  len : v.at_.length = n
  place : (0 ≤ v.origin ∧ v.origin < (n : Int)) ∨ v.origin = 254
  tx : 0 ≤ v.tx
  fits : fitsB key v.act = true
  ok : v.act.Ok
def RightL (key : ByteArray) (n : Nat) (l : List VerL) : Prop := ∀ v ∈ l, RightV key n v
theorem RightL.order {key : ByteArray} {n : Nat} {l : List VerL} (h : RightL key n l) : RightL key n (orderOf l) := fun v hv => h v (order_mem hv)

/-! ### the one that stands for several -/
structure OneOk (key : ByteArray) (n : Nat) (floor : List Int) (o : VerL) : Prop where
  right : RightV key n o
  leq : leqL o.at_ floor = true
  folded : o.origin = 254
theorem join_leq {a b c : List Int} (h1 : a.length = b.length) (h2 : b.length = c.length) (ha : leqL a c = true) (hb : leqL b c = true) : leqL (joinL a b) c = true := by
  have hl := join_len' h1
  rw [leqL_iff (by rw [hl]; omega)]
  intro j hj
  rw [hl] at hj
  rw [join_nth h1 hj]
  have p := (leqL_iff (by omega)).1 ha j hj
  have q := (leqL_iff h2).1 hb j (by omega)
  omega
theorem one_step {key : ByteArray} {n : Nat} {floor : List Int} {o v : VerL} (hf : floor.length = n) (h : OneOk key n floor o) (r : RightV key n v) (hl : leqL v.at_ floor = true) : OneOk key n floor (oneStep key o v) := by
  have e : o.at_.length = v.at_.length := h.right.len.trans r.len.symm
  refine ⟨⟨join_valid h.right.valid r.valid e, (join_len' e).trans h.right.len, .inr rfl, ?_, ?_, both_ok h.right.ok r.ok⟩, join_leq e (r.len.trans hf.symm) h.leq hl, rfl⟩
  · show 0 ≤ max o.tx v.tx
    have := h.right.tx
    omega
  · exact (after_both noVal h.right.ok r.ok h.right.fits r.fits).2
theorem one_start {key : ByteArray} {n : Nat} {floor : List Int} {v : VerL} (r : RightV key n v) (hl : leqL v.at_ floor = true) : OneOk key n floor (oneV key v) := ⟨⟨r.valid, r.len, .inr rfl, r.tx, r.fits, r.ok⟩, hl, rfl⟩
theorem one_fold {key : ByteArray} {n : Nat} {floor : List Int} (hf : floor.length = n) : ∀ (vs : List VerL) (o : VerL), OneOk key n floor o → (∀ v ∈ vs, RightV key n v ∧ leqL v.at_ floor = true) → OneOk key n floor (vs.foldl (oneStep key) o)
  | [], _, h, _ => h
  | v :: vs, o, h, hv => one_fold hf vs _ (one_step hf h (hv v (by simp)).1 (hv v (by simp)).2) (fun u hu => hv u (by simp [hu]))
theorem one_ok {key : ByteArray} {n : Nat} {floor : List Int} (hf : floor.length = n) {vs : List VerL} (h0 : vs ≠ []) (hv : ∀ v ∈ vs, RightV key n v ∧ leqL v.at_ floor = true) : OneOk key n floor (oneL key vs) := by
  cases vs with
  | nil => exact absurd rfl h0
  | cons v vs => exact one_fold hf vs _ (one_start (hv v (by simp)).1 (hv v (by simp)).2) (fun u hu => hv u (by simp [hu]))
/-- the one tells what all of them tell -/
theorem one_tells {key : ByteArray} (hr : regB key = false) : ∀ (vs : List VerL) (a : VerL) (x : ValL), a.act.Ok → fitsB key a.act = true → (∀ v ∈ vs, v.act.Ok ∧ fitsB key v.act = true) →
    SamV (vs.foldl (fun o v => afterL key o v.act) (afterL key x a.act)) (afterL key x (vs.foldl (oneStep key) a).act)
  | [], a, x, _, _, _ => SamV.refl _
  | v :: vs, a, x, oa, ha, hv => by
    obtain ⟨ov, fv⟩ := hv v (by simp)
    obtain ⟨h1, h2⟩ := after_both x oa ov ha fv
    have ih := one_tells hr vs (oneStep key a v) x (both_ok oa ov) h2 (fun u hu => hv u (by simp [hu]))
    exact (out_cong hr vs _ _ (fun u hu => (hv u (by simp [hu])).1) (samV.2 h1)).trans ih
theorem ones_tell {key : ByteArray} (hr : regB key = false) {vs : List VerL} (h0 : vs ≠ []) (x : ValL) (hv : ∀ v ∈ vs, v.act.Ok ∧ fitsB key v.act = true) :
    SamV (vs.foldl (fun o v => afterL key o v.act) x) (afterL key x (oneL key vs).act) := by
  cases vs with
  | nil => exact absurd rfl h0
  | cons v vs => exact one_tells hr vs (oneV key v) x (hv v (by simp)).1 (hv v (by simp)).2 (fun u hu => hv u (by simp [hu]))
end Go.Proofs.Ytginbjcpcgphgaa
end
