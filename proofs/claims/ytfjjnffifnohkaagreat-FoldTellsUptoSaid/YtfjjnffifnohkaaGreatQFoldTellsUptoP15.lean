import Derived.Test.YtfjjnffifnohkaaGreatQFoldTellsUptoP10
import Derived.Test.YtfjjnffifnohkaaGreatQFoldTellsUptoP12
import Derived.Test.YtfjjnffifnohkaaGreatQFoldTellsUptoP14
import Derived.Test.YtfjjnffifnohkaaGreatQLater
import Derived.Test.YtfjjnffifnohkaaGreatQFoldTellsUptoP7
import Derived.Test.YtfjjnffifnohkaaGreatQFoldTellsUptoP6
import Derived.Deep.AppendSrc
import Derived.Maps.OwnRows
import Derived.Test.YtfjjnffifnohkaaGreatQFoldTellsUptoP1
import Derived.Test.YtfjjnffifnohkaaGreatQFoldTellsUptoP11
import Derived.Test.YtfjjnffifnohkaaGreatQFoldTellsUptoP4

/- what versions tell, and what is left of them: plain laws. By an AI agent. -/
section
set_option linter.unusedVariables false
set_option linter.unusedSimpArgs false
namespace Go.Proofs.YtfjjnffifnohkaaGreat
open Go.RowKit

/-- no two are of one stamp -/
abbrev NoAl (l : List VerL) : Prop := l.Pairwise (fun a b => ¬ AlV a b)
/-- the first of those that count -/
def BestV (key : ByteArray) (vs : List VerL) : Option VerL → Prop
  | none => ∀ v ∈ vs, fitsB key v.act = false
  | some u => u ∈ vs ∧ fitsB key u.act = true ∧ ∀ v ∈ vs, fitsB key v.act = true → v = u ∨ LtV u v
theorem bestV_step {key : ByteArray} {vs : List VerL} {o : Option VerL} {v : VerL} (h : BestV key vs o) (ha : ∀ u ∈ vs, ¬ AlV u v) : BestV key (vs ++ [v]) (stepL key o v) := by
  unfold stepL
  cases hf : fitsB key v.act with
  | false =>
    rw [if_neg (by decide)]
    cases o with
    | none =>
      intro u hu
      rcases List.mem_append.1 hu with q | q
      · exact h u q
      · rw [List.mem_singleton.1 q]; exact hf
    | some u =>
      obtain ⟨h1, h2, h3⟩ := h
      refine ⟨by simp [h1], h2, fun w hw fw => ?_⟩
      rcases List.mem_append.1 hw with q | q
      · exact h3 w q fw
      · rw [List.mem_singleton.1 q, hf] at fw; cases fw
  | true =>
    rw [if_pos rfl]
    cases o with
    | none =>
      refine ⟨by simp, hf, fun w hw fw => ?_⟩
      rcases List.mem_append.1 hw with q | q
      · rw [h w q] at fw; cases fw
      · exact .inl (List.mem_singleton.1 q)
    | some u =>
      obtain ⟨h1, h2, h3⟩ := h
      dsimp only
      by_cases hl : orderL v u < 0
      · rw [if_pos hl]
        have hl := orderL_lt.1 hl
        refine ⟨by simp, hf, fun w hw fw => ?_⟩
        rcases List.mem_append.1 hw with q | q
        · rcases h3 w q fw with r | r
          · subst r; exact .inr hl
          · exact .inr (hl.trans r)
        · exact .inl (List.mem_singleton.1 q)
      · rw [if_neg hl]
        refine ⟨by simp [h1], h2, fun w hw fw => ?_⟩
        rcases List.mem_append.1 hw with q | q
        · exact h3 w q fw
        · rw [List.mem_singleton.1 q]
          rcases ltV_total u v with r | r | r
          · exact .inr r
          · exact absurd r (ha u h1)
          · exact absurd (orderL_lt.2 r) hl
theorem bestV_fold {key : ByteArray} : ∀ (vs us : List VerL) (o : Option VerL), BestV key us o → NoAl (us ++ vs) → BestV key (us ++ vs) (vs.foldl (stepL key) o)
  | [], us, o, h, _ => by simpa using h
  | v :: vs, us, o, h, hp => by
    have h1 := bestV_step (v := v) h (fun u hu => (List.pairwise_append.1 hp).2.2 u hu v (by simp))
    have := bestV_fold vs (us ++ [v]) _ h1 (by simpa using hp)
    simpa using this
theorem bestV_last {key : ByteArray} {vs : List VerL} (hp : NoAl vs) : BestV key vs (lastL key vs) := by
  have := bestV_fold (key := key) vs [] none (fun v hv => by cases hv) (by simpa using hp)
  simpa [lastL] using this
theorem bestV_one {key : ByteArray} {vs us : List VerL} {o p : Option VerL} (hm : ∀ v, v ∈ vs ↔ v ∈ us) (h : BestV key vs o) (k : BestV key us p) : o = p := by
  cases o with
  | none =>
    cases p with
    | none => rfl
    | some u => have := h u ((hm u).2 k.1); rw [k.2.1] at this; cases this
  | some v =>
    cases p with
    | none => have := k v ((hm v).1 h.1); rw [h.2.1] at this; cases this
    | some u =>
      congr 1
      rcases h.2.2 u ((hm u).2 k.1) k.2.1 with r | r
      · exact r.symm
      · rcases k.2.2 v ((hm v).1 h.1) h.2.1 with s | s
        · exact s
        · exact absurd (r.trans s) LtV.irrefl
theorem last_valV {key : ByteArray} (hr : regB key = true) (vs : List VerL) : valueL key vs = ofLast key (lastL key vs) := by unfold valueL; rw [if_pos hr]
theorem out_val {key : ByteArray} (hr : regB key = false) (vs : List VerL) : valueL key vs = vs.foldl (fun o v => afterL key o v.act) noVal := by unfold valueL; rw [if_neg (by rw [hr]; decide)]; rfl
/-- what versions tell does not hang on their order -/
theorem val_perm {key : ByteArray} {vs us : List VerL} (h : vs.Perm us) (hp : NoAl vs) (hok : ∀ v ∈ vs, v.act.Ok) : SamV (valueL key vs) (valueL key us) := by
  cases hr : regB key with
  | true =>
    rw [last_valV hr, last_valV hr, bestV_one (fun v => h.mem_iff) (bestV_last hp) (bestV_last (h.pairwise hp (fun q r => q r.symm)))]
    exact SamV.refl _
  | false =>
    rw [out_val hr, out_val hr]
    exact out_perm hr h noVal hok

def leqV (at_ : List Int) (v : VerL) : Bool := leqL v.at_ at_
/-- fold.Read -/
def readL (key : ByteArray) (l : List VerL) (at_ : List Int) : ValL := valueL key ((orderOf l).filter (leqV at_))
def stayL (floor : List Int) (o : List VerL) : List VerL := o.filter (fun v => !leqV floor v)
def seenL (key : ByteArray) (floor : List Int) (o : List VerL) : List VerL := o.filter (fun v => leqV floor v && fitsB key v.act)
def minV : List Int → Int
  | [] => 0
  | x :: xs => xs.foldl min x
def goneL (stay : List VerL) (first : VerL) (floor : List Int) (all : Bool) : Bool := all && (decide (first.act.k = 4) && (decide (timeL first ≤ minV floor) && !stay.any (fun v => decide (orderL first v < 0))))
def oneStep (key : ByteArray) (o v : VerL) : VerL := ⟨key, joinL o.at_ v.at_, 254, max o.tx v.tx, bothL key o.act v.act⟩
def oneV (key : ByteArray) (v : VerL) : VerL := ⟨key, v.at_, 254, v.tx, v.act⟩
/-- fold.one, of what is seen turned round -/
def oneL (key : ByteArray) : List VerL → VerL
  | [] => oneV key noVer
  | last :: rest => rest.foldl (oneStep key) (oneV key last)
/-- what Drop keeps of what stays and of what is seen -/
def keptL (key : ByteArray) (stay : List VerL) (floor : List Int) (all : Bool) : List VerL → List VerL
  | [] => stay
  | first :: rest =>
    if regB key then orderOf (stay ++ (if goneL stay first floor all then [] else [first]))
    else if all && decide (rest ≠ []) then stay ++ [oneL key (first :: rest).reverse]
    else orderOf (stay ++ (first :: rest))
/-- fold.Drop -/
def dropO (key : ByteArray) (o : List VerL) (floor : List Int) (all : Bool) : List VerL :=
  if isKeyB key && validL floor then keptL key (stayL floor o) floor all (seenL key floor o) else o
def dropL (key : ByteArray) (l : List VerL) (floor : List Int) (all : Bool) : List VerL := dropO key (orderOf l) floor all
/-- versions of a key that can be -/
structure RightV (key : ByteArray) (n : Nat) (v : VerL) : Prop where
  valid : validL v.at_ = true
  len : v.at_.length = n
  place : (0 ≤ v.origin ∧ v.origin < (n : Int)) ∨ v.origin = 254
  tx : 0 ≤ v.tx
  fits : fitsB key v.act = true
  ok : v.act.Ok
def RightL (key : ByteArray) (n : Nat) (l : List VerL) : Prop := ∀ v ∈ l, RightV key n v
theorem RightL.order {key : ByteArray} {n : Nat} {l : List VerL} (h : RightL key n l) : RightL key n (orderOf l) := fun v hv => h v (order_mem hv)

/-! ### the one that stands for several -/
structure OneOk (key : ByteArray) (n : Nat) (floor : List Int) (o : VerL) : Prop where
  right : RightV key n o
  leq : leqL o.at_ floor = true
  folded : o.origin = 254
theorem join_leq {a b c : List Int} (h1 : a.length = b.length) (h2 : b.length = c.length) (ha : leqL a c = true) (hb : leqL b c = true) : leqL (joinL a b) c = true := by
  have hl := join_len' h1
  rw [leqL_iff (by rw [hl]; omega)]
  intro j hj
  rw [hl] at hj
  rw [join_nth h1 hj]
  have p := (leqL_iff (by omega)).1 ha j hj
  have q := (leqL_iff h2).1 hb j (by omega)
  omega
theorem one_step {key : ByteArray} {n : Nat} {floor : List Int} {o v : VerL} (hf : floor.length = n) (h : OneOk key n floor o) (r : RightV key n v) (hl : leqL v.at_ floor = true) : OneOk key n floor (oneStep key o v) := by
  have e : o.at_.length = v.at_.length := h.right.len.trans r.len.symm
  refine ⟨⟨join_valid h.right.valid r.valid e, (join_len' e).trans h.right.len, .inr rfl, ?_, ?_, both_ok h.right.ok r.ok⟩, join_leq e (r.len.trans hf.symm) h.leq hl, rfl⟩
  · show 0 ≤ max o.tx v.tx
    have := h.right.tx
    omega
  · exact (after_both noVal h.right.ok r.ok h.right.fits r.fits).2
theorem one_start {key : ByteArray} {n : Nat} {floor : List Int} {v : VerL} (r : RightV key n v) (hl : leqL v.at_ floor = true) : OneOk key n floor (oneV key v) := ⟨⟨r.valid, r.len, .inr rfl, r.tx, r.fits, r.ok⟩, hl, rfl⟩
theorem one_fold {key : ByteArray} {n : Nat} {floor : List Int} (hf : floor.length = n) : ∀ (vs : List VerL) (o : VerL), OneOk key n floor o → (∀ v ∈ vs, RightV key n v ∧ leqL v.at_ floor = true) → OneOk key n floor (vs.foldl (oneStep key) o)
  | [], _, h, _ => h
  | v :: vs, o, h, hv => one_fold hf vs _ (one_step hf h (hv v (by simp)).1 (hv v (by simp)).2) (fun u hu => hv u (by simp [hu]))
theorem one_ok {key : ByteArray} {n : Nat} {floor : List Int} (hf : floor.length = n) {vs : List VerL} (h0 : vs ≠ []) (hv : ∀ v ∈ vs, RightV key n v ∧ leqL v.at_ floor = true) : OneOk key n floor (oneL key vs) := by
  cases vs with
  | nil => exact absurd rfl h0
  | cons v vs => exact one_fold hf vs _ (one_start (hv v (by simp)).1 (hv v (by simp)).2) (fun u hu => hv u (by simp [hu]))
/-- the one tells what all of them tell -/
theorem one_tells {key : ByteArray} (hr : regB key = false) : ∀ (vs : List VerL) (a : VerL) (x : ValL), a.act.Ok → fitsB key a.act = true → (∀ v ∈ vs, v.act.Ok ∧ fitsB key v.act = true) →
    SamV (vs.foldl (fun o v => afterL key o v.act) (afterL key x a.act)) (afterL key x (vs.foldl (oneStep key) a).act)
  | [], a, x, _, _, _ => SamV.refl _
  | v :: vs, a, x, oa, ha, hv => by
    obtain ⟨ov, fv⟩ := hv v (by simp)
    obtain ⟨h1, h2⟩ := after_both x oa ov ha fv
    have ih := one_tells hr vs (oneStep key a v) x (both_ok oa ov) h2 (fun u hu => hv u (by simp [hu]))
    exact (out_cong hr vs _ _ (fun u hu => (hv u (by simp [hu])).1) (samV.2 h1)).trans ih
theorem ones_tell {key : ByteArray} (hr : regB key = false) {vs : List VerL} (h0 : vs ≠ []) (x : ValL) (hv : ∀ v ∈ vs, v.act.Ok ∧ fitsB key v.act = true) :
    SamV (vs.foldl (fun o v => afterL key o v.act) x) (afterL key x (oneL key vs).act) := by
  cases vs with
  | nil => exact absurd rfl h0
  | cons v vs => exact one_tells hr vs (oneV key v) x (hv v (by simp)).1 (hv v (by simp)).2 (fun u hu => hv u (by simp [hu]))
end Go.Proofs.YtfjjnffifnohkaaGreat
end

/- what is dropped nobody misses: plain law. By an AI agent. -/
section
set_option linter.unusedVariables false
set_option linter.unusedSimpArgs false
namespace Go.Proofs.YtfjjnffifnohkaaGreat
open Go.RowKit

theorem strict_filter {l : List VerL} (h : l.Pairwise LtV) (p : VerL → Bool) : (l.filter p).Pairwise LtV := h.sublist List.filter_sublist
theorem mem_stay {floor : List Int} {o : List VerL} {v : VerL} : v ∈ stayL floor o ↔ v ∈ o ∧ leqV floor v = false := by
  unfold stayL; rw [List.mem_filter]; simp
theorem mem_seen {key : ByteArray} {floor : List Int} {o : List VerL} {n : Nat} (h : RightL key n o) {v : VerL} : v ∈ seenL key floor o ↔ v ∈ o ∧ leqV floor v = true := by
  unfold seenL
  rw [List.mem_filter, Bool.and_eq_true]
  exact ⟨fun q => ⟨q.1, q.2.1⟩, fun q => ⟨q.1, q.2, (h v q.1).fits⟩⟩
theorem apart_at {floor : List Int} {a b : VerL} (ha : leqV floor a = false) (hb : leqV floor b = true) : ¬ AlV a b := fun h => by
  unfold leqV at ha hb
  rw [h.2.2.2, hb] at ha
  cases ha
theorem noal_two {floor : List Int} {xs ys : List VerL} (hx : NoAl xs) (hy : NoAl ys) (h1 : ∀ v ∈ xs, leqV floor v = false) (h2 : ∀ v ∈ ys, leqV floor v = true) : NoAl (xs ++ ys) :=
  List.pairwise_append.2 ⟨hx, hy, fun a ha b hb => apart_at (h1 a ha) (h2 b hb)⟩
/-- the parts of a strict list, put together, are that list -/
theorem parts_order {key : ByteArray} {floor : List Int} {n : Nat} {o : List VerL} (hs : o.Pairwise LtV) (h : RightL key n o) : orderOf (stayL floor o ++ seenL key floor o) = o ∧ NoAl (stayL floor o ++ seenL key floor o) := by
  have hn : NoAl (stayL floor o ++ seenL key floor o) := noal_two (strict_apart (strict_filter hs _)) (strict_apart (strict_filter hs _)) (fun v hv => (mem_stay.1 hv).2) (fun v hv => ((mem_seen h).1 hv).2)
  refine ⟨strict_eq _ _ (order_strict _) hs (fun v => ?_), hn⟩
  rw [order_all hn, List.mem_append, mem_stay, mem_seen h]
  constructor
  · rintro (q | q)
    · exact q.1
    · exact q.1
  · intro q
    cases e : leqV floor v with
    | false => exact .inl ⟨q, rfl⟩
    | true => exact .inr ⟨q, rfl⟩
theorem parts_perm {key : ByteArray} {floor : List Int} {n : Nat} {o : List VerL} (hs : o.Pairwise LtV) (h : RightL key n o) : o.Perm (stayL floor o ++ seenL key floor o) := by
  have p := parts_order (floor := floor) hs h
  have := order_perm p.2
  rw [p.1] at this
  exact this
theorem leqV_more {floor at_ : List Int} {v : VerL} (h1 : v.at_.length = floor.length) (h2 : floor.length = at_.length) (hl : leqL floor at_ = true) (h : leqV floor v = true) : leqV at_ v = true := leq_trans h1 h2 h hl
theorem filter_all {l : List VerL} {p : VerL → Bool} (h : ∀ v ∈ l, p v = true) : l.filter p = l := List.filter_eq_self.2 h
theorem read_strict {key : ByteArray} {o : List VerL} (hs : o.Pairwise LtV) (at_ : List Int) : readL key o at_ = valueL key (o.filter (leqV at_)) := by unfold readL; rw [order_id hs]
/-- the best of more that is there too -/
theorem best_sub {key : ByteArray} {F G : List VerL} (hF : NoAl F) (hG : NoAl G) (hs : ∀ v ∈ G, v ∈ F) {u : VerL} (hb : lastL key F = some u) (hu : u ∈ G) : lastL key G = some u := by
  have b := bestV_last (key := key) hF
  rw [hb] at b
  exact bestV_one (vs := G) (us := G) (fun _ => Iff.rfl) (bestV_last hG) (show BestV key G (some u) from ⟨hu, b.2.1, fun v hv fv => b.2.2 v (hs v hv) fv⟩)
theorem keptL_cons (key : ByteArray) (stay : List VerL) (floor : List Int) (all : Bool) (first : VerL) (rest : List VerL) : keptL key stay floor all (first :: rest) = if regB key then orderOf (stay ++ (if goneL stay first floor all then [] else [first])) else if all && decide (rest ≠ []) then stay ++ [oneL key (first :: rest).reverse] else orderOf (stay ++ (first :: rest)) := rfl
theorem gone_facts {stay : List VerL} {first : VerL} {floor : List Int} {all : Bool} (h : goneL stay first floor all = true) : all = true ∧ first.act.k = 4 ∧ timeL first ≤ minV floor ∧ ∀ v ∈ stay, ¬ LtV first v := by
  unfold goneL at h
  simp only [Bool.and_eq_true, decide_eq_true_eq, Bool.not_eq_true', List.any_eq_false] at h
  exact ⟨h.1, h.2.1, h.2.2.1, fun v hv q => by have := h.2.2.2 v hv; simp at this; have := orderL_lt.2 q; omega⟩
theorem keepsO {key : ByteArray} {n : Nat} {o : List VerL} {floor at_ : List Int} (all : Bool) (hs : o.Pairwise LtV) (hR : RightL key n o) (hn : floor.length = n) (ha : at_.length = n) (hl : leqL floor at_ = true) :
    SamV (valueL key (o.filter (leqV at_))) (readL key (dropO key o floor all) at_) := by
  have hst := strict_filter hs (fun v => !leqV floor v)
  have hse := strict_filter hs (fun v => leqV floor v && fitsB key v.act)
  have hP := parts_order (floor := floor) hs hR
  have hPm := parts_perm (floor := floor) hs hR
  have mst := fun v => mem_stay (floor := floor) (o := o) (v := v)
  have mse := fun v => mem_seen (floor := floor) hR (v := v)
  have more : ∀ v ∈ o, leqV floor v = true → leqV at_ v = true := fun v hv h => leqV_more ((hR v hv).len.trans hn.symm) (hn.trans ha.symm) hl h
  unfold dropO
  split
  case isFalse =>
    rw [read_strict hs]
    exact SamV.refl _
  case isTrue =>
    change (stayL floor o).Pairwise LtV at hst
    change (seenL key floor o).Pairwise LtV at hse
    generalize stayL floor o = stay at *
    generalize seenL key floor o = seen at *
    cases seen with
    | nil =>
      show SamV _ (readL key stay at_)
      rw [List.append_nil, order_id hst] at hP
      rw [hP.1, read_strict hs]
      exact SamV.refl _
    | cons first rest =>
      have hfirst : ∀ v ∈ first :: rest, v = first ∨ LtV first v := fun v hv => by
        rcases List.mem_cons.1 hv with q | q
        · exact .inl q
        · exact .inr ((List.pairwise_cons.1 hse).1 v q)
      have hf1 := (mse first).1 (by simp)
      have hF : NoAl (o.filter (leqV at_)) := strict_apart (strict_filter hs _)
      rw [keptL_cons]
      cases hr : regB key with
      | true =>
        rw [if_pos rfl, last_valV hr]
        have hb := bestV_last (key := key) hF
        have hff : first ∈ o.filter (leqV at_) := List.mem_filter.2 ⟨hf1.1, more _ hf1.1 hf1.2⟩
        cases hL : lastL key (o.filter (leqV at_)) with
        | none =>
          rw [hL] at hb
          have := hb first hff
          rw [(hR first hf1.1).fits] at this
          cases this
        | some u =>
          rw [hL] at hb
          have hu := List.mem_filter.1 hb.1
          have key1 : u ∈ stay ∨ u = first := by
            cases e : leqV floor u with
            | false => exact .inl ((mst u).2 ⟨hu.1, e⟩)
            | true =>
              right
              rcases hfirst u ((mse u).2 ⟨hu.1, e⟩) with q | q
              · exact q
              · rcases hb.2.2 first hff (hR first hf1.1).fits with r | r
                · exact r.symm
                · exact absurd (q.trans r) LtV.irrefl
          cases hg : goneL stay first floor all with
          | false =>
            rw [if_neg (by decide)]
            have hN : NoAl (stay ++ [first]) := noal_two (floor := floor) (strict_apart hst) (List.pairwise_singleton _ _) (fun v hv => ((mst v).1 hv).2) (fun v hv => by rw [List.mem_singleton.1 hv]; exact hf1.2)
            rw [read_strict (order_strict _), last_valV hr]
            have hG : NoAl ((orderOf (stay ++ [first])).filter (leqV at_)) := strict_apart (strict_filter (order_strict _) _)
            have hsubG : ∀ v ∈ (orderOf (stay ++ [first])).filter (leqV at_), v ∈ o.filter (leqV at_) := fun v hv => by
              obtain ⟨h1, h2⟩ := List.mem_filter.1 hv
              rw [order_all hN, List.mem_append, List.mem_singleton] at h1
              refine List.mem_filter.2 ⟨?_, h2⟩
              rcases h1 with q | q
              · exact ((mst v).1 q).1
              · rw [q]; exact hf1.1
            rw [best_sub hF hG hsubG hL (List.mem_filter.2 ⟨by rw [order_all hN, List.mem_append, List.mem_singleton]; exact key1, hu.2⟩)]
            exact SamV.refl _
          | true =>
            rw [if_pos rfl, List.append_nil, order_id hst, read_strict hst, last_valV hr]
            obtain ⟨g1, g2, g3, g4⟩ := gone_facts hg
            have hG : NoAl (stay.filter (leqV at_)) := strict_apart (strict_filter hst _)
            have hsub : ∀ v ∈ stay.filter (leqV at_), v ∈ o.filter (leqV at_) := fun v hv => by
              obtain ⟨h1, h2⟩ := List.mem_filter.1 hv
              exact List.mem_filter.2 ⟨((mst v).1 h1).1, h2⟩
            rcases key1 with q | q
            · rw [best_sub hF hG hsub hL (List.mem_filter.2 ⟨q, hu.2⟩)]
              exact SamV.refl _
            · subst q
              have hE : stay.filter (leqV at_) = [] := by
                cases e : stay.filter (leqV at_) with
                | nil => rfl
                | cons v vs =>
                  exfalso
                  have hv : v ∈ stay.filter (leqV at_) := by rw [e]; simp
                  have hvo := hsub v hv
                  have hvs := (List.mem_filter.1 hv).1
                  rcases hb.2.2 v hvo (hR v (List.mem_filter.1 hvo).1).fits with r | r
                  · subst r
                    have := ((mst v).1 hvs).2
                    rw [hf1.2] at this; cases this
                  · exact g4 v hvs r
              rw [hE]
              show SamV (afterL key noVal u.act) noVal
              rw [after_reg _ hr (hR u hf1.1).fits]
              unfold valOf
              rw [if_pos g2]
              exact SamV.refl _
      | false =>
        rw [if_neg (by decide)]
        have hall : ∀ v ∈ first :: rest, leqV at_ v = true := fun v hv => more v ((mse v).1 hv).1 ((mse v).1 hv).2
        have hok : ∀ v ∈ o, v.act.Ok := fun v hv => (hR v hv).ok
        split
        · have hO := one_ok (key := key) hn (vs := (first :: rest).reverse) (by simp) (fun v hv => by
            have h1 := (mse v).1 (List.mem_reverse.1 hv)
            exact ⟨hR v h1.1, h1.2⟩)
          have hN : NoAl (stay ++ [oneL key (first :: rest).reverse]) := noal_two (floor := floor) (strict_apart hst) (List.pairwise_singleton _ _) (fun v hv => ((mst v).1 hv).2) (fun v hv => by rw [List.mem_singleton.1 hv]; exact hO.leq)
          have hT := ones_tell (key := key) hr (vs := (first :: rest).reverse) (by simp) ((stay.filter (leqV at_)).foldl (fun o v => afterL key o v.act) noVal) (fun v hv => by
            have h1 := (mse v).1 (List.mem_reverse.1 hv)
            exact ⟨hok v h1.1, (hR v h1.1).fits⟩)
          have hOL : leqV at_ (oneL key (first :: rest).reverse) = true := leqV_more (hO.right.len.trans hn.symm) (hn.trans ha.symm) hl hO.leq
          generalize oneL key (first :: rest).reverse = q at *
          have e1 : SamV (valueL key (o.filter (leqV at_))) (valueL key (stay.filter (leqV at_) ++ (first :: rest).reverse)) := by
            refine val_perm ?_ hF (fun v hv => hok v (List.mem_filter.1 hv).1)
            have p1 := hPm.filter (leqV at_)
            rw [List.filter_append, filter_all hall] at p1
            exact p1.trans (List.Perm.append_left _ (List.reverse_perm _).symm)
          have e2 : SamV (valueL key (stay.filter (leqV at_) ++ [q])) (readL key (stay ++ [q]) at_) := by
            unfold readL
            have p1 := (order_perm hN).symm.filter (leqV at_)
            rw [List.filter_append, show [q].filter (leqV at_) = [q] from filter_all (fun v hv => by rw [List.mem_singleton.1 hv]; exact hOL)] at p1
            refine val_perm p1 (noal_two (floor := floor) (strict_apart (strict_filter hst _)) (List.pairwise_singleton _ _) (fun v hv => ((mst v).1 (List.mem_filter.1 hv).1).2) (fun v hv => by rw [List.mem_singleton.1 hv]; exact hO.leq)) (fun v hv => ?_)
            rcases List.mem_append.1 hv with r | r
            · exact hok v ((mst v).1 (List.mem_filter.1 r).1).1
            · rw [List.mem_singleton.1 r]; exact hO.right.ok
          refine (e1.trans ?_).trans e2
          rw [out_val hr, out_val hr, List.foldl_append, List.foldl_append]
          exact hT
        · rw [hP.1, read_strict hs]
          exact SamV.refl _
theorem keeps {key : ByteArray} {n : Nat} {l : List VerL} {floor at_ : List Int} (all : Bool) (hR : RightL key n l) (hn : floor.length = n) (ha : at_.length = n) (hl : leqL floor at_ = true) :
    SamV (readL key l at_) (readL key (dropL key l floor all) at_) := keepsO all (order_strict l) hR.order hn ha hl
end Go.Proofs.YtfjjnffifnohkaaGreat
end

/- an order of versions that is made one by one: plain law. By an AI agent. -/
section
set_option linter.unusedVariables false
set_option linter.unusedSimpArgs false
namespace Go.Proofs.YtfjjnffifnohkaaGreat
open Go.RowKit

section
variable {α : Type} {eq : α → α → Bool}
/-- the last of p and what stands behind it -/
def lst (p : α) : List α → α
  | [] => p
  | y :: X => lst y X
theorem cptGo_cons (p y : α) (l : List α) : cptGo eq p (y :: l) = if eq y p then cptGo eq y l else y :: cptGo eq y l := rfl
theorem cptGo_app : ∀ (X : List α) (p : α) (Y : List α), cptGo eq p (X ++ Y) = cptGo eq p X ++ cptGo eq (lst p X) Y
  | [], p, Y => rfl
  | y :: X, p, Y => by
    have ih := cptGo_app X y Y
    show cptGo eq p (y :: (X ++ Y)) = cptGo eq p (y :: X) ++ cptGo eq (lst y X) Y
    rw [cptGo_cons, cptGo_cons, ih]
    split
    · rfl
    · rfl
end
theorem lst_mem {p : VerL} : ∀ (X : List VerL), lst p X = p ∨ lst p X ∈ X
  | [] => .inl rfl
  | y :: X => by
    rcases lst_mem (p := y) X with h | h
    · right; show lst y X ∈ _; rw [h]; simp
    · right; show lst y X ∈ _; simp [h]
theorem cptGo_same {p : VerL} : ∀ (M : List VerL), (∀ m ∈ M, AlV m p) → cptGo eqV p M = []
  | [], _ => rfl
  | y :: M, h => by
    have hy := h y (by simp)
    rw [cptGo_cons, if_pos (eqV_iff.2 hy)]
    exact cptGo_same M (fun m hm => (h m (by simp [hm])).trans hy.symm)
theorem cptGo_new {q : VerL} {Y : List VerL} (h : ∀ y ∈ Y.head?, ¬ AlV y q) : cptGo eqV q Y = cpt eqV Y := by
  cases Y with
  | nil => rfl
  | cons y Y =>
    have hy := h y rfl
    show cptGo eqV q (y :: Y) = y :: cptGo eqV y Y
    rw [cptGo_cons, if_neg (fun e => hy (eqV_iff.1 e))]
/-- two parts of which the first's last and the second's first are unlike -/
theorem cpt_app {X Y : List VerL} (h : ∀ x ∈ X, ∀ y ∈ Y.head?, ¬ AlV y x) : cpt eqV (X ++ Y) = cpt eqV X ++ cpt eqV Y := by
  cases X with
  | nil => rfl
  | cons p X =>
    show p :: cptGo eqV p (X ++ Y) = p :: cptGo eqV p X ++ cpt eqV Y
    rw [cptGo_app, cptGo_new (fun y hy => h (lst p X) (by
      rcases lst_mem (p := p) X with e | e
      · rw [e]; simp
      · simp [e]) y hy)]
    rfl
theorem cpt_same {p : VerL} {M Y : List VerL} (hM : ∀ m ∈ M, AlV m p) (hY : ∀ y ∈ Y.head?, ¬ AlV y p) : cpt eqV (p :: (M ++ Y)) = p :: cpt eqV Y := by
  show p :: cptGo eqV p (M ++ Y) = _
  rw [cptGo_app, cptGo_same M hM, List.nil_append, cptGo_new (fun y hy q => hY y hy (by
    rcases lst_mem (p := p) M with e | e
    · rw [e] at q; exact q
    · exact q.trans (hM _ e)))]
def ltB (v a : VerL) : Bool := decide (orderL a v < 0)
theorem ltB_iff {v a : VerL} : ltB v a = true ↔ LtV a v := by unfold ltB; rw [decide_eq_true_iff, orderL_lt]
/-- one more version, where it belongs, if none is like it -/
def insV (out : List VerL) (v : VerL) : List VerL :=
  match out.dropWhile (ltB v) with
  | [] => out.takeWhile (ltB v) ++ [v]
  | r :: R => if eqV r v then out else out.takeWhile (ltB v) ++ v :: (r :: R)
theorem takeWhile_all {α : Type} {p : α → Bool} : ∀ {l : List α}, (∀ a ∈ l, p a = true) → ∀ r, (∀ a ∈ r.head?, p a = false) → (l ++ r).takeWhile p = l ∧ (l ++ r).dropWhile p = r
  | [], _, r, h => by
    cases r with
    | nil => exact ⟨rfl, rfl⟩
    | cons a r => have := h a rfl; simp [List.takeWhile, List.dropWhile, this]
  | a :: l, h1, r, h2 => by
    obtain ⟨e1, e2⟩ := takeWhile_all (l := l) (fun b hb => h1 b (by simp [hb])) r h2
    have ha := h1 a (by simp)
    constructor
    · rw [List.cons_append, List.takeWhile_cons, if_pos ha, e1]
    · rw [List.cons_append, List.dropWhile_cons, if_pos ha, e2]
theorem dropWhile_head {α : Type} {p : α → Bool} : ∀ (l : List α), ∀ a ∈ (l.dropWhile p).head?, p a = false
  | [], a, h => by cases h
  | b :: l, a, h => by
    rw [List.dropWhile_cons] at h
    split at h
    · exact dropWhile_head l a h
    · rename_i hb
      simp at h; subst h; simpa using hb
theorem takeWhile_mem {α : Type} {p : α → Bool} : ∀ (l : List α), ∀ a ∈ l.takeWhile p, p a = true
  | [], a, h => by cases h
  | b :: l, a, h => by
    rw [List.takeWhile_cons] at h
    split at h
    · rcases List.mem_cons.1 h with e | e
      · subst e; assumption
      · exact takeWhile_mem l a e
    · cases h
/-- a sorted list around a version -/
theorem srt_around (l : List VerL) (v : VerL) : ∃ L M R, srt leV l = L ++ (M ++ R) ∧ (∀ a ∈ L, LtV a v) ∧ (∀ a ∈ M, AlV a v) ∧ (∀ a ∈ R, LtV v a) := by
  have hs := srt_sorted leV_pre l
  generalize srt leV l = S at *
  refine ⟨S.takeWhile (ltB v), (S.dropWhile (ltB v)).takeWhile (fun a => eqV a v), (S.dropWhile (ltB v)).dropWhile (fun a => eqV a v), ?_, fun a ha => ?_, fun a ha => ?_, ?_⟩
  · rw [List.takeWhile_append_dropWhile, List.takeWhile_append_dropWhile]
  · exact ltB_iff.1 (takeWhile_mem _ a ha)
  · exact eqV_iff.1 (takeWhile_mem (p := fun a => eqV a v) _ a ha)
  · have h1 : ((S.dropWhile (ltB v)).dropWhile (fun a => eqV a v)).Pairwise (fun a b => leV a b = true) := (hs.sublist (List.dropWhile_sublist _)).sublist (List.dropWhile_sublist _)
    have h2 : ∀ a ∈ S.dropWhile (ltB v), ¬ LtV a v := by
      have hp := hs.sublist (List.dropWhile_sublist (ltB v) (l := S))
      have hh := dropWhile_head (p := ltB v) S
      cases e : S.dropWhile (ltB v) with
      | nil => intro a ha; cases ha
      | cons b T =>
        rw [e] at hp hh
        have hb : ¬ LtV b v := fun q => by have := hh b rfl; rw [ltB_iff.2 q] at this; cases this
        intro a ha q
        rcases List.mem_cons.1 ha with r | r
        · subst r; exact hb q
        · have := leV_iff.1 ((List.pairwise_cons.1 hp).1 a r)
          rcases ltV_total b v with s | s | s
          · exact hb s
          · exact this (q.al s.symm)
          · exact this (q.trans s)
    have hh := dropWhile_head (p := fun a => eqV a v) (S.dropWhile (ltB v))
    have hm : ∀ a ∈ (S.dropWhile (ltB v)).dropWhile (fun a => eqV a v), a ∈ S.dropWhile (ltB v) := fun a ha => (List.dropWhile_sublist _).subset ha
    generalize (S.dropWhile (ltB v)).dropWhile (fun a => eqV a v) = R at *
    cases R with
    | nil => intro a ha; cases ha
    | cons b T =>
      have hb : LtV v b := by
        have n1 : ¬ AlV b v := fun q => by have := hh b rfl; rw [eqV_iff.2 q] at this; cases this
        rcases ltV_total v b with s | s | s
        · exact s
        · exact absurd s.symm n1
        · exact absurd s (h2 b (hm b (by simp)))
      intro a ha
      rcases List.mem_cons.1 ha with r | r
      · subst r; exact hb
      · have := leV_iff.1 ((List.pairwise_cons.1 h1).1 a r)
        rcases ltV_total b a with s | s | s
        · exact hb.trans s
        · exact hb.al s
        · exact absurd s this
theorem order_snoc (l : List VerL) (v : VerL) : orderOf (l ++ [v]) = insV (orderOf l) v := by
  obtain ⟨L, M, R, hS, hL, hM, hR⟩ := srt_around l v
  have e1 : srt leV (l ++ [v]) = (L ++ M) ++ v :: R := by
    rw [srt_append leV_pre, srt_one, hS, ← List.append_assoc]
    refine mrg_one v (L ++ M) R (fun a ha => ?_) (fun a ha => ?_)
    · rcases List.mem_append.1 ha with q | q
      · exact leV_iff.2 (fun s => ((hL a q).trans s).irrefl)
      · exact leV_iff.2 (fun s => (s.al (hM a q)).irrefl)
    · have ha' : a ∈ R := by cases R with
        | nil => cases ha
        | cons b T => simp at ha; simp [ha]
      cases e : leV a v with
      | false => rfl
      | true => exact absurd (hR a ha') (leV_iff.1 e)
  have hLR : ∀ x ∈ L, ∀ y ∈ R.head?, ¬ AlV y x := fun x hx y hy q => by
    have hy' : y ∈ R := by cases R with
      | nil => cases hy
      | cons b T => simp at hy; simp [hy]
    exact (((hL x hx).trans (hR y hy')).al q).irrefl
  have hvR : ∀ y ∈ R.head?, ¬ AlV y v := fun y hy q => by
    have hy' : y ∈ R := by cases R with
      | nil => cases hy
      | cons b T => simp at hy; simp [hy]
    exact ((hR y hy').al q).irrefl
  have cL : ∀ a ∈ cpt eqV L, ltB v a = true := fun a ha => ltB_iff.2 (hL a ((cpt_sub eqV L).subset ha))
  have cR : ∀ a ∈ cpt eqV R, LtV v a := fun a ha => hR a ((cpt_sub eqV R).subset ha)
  unfold orderOf
  rw [e1, hS]
  cases M with
  | nil =>
    rw [List.append_nil, List.nil_append]
    have a1 : cpt eqV (L ++ v :: R) = cpt eqV L ++ cpt eqV (v :: R) := cpt_app (fun x hx y hy q => by
      simp at hy; subst hy
      exact ((hL x hx).al q).irrefl)
    have a2 : cpt eqV (v :: R) = v :: cpt eqV R := cpt_same (M := []) (fun m hm => by cases hm) hvR
    have a3 : cpt eqV (L ++ R) = cpt eqV L ++ cpt eqV R := cpt_app hLR
    rw [a1, a2, a3]
    obtain ⟨t1, t2⟩ := takeWhile_all cL (cpt eqV R) (fun a ha => by
      have ha' : a ∈ cpt eqV R := by cases e : cpt eqV R with
        | nil => rw [e] at ha; cases ha
        | cons b T => rw [e] at ha; simp at ha; simp [ha]
      cases e : ltB v a with
      | false => rfl
      | true => exact absurd ((ltB_iff.1 e).trans (cR a ha')) LtV.irrefl)
    unfold insV
    rw [t1, t2]
    cases e : cpt eqV R with
    | nil => rfl
    | cons r T =>
      dsimp only
      have hr := cR r (by rw [e]; simp)
      rw [if_neg (fun q => (hr.al (eqV_iff.1 q)).irrefl)]
  | cons m M =>
    have hm := hM m (by simp)
    have hMm : ∀ x ∈ M ++ [v], AlV x m := fun x hx => by
      rcases List.mem_append.1 hx with q | q
      · exact (hM x (by simp [q])).trans hm.symm
      · rw [List.mem_singleton.1 q]; exact hm.symm
    have hmR : ∀ y ∈ R.head?, ¬ AlV y m := fun y hy q => hvR y hy (q.trans hm)
    have hLm : ∀ (Z : List VerL), ∀ x ∈ L, ∀ y ∈ (m :: Z).head?, ¬ AlV y x := fun Z x hx y hy q => by
      simp at hy; subst hy
      exact ((hL x hx).al (hm.symm.trans q)).irrefl
    have a1 : cpt eqV (L ++ (m :: M) ++ v :: R) = cpt eqV L ++ (m :: cpt eqV R) := by
      have : L ++ (m :: M) ++ v :: R = L ++ (m :: ((M ++ [v]) ++ R)) := by simp
      rw [this, cpt_app (hLm _), cpt_same hMm hmR]
    have a3 : cpt eqV (L ++ (m :: M ++ R)) = cpt eqV L ++ (m :: cpt eqV R) := by
      have : m :: M ++ R = m :: (M ++ R) := rfl
      rw [this, cpt_app (hLm _), cpt_same (fun x hx => hMm x (by simp [hx])) hmR]
    rw [a1, a3]
    obtain ⟨t1, t2⟩ := takeWhile_all cL (m :: cpt eqV R) (fun a ha => by
      simp at ha; subst ha
      cases e : ltB v m with
      | false => rfl
      | true => exact absurd ((ltB_iff.1 e).al hm.symm) LtV.irrefl)
    unfold insV
    rw [t1, t2]
    dsimp only
    rw [if_pos (eqV_iff.2 hm)]
/-- the document's order -/
theorem order_fold (l : List VerL) : orderOf l = l.foldl insV [] := by
  have h : ∀ (n : Nat) (l : List VerL), l.length = n → orderOf l = l.foldl insV [] := by
    intro n
    induction n with
    | zero =>
      intro l hl
      rw [List.eq_nil_of_length_eq_zero hl]; rfl
    | succ n ih =>
      intro l hl
      have hne : l ≠ [] := by intro e; subst e; simp at hl
      have e := List.dropLast_concat_getLast hne
      rw [← e, order_snoc, List.foldl_append, ih l.dropLast (by rw [List.length_dropLast, hl]; rfl)]
      rfl
  exact h _ l rfl
end Go.Proofs.YtfjjnffifnohkaaGreat
end

/- what is kept, in the document's words: plain law. By an AI agent. -/
section
set_option linter.unusedVariables false
set_option linter.unusedSimpArgs false
namespace Go.Proofs.YtfjjnffifnohkaaGreat
open Go.RowKit

/-- what stays and one version more, in the order that they had -/
def mergedL (first : VerL) : List VerL → List VerL → List VerL
  | [], _ => []
  | v :: l, [] => if eqV v first then v :: mergedL first l [] else mergedL first l []
  | v :: l, s :: st => if eqV v first then v :: mergedL first l (s :: st) else if eqV s v then v :: mergedL first l st else mergedL first l (s :: st)
theorem mergedL_sub (first : VerL) : ∀ (l st : List VerL), (mergedL first l st).Sublist l
  | [], st => by unfold mergedL; exact List.Sublist.refl _
  | v :: l, [] => by
    unfold mergedL
    split
    · exact (mergedL_sub first l []).cons_cons _
    · exact (mergedL_sub first l []).cons _
  | v :: l, s :: st => by
    unfold mergedL
    split
    · exact (mergedL_sub first l (s :: st)).cons_cons _
    · split
      · exact (mergedL_sub first l st).cons_cons _
      · exact (mergedL_sub first l (s :: st)).cons _
theorem mergedL_mem (first : VerL) : ∀ (l st : List VerL), l.Pairwise LtV → st.Sublist l → (∀ s ∈ st, ¬ AlV s first) → ∀ x, x ∈ mergedL first l st ↔ x ∈ l ∧ (AlV x first ∨ x ∈ st)
  | [], st, hl, hs, hn, x => by unfold mergedL; simp
  | v :: l, [], hl, hs, hn, x => by
    have ih := mergedL_mem first l [] (List.pairwise_cons.1 hl).2 (List.nil_sublist _) (fun s hs => by cases hs) x
    unfold mergedL
    split
    · rename_i e
      rw [List.mem_cons, ih, List.mem_cons]
      constructor
      · rintro (q | q)
        · subst q; exact ⟨.inl rfl, .inl (eqV_iff.1 e)⟩
        · exact ⟨.inr q.1, q.2⟩
      · rintro ⟨q | q, r⟩
        · exact .inl q
        · exact .inr ⟨q, r⟩
    · rename_i e
      rw [ih, List.mem_cons]
      constructor
      · rintro ⟨q, r⟩; exact ⟨.inr q, r⟩
      · rintro ⟨q | q, r⟩
        · subst q
          rcases r with r | r
          · exact absurd (eqV_iff.2 r) e
          · cases r
        · exact ⟨q, r⟩
  | v :: l, s :: st, hl, hs, hn, x => by
    obtain ⟨h1, h2⟩ := List.pairwise_cons.1 hl
    have tail : ¬ AlV s v → (s :: st).Sublist l := fun hne => by
      cases hs with
      | cons _ h => exact h
      | cons_cons _ h => exact absurd (AlV.refl _) hne
    unfold mergedL
    split
    · rename_i e
      have e' := eqV_iff.1 e
      have hst : (s :: st).Sublist l := tail (fun q => hn s (by simp) (q.trans e'))
      have ih := mergedL_mem first l (s :: st) h2 hst hn x
      rw [List.mem_cons, ih, show (x ∈ v :: l) = (x = v ∨ x ∈ l) from propext List.mem_cons]
      constructor
      · rintro (q | q)
        · subst q; exact ⟨.inl rfl, .inl e'⟩
        · exact ⟨.inr q.1, q.2⟩
      · rintro ⟨q | q, r⟩
        · exact .inl q
        · exact .inr ⟨q, r⟩
    · rename_i e
      split
      · rename_i e2
        have e2' := eqV_iff.1 e2
        have hsv : s = v ∧ st.Sublist l := by
          cases hs with
          | cons _ h =>
            have hm : s ∈ l := h.subset (by simp)
            exact absurd ((h1 s hm).al e2') LtV.irrefl
          | cons_cons _ h => exact ⟨rfl, h⟩
        obtain ⟨rfl, hst⟩ := hsv
        have ih := mergedL_mem first l st h2 hst (fun t ht => hn t (by simp [ht])) x
        rw [List.mem_cons, ih, List.mem_cons, List.mem_cons]
        constructor
        · rintro (q | q)
          · exact ⟨.inl q, .inr (.inl q)⟩
          · exact ⟨.inr q.1, q.2.imp id .inr⟩
        · rintro ⟨q | q, r⟩
          · exact .inl q
          · rcases r with r | r | r
            · exact .inr ⟨q, .inl r⟩
            · exact .inl r
            · exact .inr ⟨q, .inr r⟩
      · rename_i e2
        have hst : (s :: st).Sublist l := tail (fun q => e2 (eqV_iff.2 q))
        have ih := mergedL_mem first l (s :: st) h2 hst hn x
        rw [ih, show (x ∈ v :: l) = (x = v ∨ x ∈ l) from propext List.mem_cons]
        constructor
        · rintro ⟨q, r⟩; exact ⟨.inr q, r⟩
        · rintro ⟨q | q, r⟩
          · subst q
            rcases r with r | r
            · exact absurd (eqV_iff.2 r) e
            · exact absurd (h1 x (hst.subset r)) LtV.irrefl
          · exact ⟨q, r⟩
/-- the document's Drop, of an order -/
def rdropO (key : ByteArray) (o : List VerL) (floor : List Int) (all : Bool) : List VerL :=
  if isKeyB key && validL floor then
    match seenL key floor o with
    | [] => stayL floor o
    | first :: rest =>
      if regB key then (if goneL (stayL floor o) first floor all then stayL floor o else mergedL first o (stayL floor o))
      else if all && decide (rest ≠ []) then stayL floor o ++ [oneL key (first :: rest).reverse]
      else o.filter (fun v => !leqV floor v || fitsB key v.act)
  else o
theorem rdrop_eq {key : ByteArray} {o : List VerL} {floor : List Int} {all : Bool} (hs : o.Pairwise LtV) : rdropO key o floor all = dropO key o floor all := by
  unfold rdropO dropO
  split
  · have hst := strict_filter hs (fun v => !leqV floor v)
    have hse := strict_filter hs (fun v => leqV floor v && fitsB key v.act)
    have msee : ∀ v, v ∈ seenL key floor o ↔ v ∈ o ∧ leqV floor v = true ∧ fitsB key v.act = true := fun v => by
      unfold seenL; rw [List.mem_filter, Bool.and_eq_true]
    have mst := fun v => mem_stay (floor := floor) (o := o) (v := v)
    change (stayL floor o).Pairwise LtV at hst
    change (seenL key floor o).Pairwise LtV at hse
    cases hseen : seenL key floor o with
    | nil => rfl
    | cons first rest =>
      rw [hseen] at hse
      have hf := (msee first).1 (by rw [hseen]; simp)
      dsimp only
      rw [keptL_cons]
      split
      · split
        · rw [List.append_nil, order_id hst]
        · rename_i g
          have hna : ∀ s ∈ stayL floor o, ¬ AlV s first := fun s hs' => apart_at ((mst s).1 hs').2 hf.2.1
          have hN : NoAl (stayL floor o ++ [first]) := noal_two (floor := floor) (strict_apart hst) (List.pairwise_singleton _ _) (fun v hv => ((mst v).1 hv).2) (fun v hv => by rw [List.mem_singleton.1 hv]; exact hf.2.1)
          refine strict_eq _ _ (hs.sublist (mergedL_sub _ _ _)) (order_strict _) (fun v => ?_)
          rw [mergedL_mem first o (stayL floor o) hs (List.filter_sublist (p := fun v => !leqV floor v)) hna, order_all hN, List.mem_append, List.mem_singleton]
          constructor
          · rintro ⟨h1, h2 | h2⟩
            · right
              have := strict_one hs h1 hf.1 h2
              exact this
            · exact .inl h2
          · rintro (h2 | h2)
            · exact ⟨((mst v).1 h2).1, .inr h2⟩
            · subst h2; exact ⟨hf.1, .inl (AlV.refl _)⟩
      · split
        · rfl
        · have hN : NoAl (stayL floor o ++ (first :: rest)) := noal_two (floor := floor) (strict_apart hst) (strict_apart hse) (fun v hv => ((mst v).1 hv).2) (fun v hv => ((msee v).1 (by rw [hseen]; exact hv)).2.1)
          refine strict_eq _ _ (strict_filter hs _) (order_strict _) (fun v => ?_)
          rw [order_all hN, List.mem_append, ← hseen, mst, msee, List.mem_filter]
          cases leqV floor v <;> simp
  · rfl
where
  strict_one {o : List VerL} (hs : o.Pairwise LtV) {a b : VerL} (ha : a ∈ o) (hb : b ∈ o) (h : AlV a b) : a = b := by
    obtain ⟨i, hi, rfl⟩ := List.mem_iff_getElem.1 ha
    obtain ⟨j, hj, rfl⟩ := List.mem_iff_getElem.1 hb
    by_cases e : i = j
    · subst e; rfl
    · exfalso
      rcases Nat.lt_or_gt_of_ne e with q | q
      · exact ((List.pairwise_iff_getElem.1 hs i j hi hj q).al h.symm).irrefl
      · exact ((List.pairwise_iff_getElem.1 hs j i hj hi q).al h).irrefl
end Go.Proofs.YtfjjnffifnohkaaGreat
end

/- what bedrockref17's loops make: plain laws. By an AI agent. -/
section
set_option linter.unusedVariables false
set_option linter.unusedSimpArgs false
namespace Go.Proofs.YtfjjnffifnohkaaGreat
open Go.RowKit

theorem eqV_dec (V U : VerL) : eqV V U = decide (timeL V = timeL U ∧ V.origin = U.origin ∧ V.tx = U.tx ∧ V.at_ = U.at_) := by
  rw [Bool.eq_iff_iff, eqV_iff, decide_eq_true_iff]; exact Iff.rfl
/-- where a version belongs -/
theorem insV_at {os : List VerL} {v : VerL} {k : Nat} (hk : k ≤ os.length) (h1 : ∀ q, q < k → ltB v (nthR os q) = true) (h2 : k < os.length → ltB v (nthR os k) = false) :
    insV os v = if k < os.length ∧ eqV (nthR os k) v = true then os else os.take k ++ v :: os.drop k := by
  obtain ⟨t1, t2⟩ := takeWhile_all (p := ltB v) (l := os.take k) (fun a ha => by
    obtain ⟨j, hj, rfl⟩ := List.mem_iff_getElem.1 ha
    rw [List.getElem_take]
    have hjk : j < k := by simp at hj; omega
    have := h1 j hjk
    rwa [nthR_eq (by omega)] at this) (os.drop k) (fun a ha => by
    cases e : os.drop k with
    | nil => rw [e] at ha; cases ha
    | cons b R =>
      rw [e] at ha
      simp at ha
      subst ha
      have hl : k < os.length := by
        by_cases q : k < os.length
        · exact q
        · rw [List.drop_eq_nil_of_le (by omega)] at e; cases e
      have hb : nthR os k = b := by
        rw [nthR_eq hl]
        have := List.drop_eq_getElem_cons hl
        rw [e] at this
        exact (List.cons.inj this).1.symm
      rw [← hb]; exact h2 hl)
  rw [List.take_append_drop] at t1 t2
  unfold insV
  rw [t1, t2]
  cases e : os.drop k with
  | nil =>
    have hl : ¬ k < os.length := fun q => by
      have := List.drop_eq_getElem_cons q
      rw [e] at this; cases this
    rw [if_neg (fun q => hl q.1)]
  | cons b R =>
    have hl : k < os.length := by
      by_cases q : k < os.length
      · exact q
      · rw [List.drop_eq_nil_of_le (by omega)] at e; cases e
    have hb : nthR os k = b := by
      rw [nthR_eq hl]
      have := List.drop_eq_getElem_cons hl
      rw [e] at this
      exact (List.cons.inj this).1.symm
    rw [hb]
    dsimp only
    cases q : eqV b v with
    | true => rw [if_pos rfl, if_pos ⟨hl, rfl⟩]
    | false => rw [if_neg (by decide), if_neg (fun h => by cases h.2)]
theorem insV_same {os : List VerL} {v : VerL} {k : Nat} (hk : k < os.length) (h1 : ∀ q, q < k → ltB v (nthR os q) = true) (h2 : ltB v (nthR os k) = false) (h3 : eqV (nthR os k) v = true) : insV os v = os := by
  rw [insV_at (Nat.le_of_lt hk) h1 (fun _ => h2), if_pos ⟨hk, h3⟩]
theorem insV_new {os : List VerL} {v : VerL} {k : Nat} (hk : k ≤ os.length) (h1 : ∀ q, q < k → ltB v (nthR os q) = true) (h2 : k < os.length → ltB v (nthR os k) = false ∧ eqV (nthR os k) v = false) : insV os v = os.take k ++ v :: os.drop k := by
  rw [insV_at hk h1 (fun h => (h2 h).1), if_neg (fun h => by rw [(h2 h.1).2] at h; cases h.2)]
/-- one step of what is merged -/
theorem mergedL_step (first : VerL) (l st : List VerL) (i k : Nat) (hi : i < l.length) :
    mergedL first (l.drop i) (st.drop k) = if eqV (nthR l i) first then nthR l i :: mergedL first (l.drop (i + 1)) (st.drop k) else if k < st.length ∧ eqV (nthR st k) (nthR l i) = true then nthR l i :: mergedL first (l.drop (i + 1)) (st.drop (k + 1)) else mergedL first (l.drop (i + 1)) (st.drop k) := by
  rw [nthR_eq hi, List.drop_eq_getElem_cons hi]
  by_cases hk : k < st.length
  · rw [nthR_eq hk, List.drop_eq_getElem_cons hk]
    rw [mergedL]
    split
    · rfl
    · cases q : eqV st[k] l[i] with
      | true => rw [if_pos rfl, if_pos ⟨hk, rfl⟩]
      | false => rw [if_neg (by decide), if_neg (fun h => by cases h.2)]
  · rw [List.drop_eq_nil_of_le (Nat.le_of_not_lt hk)]
    rw [mergedL]
    split
    · rfl
    · rw [if_neg (fun h => hk h.1)]
end Go.Proofs.YtfjjnffifnohkaaGreat
end

/- bedrockref17.alike (printed by gen/r17a.py). By an AI agent. -/
section
set_option linter.unusedVariables false
set_option linter.unusedSimpArgs false
namespace Go.Proofs.YtfjjnffifnohkaaGreat
open Go.RowKit
attribute [local go_sem] eOp eOper eUpon

set_option maxHeartbeats 3200000 in
set_option maxRecDepth 100000 in
theorem alike_any (V U : VerL) (a b : Option Addr) (n m ca cb : Nat) (r : Bool) (w : World) (hx : IA w a n V.at_) (hy : IA w b m U.at_) (HR : Hid (eqV V U = r)) :
    Calls Tryz.prog 35 #[.agg #[.string V.key, .slice a n ca, .int .i64 V.origin, .int .i64 V.tx, .int .i64 V.act.k, .float .f64 V.act.x, .int .i64 V.act.n, .string V.act.s], .agg #[.string U.key, .slice b m cb, .int .i64 U.origin, .int .i64 U.tx, .int .i64 U.act.k, .float .f64 U.act.x, .int .i64 U.act.n, .string U.act.s]] w
      fun e w' => e = .returned (.bool r) ∧ Bl w w' := by
  have hsf := store_float
  obtain ⟨T1, hT1⟩ : ∃ T, timeL V = T := ⟨_, rfl⟩
  obtain ⟨T2, hT2⟩ : ∃ T, timeL U = T := ⟨_, rfl⟩
  have HT1 := Lib.hid hT1
  have HT2 := Lib.hid hT2
  have HQ : Hid (decide (T1 = T2 ∧ V.origin = U.origin ∧ V.tx = U.tx ∧ V.at_ = U.at_) = r) := Lib.hid (by rw [← HR.out, eqV_dec, hT1, hT2])
  clear hT1 hT2 HR
  obtain ⟨x, HX⟩ : ∃ x, Hid (decide (V.at_ = U.at_) = x) := ⟨_, Lib.hid rfl⟩
  have G : GO2 w ((w.alloc (.cells #[.string V.key, .slice a n ca, .int .i64 V.origin, .int .i64 V.tx, .int .i64 V.act.k, .float .f64 V.act.x, .int .i64 V.act.n, .string V.act.s] 59)).alloc (.cells #[.string U.key, .slice b m cb, .int .i64 U.origin, .int .i64 U.tx, .int .i64 U.act.k, .float .f64 U.act.x, .int .i64 U.act.n, .string U.act.s] 59)) (verC V.key a n ca V.origin V.tx V.act.k V.act.x V.act.n V.act.s) (verC U.key b m cb U.origin U.tx U.act.k U.act.x U.act.n U.act.s) := GO2.new w 59 59 _ _
  go_enter Tryz.func35, Tryz.ntmps35
  go_upto_region 1 with fail
  generalize ((w.alloc (.cells #[.string V.key, .slice a n ca, .int .i64 V.origin, .int .i64 V.tx, .int .i64 V.act.k, .float .f64 V.act.x, .int .i64 V.act.n, .string V.act.s] 59)).alloc (.cells #[.string U.key, .slice b m cb, .int .i64 U.origin, .int .i64 U.tx, .int .i64 U.act.k, .float .f64 U.act.x, .int .i64 U.act.n, .string U.act.s] 59)) = Y at *
  by_cases h1 : T1 = T2
  case neg =>
    have n1 : (T1 == T2) = false := by rw [beq_eq_false_iff_ne]; exact h1
    have HF := Lib.hid (show r = false by rw [← HQ.out]; exact decide_eq_false (fun h => h1 h.1))
    clear h1 HQ
    refine wp_region_allS (by kernel_rfl) (by kernel_rfl) ?_
    replace G := G.keep ((Bl.refl Y).drew)
    generalize Y.drew = Z at *
    obtain ⟨a0, a1, a2, a3, a4, a5, a6, a7⟩ : (∀ n : Ext Z, _) ∧ (∀ n : Ext Z, _) ∧ (∀ n : Ext Z, _) ∧ (∀ n : Ext Z, _) ∧ (∀ n : Ext Z, _) ∧ (∀ n : Ext Z, _) ∧ (∀ n : Ext Z, _) ∧ (∀ n : Ext Z, _) :=
      ⟨fun n => (G.keep n.bl).a.ver.1, fun n => (G.keep n.bl).a.ver.2.1, fun n => (G.keep n.bl).a.ver.2.2.1, fun n => (G.keep n.bl).a.ver.2.2.2.1, fun n => (G.keep n.bl).a.ver.2.2.2.2.1, fun n => (G.keep n.bl).a.ver.2.2.2.2.2.1, fun n => (G.keep n.bl).a.ver.2.2.2.2.2.2.1, fun n => (G.keep n.bl).a.ver.2.2.2.2.2.2.2⟩
    obtain ⟨b0, b1, b2, b3, b4, b5, b6, b7⟩ : (∀ n : Ext Z, _) ∧ (∀ n : Ext Z, _) ∧ (∀ n : Ext Z, _) ∧ (∀ n : Ext Z, _) ∧ (∀ n : Ext Z, _) ∧ (∀ n : Ext Z, _) ∧ (∀ n : Ext Z, _) ∧ (∀ n : Ext Z, _) :=
      ⟨fun n => (G.keep n.bl).b.ver.1, fun n => (G.keep n.bl).b.ver.2.1, fun n => (G.keep n.bl).b.ver.2.2.1, fun n => (G.keep n.bl).b.ver.2.2.2.1, fun n => (G.keep n.bl).b.ver.2.2.2.2.1, fun n => (G.keep n.bl).b.ver.2.2.2.2.2.1, fun n => (G.keep n.bl).b.ver.2.2.2.2.2.2.1, fun n => (G.keep n.bl).b.ver.2.2.2.2.2.2.2⟩
    have H1 := Lib.hid (fun q : Ext Z => rtime_any V a n ca T1 q.at (hx.keep (G.bl.trans q.bl)) HT1)
    have H2 := Lib.hid (fun q : Ext Z => rtime_any U b m cb T2 q.at (hy.keep (G.bl.trans q.bl)) HT2)
    repeat (refine wpS_step (fun K hK => ?_); go_simp; first | (refine hK _ ?_; clear hK K) | (apply Exists.intro; refine ⟨fun n => ?_, hK _ ?_⟩; (first | with_reducible exact H1.out n | with_reducible exact H2.out n); clear hK K))
    refine wpS_nil ?_
    intro q1
    replace G := G.keep q1.bl
    clear a0 a1 a2 a3 a4 a5 a6 a7 b0 b1 b2 b3 b4 b5 b6 b7 H1 H2
    generalize ExtC.at q1 = Y2 at *
    go_wp2_with fail
    go_ret
    exact ⟨ret_bool HF.out.symm, G.bl⟩
  subst h1
  have n1 : (T1 == T1) = true := by simp
  by_cases h2 : V.origin = U.origin
  case neg =>
    have n2 : (V.origin == U.origin) = false := by rw [beq_eq_false_iff_ne]; exact h2
    have HF := Lib.hid (show r = false by rw [← HQ.out]; exact decide_eq_false (fun h => h2 h.2.1))
    clear h2 HQ
    refine wp_region_allS (by kernel_rfl) (by kernel_rfl) ?_
    replace G := G.keep ((Bl.refl Y).drew)
    generalize Y.drew = Z at *
    obtain ⟨a0, a1, a2, a3, a4, a5, a6, a7⟩ : (∀ n : Ext Z, _) ∧ (∀ n : Ext Z, _) ∧ (∀ n : Ext Z, _) ∧ (∀ n : Ext Z, _) ∧ (∀ n : Ext Z, _) ∧ (∀ n : Ext Z, _) ∧ (∀ n : Ext Z, _) ∧ (∀ n : Ext Z, _) :=
      ⟨fun n => (G.keep n.bl).a.ver.1, fun n => (G.keep n.bl).a.ver.2.1, fun n => (G.keep n.bl).a.ver.2.2.1, fun n => (G.keep n.bl).a.ver.2.2.2.1, fun n => (G.keep n.bl).a.ver.2.2.2.2.1, fun n => (G.keep n.bl).a.ver.2.2.2.2.2.1, fun n => (G.keep n.bl).a.ver.2.2.2.2.2.2.1, fun n => (G.keep n.bl).a.ver.2.2.2.2.2.2.2⟩
    obtain ⟨b0, b1, b2, b3, b4, b5, b6, b7⟩ : (∀ n : Ext Z, _) ∧ (∀ n : Ext Z, _) ∧ (∀ n : Ext Z, _) ∧ (∀ n : Ext Z, _) ∧ (∀ n : Ext Z, _) ∧ (∀ n : Ext Z, _) ∧ (∀ n : Ext Z, _) ∧ (∀ n : Ext Z, _) :=
      ⟨fun n => (G.keep n.bl).b.ver.1, fun n => (G.keep n.bl).b.ver.2.1, fun n => (G.keep n.bl).b.ver.2.2.1, fun n => (G.keep n.bl).b.ver.2.2.2.1, fun n => (G.keep n.bl).b.ver.2.2.2.2.1, fun n => (G.keep n.bl).b.ver.2.2.2.2.2.1, fun n => (G.keep n.bl).b.ver.2.2.2.2.2.2.1, fun n => (G.keep n.bl).b.ver.2.2.2.2.2.2.2⟩
    have H1 := Lib.hid (fun q : Ext Z => rtime_any V a n ca T1 q.at (hx.keep (G.bl.trans q.bl)) HT1)
    have H2 := Lib.hid (fun q : Ext Z => rtime_any U b m cb T1 q.at (hy.keep (G.bl.trans q.bl)) HT2)
    repeat (refine wpS_step (fun K hK => ?_); go_simp; first | (refine hK _ ?_; clear hK K) | (apply Exists.intro; refine ⟨fun n => ?_, hK _ ?_⟩; (first | with_reducible exact H1.out n | with_reducible exact H2.out n); clear hK K))
    refine wpS_nil ?_
    intro q1
    replace G := G.keep q1.bl
    clear a0 a1 a2 a3 a4 a5 a6 a7 b0 b1 b2 b3 b4 b5 b6 b7 H1 H2
    generalize ExtC.at q1 = Y2 at *
    go_wp2_with fail
    go_ret
    exact ⟨ret_bool HF.out.symm, G.bl⟩
  have n2 : (V.origin == U.origin) = true := by rw [h2]; simp
  by_cases h3 : V.tx = U.tx
  case neg =>
    have n3 : (V.tx == U.tx) = false := by rw [beq_eq_false_iff_ne]; exact h3
    have HF := Lib.hid (show r = false by rw [← HQ.out]; exact decide_eq_false (fun h => h3 h.2.2.1))
    clear h2 h3 HQ
    refine wp_region_allS (by kernel_rfl) (by kernel_rfl) ?_
    replace G := G.keep ((Bl.refl Y).drew)
    generalize Y.drew = Z at *
    obtain ⟨a0, a1, a2, a3, a4, a5, a6, a7⟩ : (∀ n : Ext Z, _) ∧ (∀ n : Ext Z, _) ∧ (∀ n : Ext Z, _) ∧ (∀ n : Ext Z, _) ∧ (∀ n : Ext Z, _) ∧ (∀ n : Ext Z, _) ∧ (∀ n : Ext Z, _) ∧ (∀ n : Ext Z, _) :=
      ⟨fun n => (G.keep n.bl).a.ver.1, fun n => (G.keep n.bl).a.ver.2.1, fun n => (G.keep n.bl).a.ver.2.2.1, fun n => (G.keep n.bl).a.ver.2.2.2.1, fun n => (G.keep n.bl).a.ver.2.2.2.2.1, fun n => (G.keep n.bl).a.ver.2.2.2.2.2.1, fun n => (G.keep n.bl).a.ver.2.2.2.2.2.2.1, fun n => (G.keep n.bl).a.ver.2.2.2.2.2.2.2⟩
    obtain ⟨b0, b1, b2, b3, b4, b5, b6, b7⟩ : (∀ n : Ext Z, _) ∧ (∀ n : Ext Z, _) ∧ (∀ n : Ext Z, _) ∧ (∀ n : Ext Z, _) ∧ (∀ n : Ext Z, _) ∧ (∀ n : Ext Z, _) ∧ (∀ n : Ext Z, _) ∧ (∀ n : Ext Z, _) :=
      ⟨fun n => (G.keep n.bl).b.ver.1, fun n => (G.keep n.bl).b.ver.2.1, fun n => (G.keep n.bl).b.ver.2.2.1, fun n => (G.keep n.bl).b.ver.2.2.2.1, fun n => (G.keep n.bl).b.ver.2.2.2.2.1, fun n => (G.keep n.bl).b.ver.2.2.2.2.2.1, fun n => (G.keep n.bl).b.ver.2.2.2.2.2.2.1, fun n => (G.keep n.bl).b.ver.2.2.2.2.2.2.2⟩
    have H1 := Lib.hid (fun q : Ext Z => rtime_any V a n ca T1 q.at (hx.keep (G.bl.trans q.bl)) HT1)
    have H2 := Lib.hid (fun q : Ext Z => rtime_any U b m cb T1 q.at (hy.keep (G.bl.trans q.bl)) HT2)
    repeat (refine wpS_step (fun K hK => ?_); go_simp; first | (refine hK _ ?_; clear hK K) | (apply Exists.intro; refine ⟨fun n => ?_, hK _ ?_⟩; (first | with_reducible exact H1.out n | with_reducible exact H2.out n); clear hK K))
    refine wpS_nil ?_
    intro q1
    replace G := G.keep q1.bl
    clear a0 a1 a2 a3 a4 a5 a6 a7 b0 b1 b2 b3 b4 b5 b6 b7 H1 H2
    generalize ExtC.at q1 = Y2 at *
    go_wp2_with fail
    go_ret
    exact ⟨ret_bool HF.out.symm, G.bl⟩
  have n3 : (V.tx == U.tx) = true := by rw [h3]; simp
  have HF := Lib.hid (show x = r by rw [← HQ.out, ← HX.out, decide_eq_decide]; exact ⟨fun h => ⟨rfl, h2, h3, h⟩, fun h => h.2.2.2⟩)
  clear h2 h3 HQ
  refine wp_region_allS (by kernel_rfl) (by kernel_rfl) ?_
  replace G := G.keep ((Bl.refl Y).drew)
  generalize Y.drew = Z at *
  obtain ⟨a0, a1, a2, a3, a4, a5, a6, a7⟩ : (∀ n : Ext Z, _) ∧ (∀ n : Ext Z, _) ∧ (∀ n : Ext Z, _) ∧ (∀ n : Ext Z, _) ∧ (∀ n : Ext Z, _) ∧ (∀ n : Ext Z, _) ∧ (∀ n : Ext Z, _) ∧ (∀ n : Ext Z, _) :=
    ⟨fun n => (G.keep n.bl).a.ver.1, fun n => (G.keep n.bl).a.ver.2.1, fun n => (G.keep n.bl).a.ver.2.2.1, fun n => (G.keep n.bl).a.ver.2.2.2.1, fun n => (G.keep n.bl).a.ver.2.2.2.2.1, fun n => (G.keep n.bl).a.ver.2.2.2.2.2.1, fun n => (G.keep n.bl).a.ver.2.2.2.2.2.2.1, fun n => (G.keep n.bl).a.ver.2.2.2.2.2.2.2⟩
  obtain ⟨b0, b1, b2, b3, b4, b5, b6, b7⟩ : (∀ n : Ext Z, _) ∧ (∀ n : Ext Z, _) ∧ (∀ n : Ext Z, _) ∧ (∀ n : Ext Z, _) ∧ (∀ n : Ext Z, _) ∧ (∀ n : Ext Z, _) ∧ (∀ n : Ext Z, _) ∧ (∀ n : Ext Z, _) :=
    ⟨fun n => (G.keep n.bl).b.ver.1, fun n => (G.keep n.bl).b.ver.2.1, fun n => (G.keep n.bl).b.ver.2.2.1, fun n => (G.keep n.bl).b.ver.2.2.2.1, fun n => (G.keep n.bl).b.ver.2.2.2.2.1, fun n => (G.keep n.bl).b.ver.2.2.2.2.2.1, fun n => (G.keep n.bl).b.ver.2.2.2.2.2.2.1, fun n => (G.keep n.bl).b.ver.2.2.2.2.2.2.2⟩
  have H1 := Lib.hid (fun q : Ext Z => rtime_any V a n ca T1 q.at (hx.keep (G.bl.trans q.bl)) HT1)
  have H2 := Lib.hid (fun q : Ext Z => rtime_any U b m cb T1 q.at (hy.keep (G.bl.trans q.bl)) HT2)
  have H3 := Lib.hid (fun q : Ext Z => rsame_any a b n m ca cb V.at_ U.at_ q.at (hx.keep (G.bl.trans q.bl)) (hy.keep (G.bl.trans q.bl)))
  rw [HX.out] at H3
  repeat (refine wpS_step (fun K hK => ?_); go_simp; first | (refine hK _ ?_; clear hK K) | (apply Exists.intro; refine ⟨fun n => ?_, hK _ ?_⟩; (first | with_reducible exact H1.out n | with_reducible exact H2.out n | with_reducible exact H3.out n); clear hK K))
  refine wpS_nil ?_
  intro q1
  replace G := G.keep q1.bl
  clear a0 a1 a2 a3 a4 a5 a6 a7 b0 b1 b2 b3 b4 b5 b6 b7 H1 H2 H3
  generalize ExtC.at q1 = Y2 at *
  go_wp2_with fail
  go_ret
  exact ⟨ret_bool HF.out, G.bl⟩
end Go.Proofs.YtfjjnffifnohkaaGreat
end

/- append to what a call has made, of elements of any type, of whatever slice (nil too). By an AI agent. -/
section
namespace Go.Proofs.YtfjjnffifnohkaaGreat
open Go.RowKit
attribute [local go_sem] eOp eOper eUpon

/-- the cells of a slice of n elements of so many cells each -/
structure SG (w : World) (size : Nat) (a : Option Addr) (n : Nat) (cs : List Value) : Prop where
  len : cs.length = n * size
  at_ : ∀ ad, a = some ad → ∀ j u, cs[j]? = some u → w.cell? (ad.add j) = some u
  nil : a = none → n = 0
  one : ∀ u ∈ cs, u.oneCell' = true
theorem SG.keep {w w' : World} {size : Nat} {a : Option Addr} {n : Nat} {cs : List Value} (h : SG w size a n cs) (hb : Bl w w') : SG w' size a n cs :=
  ⟨h.len, fun ad e j u hu => hb.cell (h.at_ ad e j u hu), h.nil, h.one⟩
/-- what is asked of the types -/
structure EL (T E : TypeId) (size bytes : Nat) : Prop where
  ty : Tryz.prog.underlying T = some (.slice E)
  info : ∃ i z, Tryz.prog.info? E = some i ∧ i.zero = some z ∧ i.size = size ∧ i.bytes = bytes ∧ z.cells.size = size
  pos : 0 < size
theorem el_of {T E : TypeId} {size bytes : Nat} (h1 : Tryz.prog.underlying T = some (.slice E)) (h2 : (Tryz.prog.info? E).map (fun i => (i.zero.map (fun z => z.cells.size), i.size, i.bytes)) = some (some size, size, bytes)) (h3 : 0 < size) : EL T E size bytes := by
  refine ⟨h1, ?_, h3⟩
  cases hi : Tryz.prog.info? E with
  | none => rw [hi] at h2; cases h2
  | some i =>
    rw [hi] at h2
    simp only [Option.map_some, Option.some.injEq, Prod.mk.injEq] at h2
    obtain ⟨g1, g2, g3⟩ := h2
    cases hz : i.zero with
    | none => rw [hz] at g1; cases g1
    | some z =>
      rw [hz] at g1
      simp only [Option.map_some, Option.some.injEq] at g1
      exact ⟨i, z, rfl, hz, g2, g3, g1⟩
theorem run_appG {w : World} {B : Nat} {T E : TypeId} {size bytes : Nat} (hT : EL T E size bytes) (ty : TypeId) (v : Value) (n : Nat) (xs : List Value) (hown : w.ownsRow B E size v n xs) (ad : Option Addr) (m c : Nat) (news : List Value) (hs : SG w size ad m news)
    (h63 : n + m ≤ maxLen) (hbytes : (n + m) * bytes ≤ 140737488355328) (hB : B ≤ w.heap.size) :
    ∃ v' w', (Builtin.append_ #[T, T] ty #[v, .slice ad m c]).run Tryz.prog w = .ok v' w' ∧ w'.ownsRow B E size v' (n + m) (xs ++ news) ∧ w.grownBy w' v.ownBlock := by
  obtain ⟨i, z, hi, hz, h1, h2, h3⟩ := hT.info
  cases ad with
  | none =>
    have hm := hs.nil rfl
    subst hm
    have e : news = [] := List.eq_nil_of_length_eq_zero (by rw [hs.len, Nat.zero_mul])
    subst e
    rw [List.append_nil, Nat.add_zero]
    obtain ⟨hl, ⟨rfl, hn⟩ | ⟨g, cap, cur, rfl, hBg, hg, hn, r⟩⟩ := hown
    · subst hn
      exact ⟨_, w, by simp [Builtin.append_, run_underlying hT.ty, sizeOf, typeInfo, hi, Builtin.lenOf, Builtin.firstCells], ⟨hl, .inl ⟨rfl, rfl⟩⟩, ⟨rfl, rfl, rfl, Nat.le_refl _, fun _ _ _ => rfl⟩⟩
    · have := run_append_room_src (P := Tryz.prog) w T T ty E i hT.ty hi g 0 n cap (.slice none 0 c) 0 [] (Src.ofNil w hT.ty c) (by omega) (fun k hk => by simp at hk) (fun k hk => by simp at hk)
      exact ⟨_, w, by simpa [World.setCells] using this, ⟨hl, .inr ⟨g, cap, cur, rfl, hBg, hg, hn, r⟩⟩, ⟨rfl, rfl, rfl, Nat.le_refl _, fun _ _ _ => rfl⟩⟩
  | some ad =>
    obtain ⟨v', w', e1, e2, e3, _⟩ := run_append_own (P := Tryz.prog) w B T ty E i z size bytes hT.ty hi hz h1 h2 h3 hT.pos v n xs hown ad m c news hs.len (hs.at_ ad rfl) hs.one h63 hbytes hB
    exact ⟨v', w', e1, e2, e3⟩
section
variable {ops : Array Oper}
theorem wpList_appG {rest : List Oper} {o : Oper} {a : Act} {w : World} {Q : Exit → Act → World → Prop} (hgd : o.guard = none) (s x : Operand) (T : TypeId)
    (ho : o.op = .call { callee := .builtin .append, args := #[s, x], argTypes := #[T, T] }) {E : TypeId} {size bytes : Nat} (hT : EL T E size bytes) (B : Nat) (v : Value) (n : Nat) (xs : List Value) (hs : a.eval s = v) (hown : w.ownsRow B E size v n xs) (hB : B ≤ w.heap.size)
    (ad : Option Addr) (m c : Nat) (news : List Value) (hx : a.eval x = .slice ad m c) (hsc : SG w size ad m news) (h63 : n + m ≤ maxLen) (hbytes : (n + m) * bytes ≤ 140737488355328)
    (h : ∀ v' w', w'.ownsRow B E size v' (n + m) (xs ++ news) → w.grownBy w' v.ownBlock → wpList Tryz.prog ops Q rest (a.put o.dst v') w') : wpList Tryz.prog ops Q (o :: rest) a w := by
  obtain ⟨v', w', hr, h2, h3⟩ := run_appG hT o.type v n xs hown ad m c news hsc h63 hbytes hB
  refine wpList_plain hgd fun _ hK => ?_
  unfold Oper.wp execOp
  simp only [ho, resolve, invoke, builtin, Sem.run_bind, Sem.run_pure, Result.andThen_ok, List.map_toArray, List.map_cons, List.map_nil, hs, hx, hr]
  exact hK _ _ (h v' w' h2 h3)
theorem eOp_appG {i : Nat} {o : Oper} {a : Act} {w : World} {K : Act → World → Prop} (ho' : ops[i]? = some o) (hgd : o.guard = none) (s x : Operand) (T : TypeId)
    (ho : o.op = .call { callee := .builtin .append, args := #[s, x], argTypes := #[T, T] }) {E : TypeId} {size bytes : Nat} (hT : EL T E size bytes) (B : Nat) (v : Value) (n : Nat) (xs : List Value) (hs : a.eval s = v) (hown : w.ownsRow B E size v n xs) (hB : B ≤ w.heap.size)
    (ad : Option Addr) (m c : Nat) (news : List Value) (hx : a.eval x = .slice ad m c) (hsc : SG w size ad m news) (h63 : n + m ≤ maxLen) (hbytes : (n + m) * bytes ≤ 140737488355328)
    (h : ∀ v' w', w'.ownsRow B E size v' (n + m) (xs ++ news) → w.grownBy w' v.ownBlock → K (a.put o.dst v') w') : eOp Tryz.prog ops i K a w := by
  obtain ⟨v', w', hr, h2, h3⟩ := run_appG hT o.type v n xs hown ad m c news hsc h63 hbytes hB
  unfold eOp
  simp only [ho']
  rw [if_pos (by simp [Region.wanted, hgd])]
  unfold eOper execOp
  simp only [ho, resolve, invoke, builtin, Sem.run_bind, Sem.run_pure, Result.andThen_ok, List.map_toArray, List.map_cons, List.map_nil, hs, hx, hr, eUpon]
  exact h v' w' h2 h3
end
/-- a row that the call makes holds nothing that was there -/
theorem Bl.ownRow {B : Nat} {E : TypeId} {size : Nat} {w0 w w' : World} {v : Value} {n : Nat} {cs : List Value} (hb : Bl w0 w) (ho : w.ownsRow B E size v n cs) (hB : w0.heap.size ≤ B) (hg : w.grownBy w' v.ownBlock) : Bl w0 w' :=
  Below.grown hb hg hb.size (fun k hk => Nat.le_trans hB (World.ownsRow.lt ho k hk).1)
/-- the block that holds so many cells, in its own right -/
theorem SG.lit {w : World} {g size : Nat} {E : TypeId} {cs : List Value} (h : w.heap[g]? = some (.cells cs.toArray E (0, 0))) (hl : cs.length = 1 * size) (h1 : ∀ u ∈ cs, u.oneCell' = true) : SG w size (some ⟨g, 0, none⟩) 1 cs := by
  refine ⟨hl, fun ad e j u hu => ?_, fun e => (by cases e), h1⟩
  obtain rfl := Option.some.inj e
  rw [Addr.add_lit, Nat.zero_add, cell_of_row w g j _ E (0, 0) h]
  simpa using hu
theorem sg_ints {w : World} {a : Option Addr} {n : Nat} {xs : List Int} (h : IA w a n xs) : SG w 1 a n (xs.map (Value.int .i64)) := by
  refine ⟨by simp [h.len], fun ad e j u hu => ?_, fun e => ?_, fun u hu => by simp at hu; obtain ⟨x, _, rfl⟩ := hu; rfl⟩
  · have hjl : j < n := by
      have := (List.getElem?_eq_some_iff.1 hu).1
      simpa [h.len] using this
    obtain ⟨b, off, e', hc⟩ := h.cells j hjl
    rw [e] at e'
    obtain rfl := Option.some.inj e'
    have hjx : j < xs.length := by rw [h.len]; exact hjl
    simp [hjx] at hu
    rw [Addr.add_lit, hc j hjl, nth_eq hjx, hu]
  · subst e
    by_cases hn : 0 < n
    · obtain ⟨b, off, e', _⟩ := h.cells 0 hn
      cases e'
    · omega
end Go.Proofs.YtfjjnffifnohkaaGreat
end

/- bedrockbook.LentVec, StaysVec, copyVecs. By an AI agent. -/
section
namespace Go.Proofs.YtfjjnffifnohkaaGreat
open Go.RowKit

theorem el_vec : EL 24 3 1 8 := el_of Tryz.underlying24 (by kernel_rfl) (by decide)
theorem el_intsC : EL 23 3 1 8 := el_of Tryz.underlying23 (by kernel_rfl) (by decide)
theorem copyVecs_any (a : Option Addr) (n c : Nat) (xs : List Int) (w : World) (hx : IA w a n xs) :
    Calls Tryz.prog 187 #[.slice a n c] w fun e w' => ∃ v, e = .returned v ∧ FI w.heap.size w' v xs ∧ Bl w w' := by
  have hcap := hx.cap
  have HL := Lib.hid hx.len
  have HX := Lib.hid hx
  clear hx
  go_enter Tryz.func187, Tryz.ntmps187
  go_wp2_with (at_builtin; refine wpList_appG rfl _ _ _ rfl el_intsC w.heap.size (.slice none 0 0) 0 [] rfl (World.ownsRow_nil _ _ _ _) (Nat.le_refl _) a n c _ rfl (sg_ints HX.out) ?cM ?cN ?_)
  case cM => unfold maxLen; omega
  case cN => omega
  intro v w1 ho hg
  have hb : Bl w w1 := (Bl.refl w).ownRow (World.ownsRow_nil w w.heap.size 3 1) (Nat.le_refl _) hg
  have hoi : OI w.heap.size w1 v xs := by
    unfold OI
    rw [HL.out]
    simpa using ho
  have HB := Lib.hid hb
  have HO := Lib.hid hoi
  clear ho hg hb hoi
  go_wp2_with fail
  go_ret
  exact ⟨_, rfl, ⟨HO.out, by rw [HL.out]; exact hcap, HX.out.wf⟩, HB.out⟩

/-- a slice of n ints, behind which a mark stands in the same block -/
structure LV (B : Nat) (W : World) (g n c : Nat) (xs : List Int) : Prop where
  own : OI B W (.slice (some ⟨g, 0, none⟩) (n + 1) c) (xs ++ [-77])
  len : xs.length = n
  cap : n * 8 ≤ 140737488351232
  wf : ∀ x ∈ xs, -9223372036854775808 ≤ x ∧ x ≤ 9223372036854775807
theorem LV.keep {B : Nat} {W W' : World} {g n c : Nat} {xs : List Int} (h : LV B W g n c xs) (hb : Bl W W') : LV B W' g n c xs := ⟨h.own.keep hb, h.len, h.cap, h.wf⟩
theorem LV.ia {B : Nat} {W : World} {g n c : Nat} {xs : List Int} (h : LV B W g n c xs) : IA W (some ⟨g, 0, none⟩) n xs := by
  refine ⟨h.len, h.cap, fun j0 _ => ⟨g, 0, rfl, fun j hj => ?_⟩, h.wf⟩
  have hl : (xs ++ [-77]).length = n + 1 := by simp [h.len]
  have ho := h.own
  unfold OI at ho
  rw [hl] at ho
  rw [Nat.zero_add, ho.cellAt j (by omega), List.getElem?_map, List.getElem?_append_left (by rw [h.len]; exact hj), List.getElem?_eq_getElem (by rw [h.len]; exact hj), nth_eq (by rw [h.len]; exact hj)]
  rfl
theorem LV.mark {B : Nat} {W : World} {g n c : Nat} {xs : List Int} (h : LV B W g n c xs) : W.cell? ⟨g, n, none⟩ = some (.int .i64 (-77)) ∧ n + 1 ≤ c := by
  have hl : (xs ++ [-77]).length = n + 1 := by simp [h.len]
  have ho := h.own
  unfold OI at ho
  rw [hl] at ho
  refine ⟨?_, ?_⟩
  · rw [ho.cellAt n (by omega), List.getElem?_map, List.getElem?_append_right (by rw [h.len]; exact Nat.le_refl _), h.len, Nat.sub_self]
    rfl
  · obtain ⟨_, ⟨e, _⟩ | ⟨g', cap, cur, e, hB, hg, hn, _⟩⟩ := ho
    · cases e
    · simp only [Value.slice.injEq, Option.some.injEq, Addr.mk.injEq, and_true, true_and] at e
      omega
theorem lentVec_any (a : Option Addr) (n c : Nat) (xs : List Int) (w : World) (hx : IA w a n xs) (hn : n ≤ 1000000) :
    Calls Tryz.prog 7 #[.slice a n c] w fun e w' => ∃ g c', e = .returned (.slice (some ⟨g, 0, none⟩) n c') ∧ LV w.heap.size w' g n c' xs ∧ Bl w w' := by
  have hcap := hx.cap
  have HL := Lib.hid hx.len
  have HX := Lib.hid hx
  clear hx
  go_enter Tryz.func7, Tryz.ntmps7
  go_wp2_with (at_builtin; refine wpList_appG rfl _ _ _ rfl el_vec w.heap.size (.slice none 0 0) 0 [] rfl (World.ownsRow_nil _ _ _ _) (Nat.le_refl _) a n c _ rfl (sg_ints HX.out) ?cM ?cN ?_)
  case cM => unfold maxLen; omega
  case cN => omega
  intro v w1 ho hg
  have hb : Bl w w1 := (Bl.refl w).ownRow (World.ownsRow_nil w w.heap.size 3 1) (Nat.le_refl _) hg
  have hoi : w1.ownsRow w.heap.size 3 1 v n (xs.map (Value.int .i64)) := by simpa using ho
  have hsz := hb.size
  have hlit : (w1.alloc (.cells #[.int .i64 (-77)] 3)).heap[w1.heap.size]? = some (.cells [.int .i64 (-77)].toArray 3 (0, 0)) := heap_alloc_new w1 _
  have HLT := Lib.hid (SG.lit (size := 1) hlit rfl (by intro u hu; simp at hu; subst hu; rfl))
  have hoa := ownsRow_bl hoi ((Bl.refl w1).alloc (.cells #[.int .i64 (-77)] 3))
  have HBA := Lib.hid (hb.alloc (.cells #[.int .i64 (-77)] 3))
  clear ho hg hb hoi hlit
  go_wp2_with (at_builtin; refine wpList_appG rfl _ _ _ rfl el_vec w.heap.size _ _ _ rfl hoa ?cB2 (some ⟨w1.heap.size, 0, none⟩) 1 1 _ rfl HLT.out ?cM2 ?cN2 ?_)
  case cB2 => simp; omega
  case cM2 => unfold maxLen; omega
  case cN2 => omega
  intro v2 w2 ho2 hg2
  have hb2 : Bl w w2 := HBA.out.ownRow hoa (Nat.le_refl _) hg2
  obtain ⟨g, c', rfl⟩ : ∃ g c', v2 = .slice (some ⟨g, 0, none⟩) (n + 1) c' := by
    obtain ⟨_, ⟨_, e⟩ | ⟨g', cap, cur, e, _⟩⟩ := ho2
    · omega
    · exact ⟨g', cap, e⟩
  have hlv : LV w.heap.size w2 g n c' xs := ⟨by
    unfold OI
    rw [List.length_append, HL.out, List.map_append]
    exact ho2, HL.out, hcap, HX.out.wf⟩
  have hmc := hlv.mark.2
  have HLV := Lib.hid hlv
  have HB2 := Lib.hid hb2
  clear ho2 hg2 hoa HLT HBA hlv hb2
  go_wp2_with fail
  go_ret
  exact ⟨_, _, rfl, HLV.out, HB2.out⟩
theorem staysVec_any (B g n c : Nat) (a : Option Addr) (m ca : Nat) (xs : List Int) (w : World) (h : LV B w g n c xs) (hx : IA w a m xs) (hn : n ≤ 1000000) :
    Calls Tryz.prog 17 #[.slice (some ⟨g, 0, none⟩) n c, .slice a m ca] w fun e w' => e = .returned (.bool true) ∧ Bl w w' := by
  have hs := rsame_any (some ⟨g, 0, none⟩) a n m c ca xs xs w h.ia hx
  rw [decide_eq_true (rfl : xs = xs)] at hs
  have HS := Lib.hid hs
  have HM := Lib.hid h.mark
  have hc := h.mark.2
  clear hs
  go_enter Tryz.func17, Tryz.ntmps17
  go_wp2_with fail
  refine HS.out.mono ?_
  rintro e w1 ⟨rfl, hb⟩
  have c0 := hb.cell HM.out.1
  go_wp2_with fail
  go_ret
  exact ⟨rfl, hb⟩
end Go.Proofs.YtfjjnffifnohkaaGreat
end

/- More of slices of versions that a call makes: one version ahead of an argument's. By an AI agent. -/
section
namespace Go.Proofs.YtfjjnffifnohkaaGreat
open Go.RowKit

theorem AC.put1 {w : World} {g : Nat} {cs : List Value} (h : AC w g cs) (j : Nat) (v : Value) : AC (w.setCell ⟨g, j, none⟩ v) g (cs.set j v) := by
  obtain ⟨t, h⟩ := h
  refine ⟨t, ?_⟩
  rw [heap_setCell_same w g j _ t _ h]
  simp
theorem IA.one {W : World} {g : Nat} {x : Int} (h : AC W g [.int .i64 x]) (hx : -9223372036854775808 ≤ x ∧ x ≤ 9223372036854775807) : IA W (some ⟨g, 0, none⟩) 1 [x] :=
  ⟨rfl, by decide, fun j hj => ⟨g, 0, rfl, fun j hj => by
    obtain rfl : j = 0 := by omega
    exact h.cell 0 _ rfl⟩, fun y hy => by simp at hy; subst hy; exact hx⟩
theorem OVS.lit {B : Nat} {w : World} {cs : List Value} (hl : cs.length = 8) (hB : B ≤ w.heap.size) : OVS B (w.alloc (.cells cs.toArray 59)) (.slice (some ⟨w.heap.size, 0, none⟩) 1 1) 1 cs :=
  ⟨by rw [hl], .inr ⟨w.heap.size, 1, cs.toArray, rfl, hB, heap_alloc_new w _, Nat.le_refl _, by decide, by simp [hl], by simp [hl, List.take_of_length_le]⟩⟩

section
variable {ops : Array Oper}
end
end Go.Proofs.YtfjjnffifnohkaaGreat
end

/- The cells of versions as lists: what an own slice reads as, piece by piece. By an AI agent. -/
section
namespace Go.Proofs.YtfjjnffifnohkaaGreat
open Go.RowKit

/-- eight cells that read as a version -/
def CV1 (w : World) (v : VerL) (c : List Value) : Prop := ∃ a n ca, c = [.string v.key, .slice a n ca, .int .i64 v.origin, .int .i64 v.tx, .int .i64 v.act.k, .float .f64 v.act.x, .int .i64 v.act.n, .string v.act.s] ∧ IA w a n v.at_ ∧ v.act.Ok
theorem CV1.len {w : World} {v : VerL} {c : List Value} (h : CV1 w v c) : c.length = 8 := by obtain ⟨a, n, ca, rfl, _⟩ := h; rfl
theorem CV1.keep {w w' : World} {v : VerL} {c : List Value} (h : CV1 w v c) (hb : Bl w w') : CV1 w' v c := by
  obtain ⟨a, n, ca, e, hI, ok⟩ := h
  exact ⟨a, n, ca, e, hI.keep hb, ok⟩
theorem CV1.one {w : World} {v : VerL} {c : List Value} (h : CV1 w v c) : ∀ u ∈ c, u.oneCell' = true := by
  obtain ⟨a, n, ca, rfl, _⟩ := h
  simp [Value.oneCell']
/-- cells that read as versions -/
inductive CL (w : World) : List Value → List VerL → Prop
  | nil : CL w [] []
  | cons {c cs : List Value} {v : VerL} {vs : List VerL} : CV1 w v c → CL w cs vs → CL w (c ++ cs) (v :: vs)
theorem CL.keep {w w' : World} {cs : List Value} {vs : List VerL} (h : CL w cs vs) (hb : Bl w w') : CL w' cs vs := by
  induction h with
  | nil => exact .nil
  | cons h _ ih => exact .cons (h.keep hb) ih
theorem CL.append {w : World} {cs ds : List Value} {vs us : List VerL} (h : CL w cs vs) (k : CL w ds us) : CL w (cs ++ ds) (vs ++ us) := by
  induction h with
  | nil => exact k
  | cons h _ ih => rw [List.append_assoc]; exact .cons h ih
theorem CL.single {w : World} {c : List Value} {v : VerL} (h : CV1 w v c) : CL w c [v] := by
  have := CL.cons h .nil
  rwa [List.append_nil] at this
theorem CL.len {w : World} {cs : List Value} {vs : List VerL} (h : CL w cs vs) : cs.length = vs.length * 8 := by
  induction h with
  | nil => rfl
  | cons h _ ih => rw [List.length_append, h.len, ih, List.length_cons]; omega
theorem CL.one {w : World} {cs : List Value} {vs : List VerL} (h : CL w cs vs) : ∀ u ∈ cs, u.oneCell' = true := by
  induction h with
  | nil => simp
  | cons h _ ih =>
    intro u hu
    rcases List.mem_append.1 hu with hu | hu
    · exact h.one u hu
    · exact ih u hu
theorem CL.at_ {w : World} {cs : List Value} {vs : List VerL} (h : CL w cs vs) : ∀ j, j < vs.length → ∃ c, CV1 w (nthR vs j) c ∧ ∀ r, r < 8 → cs[j * 8 + r]? = c[r]? := by
  induction h with
  | nil => intro j hj; simp at hj
  | @cons c cs v vs h _ ih =>
    intro j hj
    cases j with
    | zero => exact ⟨c, h, fun r hr => by rw [List.getElem?_append_left (by rw [h.len]; omega)]; congr 1; omega⟩
    | succ j =>
      obtain ⟨d, h1, h2⟩ := ih j (by simpa using hj)
      have e : nthR (v :: vs) (j + 1) = nthR vs j := by
        have h1 : j < vs.length := by simpa using hj
        rw [nthR_eq h1, nthR_eq (by simpa using hj)]
        rfl
      refine ⟨d, by rw [e]; exact h1, fun r hr => ?_⟩
      rw [List.getElem?_append_right (by rw [h.len]; omega), h.len, ← h2 r hr]
      congr 1
      omega
theorem VE.of {w : World} {b off : Nat} {v : VerL} {c : List Value} (h : CV1 w v c) (hc : ∀ r, r < 8 → w.cell? ⟨b, off + r, none⟩ = c[r]?) : VE w b off v := by
  obtain ⟨a, n, ca, rfl, hI, ok⟩ := h
  exact ⟨hc 0 (by decide), ⟨a, n, ca, hc 1 (by decide), hI⟩, hc 2 (by decide), hc 3 (by decide), hc 4 (by decide), hc 5 (by decide), hc 6 (by decide), hc 7 (by decide), ok⟩
theorem VE.cv {w : World} {b off : Nat} {v : VerL} (h : VE w b off v) : ∃ c, CV1 w v c ∧ ∀ r, r < 8 → w.cell? ⟨b, off + r, none⟩ = c[r]? := by
  obtain ⟨a, n, ca, h1, hI⟩ := h.at_
  refine ⟨_, ⟨a, n, ca, rfl, hI, h.ok⟩, fun r hr => ?_⟩
  have hc : r = 0 ∨ r = 1 ∨ r = 2 ∨ r = 3 ∨ r = 4 ∨ r = 5 ∨ r = 6 ∨ r = 7 := by omega
  rcases hc with rfl | rfl | rfl | rfl | rfl | rfl | rfl | rfl
  · exact h.c0
  · exact h1
  · exact h.c2
  · exact h.c3
  · exact h.c4
  · exact h.c5
  · exact h.c6
  · exact h.c7
/-- an own slice whose cells read as versions -/
theorem va_of {B : Nat} {w : World} {v : Value} {n : Nat} {cs : List Value} {vs : List VerL} (ho : OVS B w v n cs) (hc : CL w cs vs) (hn : vs.length = n) (hn1 : n ≤ 140737488351232) : ∃ a ca, v = .slice a n ca ∧ VA w a n vs := by
  by_cases h0 : 0 < n
  · obtain ⟨g, ca, rfl, _, _, hcell⟩ := ho.cells h0
    refine ⟨_, ca, rfl, ⟨hn, hn1, fun j0 _ => ⟨g, 0, rfl, fun j hj => ?_⟩⟩⟩
    obtain ⟨c, h1, h2⟩ := hc.at_ j (by omega)
    refine VE.of h1 fun r hr => ?_
    rw [← h2 r hr, show 0 + j * 8 + r = j * 8 + r by omega]
    have hlt : j * 8 + r < cs.length := by rw [hc.len]; omega
    rw [List.getElem?_eq_getElem hlt]
    exact hcell _ _ (List.getElem?_eq_getElem hlt)
  · obtain rfl : n = 0 := by omega
    obtain rfl : vs = [] := List.eq_nil_of_length_eq_zero hn
    obtain ⟨_, ⟨rfl, _⟩ | ⟨g, cap, cur, rfl, _⟩⟩ := ho
    · exact ⟨none, 0, rfl, rfl, by omega, fun j hj => absurd hj (Nat.not_lt_zero _)⟩
    · exact ⟨_, cap, rfl, rfl, by omega, fun j hj => absurd hj (Nat.not_lt_zero _)⟩
/-- a slice of versions has cells that read so -/
theorem cl_src {w : World} {b off : Nat} {vs : List VerL} : ∀ (n o : Nat), (∀ j, j < n → VE w b (off + (o + j) * 8) (nthR vs j)) → vs.length = n → ∃ cs, CL w cs vs ∧ ∀ j u, cs[j]? = some u → w.cell? ⟨b, off + o * 8 + j, none⟩ = some u := by
  induction vs with
  | nil => exact fun n o _ _ => ⟨[], .nil, by simp⟩
  | cons v vs ih =>
    intro n o hv hl
    obtain ⟨c, h1, h2⟩ := (hv 0 (by simp at hl; omega)).cv
    have e0 : nthR (v :: vs) 0 = v := rfl
    rw [e0] at h1
    obtain ⟨cs, h3, h4⟩ := ih (n - 1) (o + 1) (fun j hj => by
      have h5 := hv (j + 1) (by omega)
      have e : nthR (v :: vs) (j + 1) = nthR vs j := by
        have h1 : j < vs.length := by simp at hl; omega
        rw [nthR_eq h1, nthR_eq (by simp; omega)]
        rfl
      rw [e] at h5
      rwa [show o + 1 + j = o + (j + 1) by omega]) (by simp at hl; omega)
    refine ⟨c ++ cs, .cons h1 h3, fun j u hu => ?_⟩
    by_cases hj : j < 8
    · rw [List.getElem?_append_left (by rw [h1.len]; exact hj)] at hu
      have := h2 j hj
      rw [show off + o * 8 + j = off + (o + 0) * 8 + j by omega, this]
      exact hu
    · rw [List.getElem?_append_right (by rw [h1.len]; omega), h1.len] at hu
      have := h4 (j - 8) u hu
      rwa [show off + (o + 1) * 8 + (j - 8) = off + o * 8 + j by omega] at this
/-- the part of a slice from k on, of n elements -/
theorem VA.part {w : World} {b off N : Nat} {vs : List VerL} (h : VA w (some ⟨b, off, none⟩) N vs) (k n : Nat) (hk : k + n ≤ N) : VA w (some ⟨b, off + k * 8, none⟩) n ((vs.drop k).take n) ∧ ∃ cs, SC w (some ⟨b, off + k * 8, none⟩) n cs ∧ CL w cs ((vs.drop k).take n) := by
  have hlen : ((vs.drop k).take n).length = n := by rw [List.length_take, List.length_drop, h.len]; omega
  have hve : ∀ j, j < n → VE w b (off + (k + j) * 8) (nthR ((vs.drop k).take n) j) := fun j hj => by
    obtain ⟨b', off', e, hc⟩ := h.cells (k + j) (by omega)
    simp only [Option.some.injEq, Addr.mk.injEq] at e
    obtain ⟨rfl, rfl, _⟩ := e
    have h1 := hc (k + j) (by omega)
    have e : nthR ((vs.drop k).take n) j = nthR vs (k + j) := by
      rw [nthR_eq (by rw [hlen]; exact hj), nthR_eq (by rw [h.len]; omega)]
      simp
    rwa [e]
  refine ⟨⟨hlen, by have := h.cap; omega, fun j0 _ => ⟨b, off + k * 8, rfl, fun j hj => ?_⟩⟩, ?_⟩
  · have := hve j hj
    rwa [show off + k * 8 + j * 8 = off + (k + j) * 8 by omega]
  · obtain ⟨cs, h1, h2⟩ := cl_src n k hve hlen
    refine ⟨cs, ⟨by rw [h1.len, hlen], fun b' off' e => ?_, (fun e => by cases e), fun b' off' s e _ => ?_, h1.one⟩, h1⟩
    · simp only [Option.some.injEq, Addr.mk.injEq] at e
      obtain ⟨rfl, rfl, _⟩ := e
      exact h2
    · simp only [Option.some.injEq, Addr.mk.injEq] at e
      exact e.2.2.symm
section
variable {ops : Array Oper}
end
end Go.Proofs.YtfjjnffifnohkaaGreat
end

/- bedrockref5.SameVersion of versions with acts; bedrockbook.SameVersions of versions that are the same. By an AI agent. -/
section
namespace Go.Proofs.YtfjjnffifnohkaaGreat
open Go.RowKit
attribute [local go_sem] eOp eOper eUpon

theorem sameA_refl (a : ActL) : sameA a a = true := by simp [sameA]
set_option maxHeartbeats 1600000 in
set_option maxRecDepth 100000 in
theorem sameVerA_any (key : ByteArray) (a : Option Addr) (n ca : Nat) (xs : List Int) (o t : Int) (A1 : ActL) (key' : ByteArray) (b : Option Addr) (m cb : Nat) (ys : List Int) (o' t' : Int) (A2 : ActL) (r : Bool) (w : World) (hx : IA w a n xs) (hy : IA w b m ys)
    (ok1 : A1.Ok) (ok2 : A2.Ok) (HR : Hid ((decide (key = key' ∧ xs = ys ∧ o = o' ∧ t = t') && sameA A1 A2) = r)) :
    Calls Tryz.prog 33 #[.agg #[.string key, .slice a n ca, .int .i64 o, .int .i64 t, .int .i64 A1.k, .float .f64 A1.x, .int .i64 A1.n, .string A1.s], .agg #[.string key', .slice b m cb, .int .i64 o', .int .i64 t', .int .i64 A2.k, .float .f64 A2.x, .int .i64 A2.n, .string A2.s]] w
      fun e w' => e = .returned (.bool r) ∧ Bl w w' := by
  have hsf := store_float
  have G := GO2.new w 59 59 (verC key a n ca o t A1.k A1.x A1.n A1.s) (verC key' b m cb o' t' A2.k A2.x A2.n A2.s)
  by_cases hk : key = key'
  · have q1 : (key.toList == key'.toList) = true := by rw [key_beq]; exact decide_eq_true hk
    have HK := Lib.hid hk
    clear hk
    have H3 := Lib.hid (fun w hx hy => rsame_any a b n m ca cb xs ys w hx hy)
    have H4 := Lib.hid (fun w => refSameA_any A1 A2 w ok1 ok2)
    clear ok1 ok2
    go_enter Tryz.func33, Tryz.ntmps33
    go_wp2_with fail
    refine (H3.out _ (hx.keep G.bl) (hy.keep G.bl)).mono ?_
    rintro e w1 ⟨rfl, hb1⟩
    replace G := G.keep hb1
    obtain ⟨a0, a1, a2, a3, a4, a5, a6, a7⟩ := G.a.ver
    obtain ⟨b0, b1, b2, b3, b4, b5, b6, b7⟩ := G.b.ver
    by_cases hxy : xs = ys
    · rw [decide_eq_true hxy]
      have HXY := Lib.hid hxy
      clear hxy
      by_cases ho : o = o'
      · by_cases ht : t = t'
        · subst ho; subst ht
          go_wp2_with fail
          refine (H4.out _).mono ?_
          rintro e w2 ⟨rfl, hb2⟩
          have HR' : Hid (sameA A1 A2 = r) := Lib.hid (by rw [← HR.out]; simp [HK.out, HXY.out])
          clear HR
          obtain ⟨q, hq⟩ : ∃ q, sameA A1 A2 = q := ⟨_, rfl⟩
          rw [hq] at HR' ⊢
          clear hq
          go_wp2_with fail
          go_ret
          exact ⟨ret_bool HR'.out, G.bl.trans hb2⟩
        · have q2 : (t == t') = false := by rw [beq_eq_false_iff_ne]; exact ht
          have HT := Lib.hid ht
          clear ht
          subst ho
          go_wp2_with fail
          go_ret
          exact ⟨ret_bool (by rw [← HR.out, decide_eq_false (fun h => HT.out h.2.2.2)]; rfl), G.bl⟩
      · have q2 : (o == o') = false := by rw [beq_eq_false_iff_ne]; exact ho
        have HO := Lib.hid ho
        clear ho
        go_wp2_with fail
        go_ret
        exact ⟨ret_bool (by rw [← HR.out, decide_eq_false (fun h => HO.out h.2.2.1)]; rfl), G.bl⟩
    · rw [decide_eq_false hxy]
      have HXY := Lib.hid hxy
      clear hxy
      go_wp2_with fail
      go_ret
      exact ⟨ret_bool (by rw [← HR.out, decide_eq_false (fun h => HXY.out h.2.1)]; rfl), G.bl⟩
  · have q1 : (key.toList == key'.toList) = false := by rw [key_beq]; exact decide_eq_false hk
    have HK := Lib.hid hk
    clear hk
    go_enter Tryz.func33, Tryz.ntmps33
    go_wp2_with fail
    go_ret
    exact ⟨ret_bool (by rw [← HR.out, decide_eq_false (fun h => HK.out h.1)]; rfl), G.bl⟩
/-- ... of one version, read at two places -/
theorem sameVer_yes (V : VerL) (a : Option Addr) (n ca : Nat) (b : Option Addr) (m cb : Nat) (w : World) (hx : IA w a n V.at_) (hy : IA w b m V.at_) (ok : V.act.Ok) :
    Calls Tryz.prog 33 #[.agg #[.string V.key, .slice a n ca, .int .i64 V.origin, .int .i64 V.tx, .int .i64 V.act.k, .float .f64 V.act.x, .int .i64 V.act.n, .string V.act.s], .agg #[.string V.key, .slice b m cb, .int .i64 V.origin, .int .i64 V.tx, .int .i64 V.act.k, .float .f64 V.act.x, .int .i64 V.act.n, .string V.act.s]] w
      fun e w' => e = .returned (.bool true) ∧ Bl w w' :=
  sameVerA_any V.key a n ca V.at_ V.origin V.tx V.act V.key b m cb V.at_ V.origin V.tx V.act true w hx hy ok ok (Lib.hid (by simp [sameA_refl]))
set_option maxHeartbeats 3200000 in
set_option maxRecDepth 100000 in
theorem sameVers_yes (a b : Option Addr) (n ca cb : Nat) (vs : List VerL) (w : World) (hx : VA w a n vs) (hy : VA w b n vs) :
    Calls Tryz.prog 49 #[.slice a n ca, .slice b n cb] w fun e w' => e = .returned (.bool true) ∧ Bl w w' := by
  have hcap := hx.cap
  go_enter Tryz.func49, Tryz.ntmps49
  go_wp2_with fail
  go_loopw [5] (fun i wr => ∃ k : Nat, k ≤ n ∧ i = .int .i64 k ∧ Bl w wr) (fun i _ => n - (intOf i).toNat)
  case atStart => exact ⟨0, Nat.zero_le _, rfl, Bl.refl _⟩
  case round =>
    obtain ⟨k, hk, rfl, hb⟩ := hrel
    by_cases hlt : k < n
    · obtain ⟨bx, ox, rfl, hcx⟩ := hx.cells k hlt
      obtain ⟨by', oy, rfl, hcy⟩ := hy.cells k hlt
      have E := (hcx k hlt).keep hb
      have E2 := (hcy k hlt).keep hb
      clear hcx hcy
      generalize nthR vs k = V at *
      go_wp2_with fail
      refine wp_region_allS (by kernel_rfl) (by kernel_rfl) ?_
      have hb1 := hb.drew
      have E := E.keep ((Bl.refl wr).drew)
      have E2 := E2.keep ((Bl.refl wr).drew)
      generalize wr.drew = W at *
      obtain ⟨va, vn, vc, v1, vI⟩ := E.at_
      obtain ⟨ua, un, uc, u1', uI⟩ := E2.at_
      obtain ⟨p0, p1, p2, p3, p4, p5, p6, p7⟩ := E.all v1
      obtain ⟨q0, q1, q2, q3, q4, q5, q6, q7⟩ := E2.all u1'
      have ok := E.ok
      clear E E2 v1 u1'
      have hO : ∀ m : Ext W, _ := fun m => sameVer_yes V va vn vc ua un uc m.at (vI.keep m.bl) (uI.keep m.bl) ok
      have HO := Lib.hid hO
      clear hO vI uI
      repeat (refine wpS_step (fun K hK => ?_); go_simp; first | (refine hK _ ?_; clear hK K) | (apply Exists.intro; refine ⟨fun m => ?_, hK _ ?_⟩; (exact HO.out m); clear hK K))
      clear p0 p1 p2 p3 p4 p5 p6 p7 q0 q1 q2 q3 q4 q5 q6 q7
      refine wpS_nil ?_
      intro m
      have hb2 := hb1.trans m.bl
      generalize ExtC.at m = W9 at *
      go_wp2_with fail
      go_roundw
      case rel => exact ⟨k + 1, by omega, by go_num, hb2⟩
      case measure => simp [intOf]; omega
    · go_wp2_with fail
      go_ret
      exact ⟨rfl, hb⟩
end Go.Proofs.YtfjjnffifnohkaaGreat
end

/- bedrockbook.LentVec: a vector as it is lent, in cells: a copy behind whose end a mark stands. By an AI agent. -/
section
namespace Go.Proofs.YtfjjnffifnohkaaGreat
open Go.RowKit

/-- a marked vector: behind its end stands -77 -/
structure MV (w : World) (g n cap : Nat) (xs : List Int) : Prop where
  ia : IA w (some ⟨g, 0, none⟩) n xs
  mark : w.cell? ⟨g, n, none⟩ = some (.int .i64 (-77))
  room : n + 1 ≤ cap
theorem MV.keep {w w' : World} {g n cap : Nat} {xs : List Int} (h : MV w g n cap xs) (hb : Bl w w') : MV w' g n cap xs := ⟨h.ia.keep hb, hb.cell h.mark, h.room⟩
set_option maxRecDepth 100000 in
theorem staysVec_yes (g n cap : Nat) (b : Option Addr) (m cb : Nat) (xs : List Int) (w : World) (hm : MV w g n cap xs) (hy : IA w b m xs) :
    Calls Tryz.prog 17 #[.slice (some ⟨g, 0, none⟩) n cap, .slice b m cb] w fun e w' => e = .returned (.bool true) ∧ Bl w w' := by
  have hcap := hm.ia.cap
  have hroom := hm.room
  go_enter Tryz.func17, Tryz.ntmps17
  go_wp2_with fail
  refine (rsame_any (some ⟨g, 0, none⟩) b n m cap cb xs xs _ hm.ia hy).mono ?_
  rintro e w1 ⟨rfl, hb1⟩
  rw [decide_eq_true (rfl : xs = xs)]
  have hk := (hm.keep hb1).mark
  go_wp2_with fail
  go_ret
  exact ⟨rfl, hb1⟩
/-- an own row of n + 1 ints whose last one is the mark -/
theorem mv_of {B n : Nat} {w : World} {v : Value} {xs : List Int} (ho : w.ownsRow B 3 1 v (n + 1) (xs.map (Value.int .i64) ++ [.int .i64 (-77)])) (hl : xs.length = n) (hn : n ≤ 1000) (hw : ∀ x ∈ xs, -9223372036854775808 ≤ x ∧ x ≤ 9223372036854775807) :
    ∃ g cap, v = .slice (some ⟨g, 0, none⟩) (n + 1) cap ∧ n + 1 ≤ cap ∧ cap ≤ maxLen ∧ B ≤ g ∧ MV w g n cap xs := by
  obtain ⟨h1, ⟨_, h2⟩ | ⟨g, cap, cur, rfl, hB, hg, hc, hm, hs, ht⟩⟩ := ho
  · omega
  · have hown : w.ownsRow B 3 1 (.slice (some ⟨g, 0, none⟩) (n + 1) cap) (n + 1) (xs.map (Value.int .i64) ++ [.int .i64 (-77)]) := ⟨h1, .inr ⟨g, cap, cur, rfl, hB, hg, hc, hm, hs, ht⟩⟩
    refine ⟨g, cap, rfl, hc, hm, hB, ⟨hl, by omega, fun j hj => ⟨g, 0, rfl, fun j hj => ?_⟩, hw⟩, ?_, hc⟩
    · rw [Nat.zero_add, hown.cellAt j (by omega), List.getElem?_append_left (by simpa [hl] using hj)]
      have hjx : j < xs.length := by rw [hl]; exact hj
      simp [hjx, nth_eq hjx]
    · rw [hown.cellAt n (by omega), List.getElem?_append_right (by simp [hl])]
      simp [hl]
set_option maxRecDepth 100000 in
theorem lentVecM_any (a : Option Addr) (n ca : Nat) (xs : List Int) (w : World) (hx : IA w a n xs) (hn : n ≤ 1000) :
    Calls Tryz.prog 7 #[.slice a n ca] w fun e w' => ∃ g cap, e = .returned (.slice (some ⟨g, 0, none⟩) n cap) ∧ w.heap.size ≤ g ∧ MV w' g n cap xs ∧ Bl w w' := by
  have HL := Lib.hid hx.len
  have HW := Lib.hid hx.wf
  have HS := Lib.hid (sg_ints hx)
  clear hx
  go_enter Tryz.func7, Tryz.ntmps7
  go_wp2_with (at_builtin; refine wpList_appG rfl _ _ _ rfl el_vec w.heap.size _ 0 [] rfl (World.ownsRow_nil _ _ _ _) (Nat.le_refl _) _ _ _ _ rfl HS.out ?c1 ?c2 ?_)
  case c1 => unfold maxLen; omega
  case c2 => omega
  intro v1 w1 ho1 hg1
  have hb1 : Bl w w1 := (Bl.refl w).ownRow (World.ownsRow_nil w w.heap.size 3 1) (Nat.le_refl _) hg1
  have hb2 := hb1.alloc (.cells #[.int .i64 (-77)] 3)
  go_wp2_with (at_builtin; refine wpList_appG rfl _ _ _ rfl el_vec w.heap.size v1 n _ rfl (ho1.alloc _) ?c1 _ 1 1 [.int .i64 (-77)] rfl (SG.lit (heap_alloc_new _ _) rfl (by simp [Value.oneCell'])) ?c2 ?c3 ?_)
  case c1 => simp; have := hb1.size; omega
  case c2 => unfold maxLen; omega
  case c3 => omega
  intro v2 w2 ho2 hg2
  have hb3 : Bl w w2 := hb2.ownRow (ho1.alloc _) (Nat.le_refl _) hg2
  obtain ⟨g, cap, rfl, hc, hm, hB, hM⟩ := mv_of ho2 HL.out hn HW.out
  clear ho1 ho2 hg1 hg2 hb1 hb2
  have hc' : n ≤ cap := by omega
  have hm' : cap ≤ 9223372036854775807 := hm
  clear hm
  go_wp2_with fail
  go_ret
  exact ⟨g, cap, rfl, hB, hM, hb3⟩
end Go.Proofs.YtfjjnffifnohkaaGreat
end
