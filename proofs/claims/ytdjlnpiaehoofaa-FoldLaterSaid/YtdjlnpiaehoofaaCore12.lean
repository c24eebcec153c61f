import Derived.Test.YtdjlnpiaehoofaaCore10
import Derived.Test.YtdjlnpiaehoofaaCore11
import Derived.Test.YtdjlnpiaehoofaaCore3
import Derived.Deep.AppendSrc
import Derived.Maps.OwnRows
import Derived.Test.YtdjlnpiaehoofaaCore1
import Derived.Deep.QuietTactic
import Derived.BigQuiet
import Derived.Test.YtdjlnpiaehoofaaCore2
import Derived.Lib.AppendZerosOnto
import Derived.Lib.SliceRun
import Derived.Lib.Walk

/- what versions tell, and what is left of them: plain laws. By an AI agent. -/
section
set_option linter.unusedVariables false
set_option linter.unusedSimpArgs false
namespace Go.Proofs.Ytdjlnpiaehoofaa
open Go.RowKit

/-- no two are of one stamp -/
abbrev NoAl (l : List VerL) : Prop := l.Pairwise (fun a b => ¬ AlV a b)
/-- the first of those that count -/
def BestV (key : ByteArray) (vs : List VerL) : Option VerL → Prop
  | none => ∀ v ∈ vs, fitsB key v.act = false
  | some u => u ∈ vs ∧ fitsB key u.act = true ∧ ∀ v ∈ vs, fitsB key v.act = true → v = u ∨ LtV u v
theorem bestV_step {key : ByteArray} {vs : List VerL} {o : Option VerL} {v : VerL} (h : BestV key vs o) (ha : ∀ u ∈ vs, ¬ AlV u v) : BestV key (vs ++ [v]) (stepL key o v) := by
  unfold stepL
  cases hf : fitsB key v.act with
  | false =>
    rw [if_neg (by decide)]
    cases o with
    | none =>
      intro u hu
      rcases List.mem_append.1 hu with q | q
      · exact h u q
      · rw [List.mem_singleton.1 q]; exact hf
    | some u =>
      obtain ⟨h1, h2, h3⟩ := h
      refine ⟨by simp [h1], h2, fun w hw fw => ?_⟩
      rcases List.mem_append.1 hw with q | q
      · exact h3 w q fw
      · rw [List.mem_singleton.1 q, hf] at fw; cases fw
  | true =>
    rw [if_pos rfl]
    cases o with
    | none =>
      refine ⟨by simp, hf, fun w hw fw => ?_⟩
      rcases List.mem_append.1 hw with q | q
      · rw [h w q] at fw; cases fw
      · exact .inl (List.mem_singleton.1 q)
    | some u =>
      obtain ⟨h1, h2, h3⟩ := h
      dsimp only
      by_cases hl : orderL v u < 0
      · rw [if_pos hl]
        have hl := orderL_lt.1 hl
        refine ⟨by simp, hf, fun w hw fw => ?_⟩
        rcases List.mem_append.1 hw with q | q
        · rcases h3 w q fw with r | r
          · subst r; exact .inr hl
          · exact .inr (hl.trans r)
        · exact .inl (List.mem_singleton.1 q)
      · rw [if_neg hl]
        refine ⟨by simp [h1], h2, fun w hw fw => ?_⟩
        rcases List.mem_append.1 hw with q | q
        · exact h3 w q fw
        · rw [List.mem_singleton.1 q]
          rcases ltV_total u v with r | r | r
          · exact .inr r
          · exact absurd r (ha u h1)
          · exact absurd (orderL_lt.2 r) hl
theorem bestV_fold {key : ByteArray} : ∀ (vs us : List VerL) (o : Option VerL), BestV key us o → NoAl (us ++ vs) → BestV key (us ++ vs) (vs.foldl (stepL key) o)
  | [], us, o, h, _ => by simpa using h
  | v :: vs, us, o, h, hp => by
    have h1 := bestV_step (v := v) h (fun u hu => (List.pairwise_append.1 hp).2.2 u hu v (by simp))
    have := bestV_fold vs (us ++ [v]) _ h1 (by simpa using hp)
    simpa using this
theorem bestV_last {key : ByteArray} {vs : List VerL} (hp : NoAl vs) : BestV key vs (lastL key vs) := by
  have := bestV_fold (key := key) vs [] none (fun v hv => by cases hv) (by simpa using hp)
  simpa [lastL] using this
theorem bestV_one {key : ByteArray} {vs us : List VerL} {o p : Option VerL} (hm : ∀ v, v ∈ vs ↔ v ∈ us) (h : BestV key vs o) (k : BestV key us p) : o = p := by
  cases o with
  | none =>
    cases p with
    | none => rfl
    | some u => have := h u ((hm u).2 k.1); rw [k.2.1] at this; cases this
  | some v =>
    cases p with
    | none => have := k v ((hm v).1 h.1); rw [h.2.1] at this; cases this
    | some u =>
      congr 1
      rcases h.2.2 u ((hm u).2 k.1) k.2.1 with r | r
      · exact r.symm
      · rcases k.2.2 v ((hm v).1 h.1) h.2.1 with s | s
        · exact s
        · exact absurd (r.trans s) LtV.irrefl
theorem last_valV {key : ByteArray} (hr : regB key = true) (vs : List VerL) : valueL key vs = ofLast key (lastL key vs) := by unfold valueL; rw [if_pos hr]
theorem out_val {key : ByteArray} (hr : regB key = false) (vs : List VerL) : valueL key vs = vs.foldl (fun o v => afterL key o v.act) noVal := by unfold valueL; rw [if_neg (by rw [hr]; decide)]; rfl
/-- what versions tell does not hang on their order -/
theorem val_perm {key : ByteArray} {vs us : List VerL} (h : vs.Perm us) (hp : NoAl vs) (hok : ∀ v ∈ vs, v.act.Ok) : SamV (valueL key vs) (valueL key us) := by
  cases hr : regB key with
  | true =>
    rw [last_valV hr, last_valV hr, bestV_one (fun v => h.mem_iff) (bestV_last hp) (bestV_last (h.pairwise hp (fun q r => q r.symm)))]
    exact SamV.refl _
  | false =>
    rw [out_val hr, out_val hr]
    exact out_perm hr h noVal hok

def leqV (at_ : List Int) (v : VerL) : Bool := leqL v.at_ at_
/-- fold.Read -/
def readL (key : ByteArray) (l : List VerL) (at_ : List Int) : ValL := valueL key ((orderOf l).filter (leqV at_))
def stayL (floor : List Int) (o : List VerL) : List VerL := o.filter (fun v => !leqV floor v)
def seenL (key : ByteArray) (floor : List Int) (o : List VerL) : List VerL := o.filter (fun v => leqV floor v && fitsB key v.act)
def minV : List Int → Int
  | [] => 0
  | x :: xs => xs.foldl min x
def goneL (stay : List VerL) (first : VerL) (floor : List Int) (all : Bool) : Bool := all && (decide (first.act.k = 4) && (decide (timeL first ≤ minV floor) && !stay.any (fun v => decide (orderL first v < 0))))
def oneStep (key : ByteArray) (o v : VerL) : VerL := ⟨key, joinL o.at_ v.at_, 254, max o.tx v.tx, bothL key o.act v.act⟩
def oneV (key : ByteArray) (v : VerL) : VerL := ⟨key, v.at_, 254, v.tx, v.act⟩
/-- fold.one, of what is seen turned round -/
def oneL (key : ByteArray) : List VerL → VerL
  | [] => oneV key noVer
  | last :: rest => rest.foldl (oneStep key) (oneV key last)
/-- what Drop keeps of what stays and of what is seen -/
def keptL (key : ByteArray) (stay : List VerL) (floor : List Int) (all : Bool) : List VerL → List VerL
  | [] => stay
  | first :: rest =>
    if regB key then orderOf (stay ++ (if goneL stay first floor all then [] else [first]))
    else if all && decide (rest ≠ []) then stay ++ [oneL key (first :: rest).reverse]
    else orderOf (stay ++ (first :: rest))
/-- fold.Drop -/
def dropO (key : ByteArray) (o : List VerL) (floor : List Int) (all : Bool) : List VerL :=
  if isKeyB key && validL floor then keptL key (stayL floor o) floor all (seenL key floor o) else o
def dropL (key : ByteArray) (l : List VerL) (floor : List Int) (all : Bool) : List VerL := dropO key (orderOf l) floor all
/-- versions of a key that can be -/
structure RightV (key : ByteArray) (n : Nat) (v : VerL) : Prop where
  valid : validL v.at_ = true
  len : v.at_.length = n
  place : (0 ≤ v.origin ∧ v.origin < (n : Int)) ∨ v.origin = 254
  tx : 0 ≤ v.tx
  fits : fitsB key v.act = true
  ok : v.act.Ok
def RightL (key : ByteArray) (n : Nat) (l : List VerL) : Prop := ∀ v ∈ l, RightV key n v
theorem RightL.order {key : ByteArray} {n : Nat} {l : List VerL} (h : RightL key n l) : RightL key n (orderOf l) := fun v hv => h v (order_mem hv)

/-! ### the one that stands for several -/
structure OneOk (key : ByteArray) (n : Nat) (floor : List Int) (o : VerL) : Prop where
  right : RightV key n o
  leq : leqL o.at_ floor = true
  folded : o.origin = 254
theorem join_leq {a b c : List Int} (h1 : a.length = b.length) (h2 : b.length = c.length) (ha : leqL a c = true) (hb : leqL b c = true) : leqL (joinL a b) c = true := by
  have hl := join_len' h1
  rw [leqL_iff (by rw [hl]; omega)]
  intro j hj
  rw [hl] at hj
  rw [join_nth h1 hj]
  have p := (leqL_iff (by omega)).1 ha j hj
  have q := (leqL_iff h2).1 hb j (by omega)
  omega
theorem one_step {key : ByteArray} {n : Nat} {floor : List Int} {o v : VerL} (hf : floor.length = n) (h : OneOk key n floor o) (r : RightV key n v) (hl : leqL v.at_ floor = true) : OneOk key n floor (oneStep key o v) := by
  have e : o.at_.length = v.at_.length := h.right.len.trans r.len.symm
  refine ⟨⟨join_valid h.right.valid r.valid e, (join_len' e).trans h.right.len, .inr rfl, ?_, ?_, both_ok h.right.ok r.ok⟩, join_leq e (r.len.trans hf.symm) h.leq hl, rfl⟩
  · show 0 ≤ max o.tx v.tx
    have := h.right.tx
    omega
  · exact (after_both noVal h.right.ok r.ok h.right.fits r.fits).2
theorem one_start {key : ByteArray} {n : Nat} {floor : List Int} {v : VerL} (r : RightV key n v) (hl : leqL v.at_ floor = true) : OneOk key n floor (oneV key v) := ⟨⟨r.valid, r.len, .inr rfl, r.tx, r.fits, r.ok⟩, hl, rfl⟩
theorem one_fold {key : ByteArray} {n : Nat} {floor : List Int} (hf : floor.length = n) : ∀ (vs : List VerL) (o : VerL), OneOk key n floor o → (∀ v ∈ vs, RightV key n v ∧ leqL v.at_ floor = true) → OneOk key n floor (vs.foldl (oneStep key) o)
  | [], _, h, _ => h
  | v :: vs, o, h, hv => one_fold hf vs _ (one_step hf h (hv v (by simp)).1 (hv v (by simp)).2) (fun u hu => hv u (by simp [hu]))
theorem one_ok {key : ByteArray} {n : Nat} {floor : List Int} (hf : floor.length = n) {vs : List VerL} (h0 : vs ≠ []) (hv : ∀ v ∈ vs, RightV key n v ∧ leqL v.at_ floor = true) : OneOk key n floor (oneL key vs) := by
  cases vs with
  | nil => exact absurd rfl h0
  | cons v vs => exact one_fold hf vs _ (one_start (hv v (by simp)).1 (hv v (by simp)).2) (fun u hu => hv u (by simp [hu]))
/-- the one tells what all of them tell -/
theorem one_tells {key : ByteArray} (hr : regB key = false) : ∀ (vs : List VerL) (a : VerL) (x : ValL), a.act.Ok → fitsB key a.act = true → (∀ v ∈ vs, v.act.Ok ∧ fitsB key v.act = true) →
    SamV (vs.foldl (fun o v => afterL key o v.act) (afterL key x a.act)) (afterL key x (vs.foldl (oneStep key) a).act)
  | [], a, x, _, _, _ => SamV.refl _
  | v :: vs, a, x, oa, ha, hv => by
    obtain ⟨ov, fv⟩ := hv v (by simp)
    obtain ⟨h1, h2⟩ := after_both x oa ov ha fv
    have ih := one_tells hr vs (oneStep key a v) x (both_ok oa ov) h2 (fun u hu => hv u (by simp [hu]))
    exact (out_cong hr vs _ _ (fun u hu => (hv u (by simp [hu])).1) (samV.2 h1)).trans ih
theorem ones_tell {key : ByteArray} (hr : regB key = false) {vs : List VerL} (h0 : vs ≠ []) (x : ValL) (hv : ∀ v ∈ vs, v.act.Ok ∧ fitsB key v.act = true) :
    SamV (vs.foldl (fun o v => afterL key o v.act) x) (afterL key x (oneL key vs).act) := by
  cases vs with
  | nil => exact absurd rfl h0
  | cons v vs => exact one_tells hr vs (oneV key v) x (hv v (by simp)).1 (hv v (by simp)).2 (fun u hu => hv u (by simp [hu]))
end Go.Proofs.Ytdjlnpiaehoofaa
end

/- append to what a call has made, of elements of any type, of whatever slice (nil too). By an AI agent. -/
section
namespace Go.Proofs.Ytdjlnpiaehoofaa
open Go.RowKit
attribute [local go_sem] eOp eOper eUpon

/-- the cells of a slice of n elements of so many cells each -/
structure SG (w : World) (size : Nat) (a : Option Addr) (n : Nat) (cs : List Value) : Prop where
  len : cs.length = n * size
  at_ : ∀ ad, a = some ad → ∀ j u, cs[j]? = some u → w.cell? (ad.add j) = some u
  nil : a = none → n = 0
  one : ∀ u ∈ cs, u.oneCell' = true
theorem SG.keep {w w' : World} {size : Nat} {a : Option Addr} {n : Nat} {cs : List Value} (h : SG w size a n cs) (hb : Bl w w') : SG w' size a n cs :=
  ⟨h.len, fun ad e j u hu => hb.cell (h.at_ ad e j u hu), h.nil, h.one⟩
/-- what is asked of the types -/
structure EL (T E : TypeId) (size bytes : Nat) : Prop where
  ty : Try.prog.underlying T = some (.slice E)
  info : ∃ i z, Try.prog.info? E = some i ∧ i.zero = some z ∧ i.size = size ∧ i.bytes = bytes ∧ z.cells.size = size
  pos : 0 < size
theorem el_of {T E : TypeId} {size bytes : Nat} (h1 : Try.prog.underlying T = some (.slice E)) (h2 : (Try.prog.info? E).map (fun i => (i.zero.map (fun z => z.cells.size), i.size, i.bytes)) = some (some size, size, bytes)) (h3 : 0 < size) : EL T E size bytes := by
  refine ⟨h1, ?_, h3⟩
  cases hi : Try.prog.info? E with
  | none => rw [hi] at h2; cases h2
  | some i =>
    rw [hi] at h2
    simp only [Option.map_some, Option.some.injEq, Prod.mk.injEq] at h2
    obtain ⟨g1, g2, g3⟩ := h2
    cases hz : i.zero with
    | none => rw [hz] at g1; cases g1
    | some z =>
      rw [hz] at g1
      simp only [Option.map_some, Option.some.injEq] at g1
      exact ⟨i, z, rfl, hz, g2, g3, g1⟩
theorem run_appG {w : World} {B : Nat} {T E : TypeId} {size bytes : Nat} (hT : EL T E size bytes) (ty : TypeId) (v : Value) (n : Nat) (xs : List Value) (hown : w.ownsRow B E size v n xs) (ad : Option Addr) (m c : Nat) (news : List Value) (hs : SG w size ad m news)
    (h63 : n + m ≤ maxLen) (hbytes : (n + m) * bytes ≤ 140737488355328) (hB : B ≤ w.heap.size) :
    ∃ v' w', (Builtin.append_ #[T, T] ty #[v, .slice ad m c]).run Try.prog w = .ok v' w' ∧ w'.ownsRow B E size v' (n + m) (xs ++ news) ∧ w.grownBy w' v.ownBlock := by
  obtain ⟨i, z, hi, hz, h1, h2, h3⟩ := hT.info
  cases ad with
  | none =>
    have hm := hs.nil rfl
    subst hm
    have e : news = [] := List.eq_nil_of_length_eq_zero (by rw [hs.len, Nat.zero_mul])
    subst e
    rw [List.append_nil, Nat.add_zero]
    obtain ⟨hl, ⟨rfl, hn⟩ | ⟨g, cap, cur, rfl, hBg, hg, hn, r⟩⟩ := hown
    · subst hn
      exact ⟨_, w, by simp [Builtin.append_, run_underlying hT.ty, sizeOf, typeInfo, hi, Builtin.lenOf, Builtin.firstCells], ⟨hl, .inl ⟨rfl, rfl⟩⟩, ⟨rfl, rfl, rfl, Nat.le_refl _, fun _ _ _ => rfl⟩⟩
    · have := run_append_room_src (P := Try.prog) w T T ty E i hT.ty hi g 0 n cap (.slice none 0 c) 0 [] (Src.ofNil w hT.ty c) (by omega) (fun k hk => by simp at hk) (fun k hk => by simp at hk)
      exact ⟨_, w, by simpa [World.setCells] using this, ⟨hl, .inr ⟨g, cap, cur, rfl, hBg, hg, hn, r⟩⟩, ⟨rfl, rfl, rfl, Nat.le_refl _, fun _ _ _ => rfl⟩⟩
  | some ad =>
    obtain ⟨v', w', e1, e2, e3, _⟩ := run_append_own (P := Try.prog) w B T ty E i z size bytes hT.ty hi hz h1 h2 h3 hT.pos v n xs hown ad m c news hs.len (hs.at_ ad rfl) hs.one h63 hbytes hB
    exact ⟨v', w', e1, e2, e3⟩
section
variable {ops : Array Oper}
theorem wpList_appG {rest : List Oper} {o : Oper} {a : Act} {w : World} {Q : Exit → Act → World → Prop} (hgd : o.guard = none) (s x : Operand) (T : TypeId)
    (ho : o.op = .call { callee := .builtin .append, args := #[s, x], argTypes := #[T, T] }) {E : TypeId} {size bytes : Nat} (hT : EL T E size bytes) (B : Nat) (v : Value) (n : Nat) (xs : List Value) (hs : a.eval s = v) (hown : w.ownsRow B E size v n xs) (hB : B ≤ w.heap.size)
    (ad : Option Addr) (m c : Nat) (news : List Value) (hx : a.eval x = .slice ad m c) (hsc : SG w size ad m news) (h63 : n + m ≤ maxLen) (hbytes : (n + m) * bytes ≤ 140737488355328)
    (h : ∀ v' w', w'.ownsRow B E size v' (n + m) (xs ++ news) → w.grownBy w' v.ownBlock → wpList Try.prog ops Q rest (a.put o.dst v') w') : wpList Try.prog ops Q (o :: rest) a w := by
  obtain ⟨v', w', hr, h2, h3⟩ := run_appG hT o.type v n xs hown ad m c news hsc h63 hbytes hB
  refine wpList_plain hgd fun _ hK => ?_
  unfold Oper.wp execOp
  simp only [ho, resolve, invoke, builtin, Sem.run_bind, Sem.run_pure, Result.andThen_ok, List.map_toArray, List.map_cons, List.map_nil, hs, hx, hr]
  exact hK _ _ (h v' w' h2 h3)
theorem eOp_appG {i : Nat} {o : Oper} {a : Act} {w : World} {K : Act → World → Prop} (ho' : ops[i]? = some o) (hgd : o.guard = none) (s x : Operand) (T : TypeId)
    (ho : o.op = .call { callee := .builtin .append, args := #[s, x], argTypes := #[T, T] }) {E : TypeId} {size bytes : Nat} (hT : EL T E size bytes) (B : Nat) (v : Value) (n : Nat) (xs : List Value) (hs : a.eval s = v) (hown : w.ownsRow B E size v n xs) (hB : B ≤ w.heap.size)
    (ad : Option Addr) (m c : Nat) (news : List Value) (hx : a.eval x = .slice ad m c) (hsc : SG w size ad m news) (h63 : n + m ≤ maxLen) (hbytes : (n + m) * bytes ≤ 140737488355328)
    (h : ∀ v' w', w'.ownsRow B E size v' (n + m) (xs ++ news) → w.grownBy w' v.ownBlock → K (a.put o.dst v') w') : eOp Try.prog ops i K a w := by
  obtain ⟨v', w', hr, h2, h3⟩ := run_appG hT o.type v n xs hown ad m c news hsc h63 hbytes hB
  unfold eOp
  simp only [ho']
  rw [if_pos (by simp [Region.wanted, hgd])]
  unfold eOper execOp
  simp only [ho, resolve, invoke, builtin, Sem.run_bind, Sem.run_pure, Result.andThen_ok, List.map_toArray, List.map_cons, List.map_nil, hs, hx, hr, eUpon]
  exact h v' w' h2 h3
end
/-- a row that the call makes holds nothing that was there -/
theorem Bl.ownRow {B : Nat} {E : TypeId} {size : Nat} {w0 w w' : World} {v : Value} {n : Nat} {cs : List Value} (hb : Bl w0 w) (ho : w.ownsRow B E size v n cs) (hB : w0.heap.size ≤ B) (hg : w.grownBy w' v.ownBlock) : Bl w0 w' :=
  Below.grown hb hg hb.size (fun k hk => Nat.le_trans hB (World.ownsRow.lt ho k hk).1)
theorem own_lit {B : Nat} {E : TypeId} {size : Nat} {w : World} {cs : List Value} (hl : cs.length = 1 * size) (hB : B ≤ w.heap.size) : (w.alloc (.cells cs.toArray E)).ownsRow B E size (.slice (some ⟨w.heap.size, 0, none⟩) 1 1) 1 cs :=
  ⟨hl, .inr ⟨w.heap.size, 1, cs.toArray, rfl, hB, heap_alloc_new w _, Nat.le_refl _, by decide, by simp [hl], by simp [hl, List.take_of_length_le]⟩⟩
/-- the block that holds so many cells, in its own right -/
theorem SG.lit {w : World} {g size : Nat} {E : TypeId} {cs : List Value} (h : w.heap[g]? = some (.cells cs.toArray E (0, 0))) (hl : cs.length = 1 * size) (h1 : ∀ u ∈ cs, u.oneCell' = true) : SG w size (some ⟨g, 0, none⟩) 1 cs := by
  refine ⟨hl, fun ad e j u hu => ?_, fun e => (by cases e), h1⟩
  obtain rfl := Option.some.inj e
  rw [Addr.add_lit, Nat.zero_add, cell_of_row w g j _ E (0, 0) h]
  simpa using hu
theorem sg_ints {w : World} {a : Option Addr} {n : Nat} {xs : List Int} (h : IA w a n xs) : SG w 1 a n (xs.map (Value.int .i64)) := by
  refine ⟨by simp [h.len], fun ad e j u hu => ?_, fun e => ?_, fun u hu => by simp at hu; obtain ⟨x, _, rfl⟩ := hu; rfl⟩
  · have hjl : j < n := by
      have := (List.getElem?_eq_some_iff.1 hu).1
      simpa [h.len] using this
    obtain ⟨b, off, e', hc⟩ := h.cells j hjl
    rw [e] at e'
    obtain rfl := Option.some.inj e'
    have hjx : j < xs.length := by rw [h.len]; exact hjl
    simp [hjx] at hu
    rw [Addr.add_lit, hc j hjl, nth_eq hjx, hu]
  · subst e
    by_cases hn : 0 < n
    · obtain ⟨b, off, e', _⟩ := h.cells 0 hn
      cases e'
    · omega
end Go.Proofs.Ytdjlnpiaehoofaa
end

/- append to a row of one's own, behind which the old slice still reads as it did. By an AI agent. -/
section
namespace Go.Proofs.Ytdjlnpiaehoofaa
open Go.RowKit

theorem run_appK {w : World} {B : Nat} {T E : TypeId} {size bytes : Nat} (hT : EL T E size bytes) (ty : TypeId) (v : Value) (n : Nat) (xs : List Value) (hown : w.ownsRow B E size v n xs) (ad : Option Addr) (m c : Nat) (news : List Value) (hs : SG w size ad m news)
    (h63 : n + m ≤ maxLen) (hbytes : (n + m) * bytes ≤ 140737488355328) (hB : B ≤ w.heap.size) :
    ∃ v' w', (Builtin.append_ #[T, T] ty #[v, .slice ad m c]).run Try.prog w = .ok v' w' ∧ w'.ownsRow B E size v' (n + m) (xs ++ news) ∧ w.grownBy w' v.ownBlock ∧ w'.ownsRow B E size v n xs ∧ (∀ b, v'.ownBlock = some b → v.ownBlock = some b ∨ w.heap.size ≤ b) := by
  obtain ⟨i, z, hi, hz, h1, h2, h3⟩ := hT.info
  cases ad with
  | none =>
    have hm := hs.nil rfl
    subst hm
    have e : news = [] := List.eq_nil_of_length_eq_zero (by rw [hs.len, Nat.zero_mul])
    subst e
    rw [List.append_nil, Nat.add_zero]
    have hown' := hown
    obtain ⟨hl, ⟨rfl, hn⟩ | ⟨g, cap, cur, rfl, hBg, hg, hn, r⟩⟩ := hown
    · subst hn
      exact ⟨_, w, by simp [Builtin.append_, run_underlying hT.ty, sizeOf, typeInfo, hi, Builtin.lenOf, Builtin.firstCells], ⟨hl, .inl ⟨rfl, rfl⟩⟩, ⟨rfl, rfl, rfl, Nat.le_refl _, fun _ _ _ => rfl⟩, hown', fun b h => .inl h⟩
    · have := run_append_room_src (P := Try.prog) w T T ty E i hT.ty hi g 0 n cap (.slice none 0 c) 0 [] (Src.ofNil w hT.ty c) (by omega) (fun k hk => by simp at hk) (fun k hk => by simp at hk)
      exact ⟨_, w, by simpa [World.setCells] using this, ⟨hl, .inr ⟨g, cap, cur, rfl, hBg, hg, hn, r⟩⟩, ⟨rfl, rfl, rfl, Nat.le_refl _, fun _ _ _ => rfl⟩, hown', fun b h => .inl h⟩
  | some ad =>
    have hsz := hT.pos
    obtain ⟨v', w', e1, e2, e3, _⟩ := run_append_own (P := Try.prog) w B T ty E i z size bytes hT.ty hi hz h1 h2 h3 hT.pos v n xs hown ad m c news hs.len (hs.at_ ad rfl) hs.one h63 hbytes hB
    refine ⟨v', w', e1, e2, e3, ?_⟩
    have e1' := e1
    subst h1
    subst h2
    rcases hown.2 with ⟨rfl, rfl⟩ | ⟨g, cap, cur, rfl, hbg, hg, hnc, hcm, hcs, htake⟩
    · refine ⟨⟨hown.1, .inl ⟨rfl, rfl⟩⟩, fun b hb => .inr ?_⟩
      obtain ⟨v2, w2, d1, d2, _⟩ := run_append_own (P := Try.prog) w w.heap.size T ty E i z i.size i.bytes hT.ty hi hz rfl rfl h3 hT.pos (.slice none 0 0) 0 xs ⟨hown.1, .inl ⟨rfl, rfl⟩⟩ ad m c news hs.len (hs.at_ ad rfl) hs.one h63 hbytes (Nat.le_refl _)
      rw [d1] at e1'
      cases e1'
      exact (World.ownsRow.lt d2 b hb).1
    · by_cases hroom : n + m ≤ cap
      · have hfit : n * i.size + news.length ≤ cur.size := by rw [hs.len, hcs, ← Nat.add_mul]; exact Nat.mul_le_mul_right _ hroom
        have hr := run_append_room (P := Try.prog) w T ty E i hT.ty hi g n cap cur hg ad m c news hs.len (hs.at_ ad rfl) hs.one hroom hfit
        rw [hr] at e1
        cases e1
        have hx1 := hown.1
        refine ⟨⟨hown.1, .inr ⟨g, cap, _, rfl, hbg, setRow_heap w g cur _ E _ hg, hnc, hcm, ?_, ?_⟩⟩, fun b hb => .inl hb⟩
        · simp only [List.size_toArray, List.length_append, List.length_take, List.length_drop, Array.length_toList]
          omega
        · rw [htake, List.append_assoc, ← hx1]
          exact List.take_left
      · have holds : ∀ j u, xs[j]? = some u → w.cell? ((⟨g, 0, none⟩ : Addr).add j) = some u := hown.cells (g := g) rfl
        have hr := run_append_grow (P := Try.prog) w T ty E i z hT.ty hi hz ⟨g, 0, none⟩ n cap xs hown.1 holds ad m c news hs.len (hs.at_ ad rfl) (by omega) (by simp only [maxLen] at h63; omega) (growslice_fits (by omega) hbytes)
        rw [hr] at e1
        cases e1
        refine ⟨⟨hown.1, .inr ⟨g, cap, cur, rfl, hbg, ?_, hnc, hcm, hcs, htake⟩⟩, fun b hb => .inr (by simp [Value.ownBlock] at hb; omega)⟩
        rw [heap_alloc_old w.drew _ (lt_of_heap hg)]
        exact hg
section
variable {ops : Array Oper}
theorem wpList_appK {rest : List Oper} {o : Oper} {a : Act} {w : World} {Q : Exit → Act → World → Prop} (hgd : o.guard = none) (s x : Operand) (T : TypeId)
    (ho : o.op = .call { callee := .builtin .append, args := #[s, x], argTypes := #[T, T] }) {E : TypeId} {size bytes : Nat} (hT : EL T E size bytes) (B : Nat) (v : Value) (n : Nat) (xs : List Value) (hs : a.eval s = v) (hown : w.ownsRow B E size v n xs) (hB : B ≤ w.heap.size)
    (ad : Option Addr) (m c : Nat) (news : List Value) (hx : a.eval x = .slice ad m c) (hsc : SG w size ad m news) (h63 : n + m ≤ maxLen) (hbytes : (n + m) * bytes ≤ 140737488355328)
    (h : ∀ v' w', w'.ownsRow B E size v' (n + m) (xs ++ news) → w.grownBy w' v.ownBlock → w'.ownsRow B E size v n xs → (∀ b, v'.ownBlock = some b → v.ownBlock = some b ∨ w.heap.size ≤ b) → wpList Try.prog ops Q rest (a.put o.dst v') w') : wpList Try.prog ops Q (o :: rest) a w := by
  obtain ⟨v', w', hr, h2, h3, h4, h5⟩ := run_appK hT o.type v n xs hown ad m c news hsc h63 hbytes hB
  refine wpList_plain hgd fun _ hK => ?_
  unfold Oper.wp execOp
  simp only [ho, resolve, invoke, builtin, Sem.run_bind, Sem.run_pure, Result.andThen_ok, List.map_toArray, List.map_cons, List.map_nil, hs, hx, hr]
  exact hK _ _ (h v' w' h2 h3 h4 h5)
end
end Go.Proofs.Ytdjlnpiaehoofaa
end

/- vec.Leq, vec.Same. By an AI agent. -/
section
namespace Go.Proofs.Ytdjlnpiaehoofaa
open Go.RowKit

set_option maxHeartbeats 400000 in
theorem leq_any (a b : Option Addr) (n m ca cb : Nat) (xs ys : List Int) (w : World) (hx : IA w a n xs) (hy : IA w b m ys) :
    Calls Try.prog 15 #[.slice a n ca, .slice b m cb] w fun e w' => e = .returned (.bool (leqL xs ys)) ∧ w = w' := by
  have hx1 := hx.cap
  have hy1 := hy.cap
  by_cases hl : n = m
  · subst hl
    have HLL := Lib.hid (hx.len.trans hy.len.symm)
    have HX := Lib.hid hx.len
    have h2 : ((n : Int) != (n : Int)) = false := by simp
    go_enter Try.func15, Try.ntmps15
    go_wp2
    go_loop [14] (fun i => ∃ k : Nat, k ≤ n ∧ i = .int .i64 k ∧ ∀ j, j < k → nth xs j ≤ nth ys j) (fun i => n - (intOf i).toNat)
    case atStart => exact ⟨0, Nat.zero_le _, rfl, fun j h => by omega⟩
    case round =>
      obtain ⟨k, hk, rfl, hle⟩ := hrel
      have HLE := Lib.hid hle; clear hle
      by_cases hlt : k < n
      · obtain ⟨ba, oa, rfl, hca⟩ := hx.cells k hlt
        obtain ⟨bb, ob, rfl, hcb⟩ := hy.cells k hlt
        have ha := hca k hlt
        have hb := hcb k hlt
        clear hca hcb
        by_cases hgt : nth ys k < nth xs k
        · have HR := Lib.hid (leqL_false HLL.out (by rw [HX.out]; exact hlt) hgt)
          go_wp2
          go_ret
          exact ⟨ret_bool HR.out.symm, rfl⟩
        · go_wp2
          go_round
          case rel => exact ⟨k + 1, by omega, by go_num, fun j hj => by
            by_cases e : j = k
            · subst e; omega
            · exact HLE.out j (by omega)⟩
          case measure => simp [intOf]; omega
      · have HR := Lib.hid ((leqL_iff HLL.out).2 (fun j hj => HLE.out j (by rw [HX.out] at hj; omega)))
        go_wp2
        go_ret
        exact ⟨ret_bool HR.out.symm, rfl⟩
  · have h2 : ((n : Int) != (m : Int)) = true := by simp; omega
    have HR := Lib.hid (leqL_len (xs := xs) (ys := ys) (by rw [hx.len, hy.len]; exact hl))
    go_enter Try.func15, Try.ntmps15
    go_wp2
    go_ret
    exact ⟨ret_bool HR.out.symm, rfl⟩

set_option maxHeartbeats 400000 in
theorem equal_any (a b : Option Addr) (n m ca cb : Nat) (xs ys : List Int) (w : World) (hx : IA w a n xs) (hy : IA w b m ys) :
    Calls Try.prog 30 #[.slice a n ca, .slice b m cb] w fun e w' => e = .returned (.bool (decide (xs = ys))) ∧ Bl w w' := by
  have hx1 := hx.cap
  have hy1 := hy.cap
  by_cases hl : n = m
  · subst hl
    have HLL := Lib.hid (hx.len.trans hy.len.symm)
    have HX := Lib.hid hx.len
    have h2 : ((n : Int) != (n : Int)) = false := by simp
    go_enter Try.func30, Try.ntmps30
    go_wp2
    go_loopw [13] (fun i w' => ∃ k : Nat, k ≤ n ∧ i = .int .i64 k ∧ Bl w w' ∧ ∀ j, j < k → nth xs j = nth ys j) (fun i _ => n - (intOf i).toNat)
    case atStart => exact ⟨0, Nat.zero_le _, rfl, Bl.refl _, fun j h => by omega⟩
    case round =>
      obtain ⟨k, hk, rfl, hbl, hle⟩ := hrel
      have HLE := Lib.hid hle; clear hle
      by_cases hlt : k < n
      · obtain ⟨ba, oa, rfl, hca⟩ := hx.cells k hlt
        obtain ⟨bb, ob, rfl, hcb⟩ := hy.cells k hlt
        have ha := hbl.cell (hca k hlt)
        have hb := hbl.cell (hcb k hlt)
        clear hca hcb
        by_cases hgt : nth xs k = nth ys k
        · have hbo : (nth xs k != nth ys k) = false := by simp [hgt]
          have HE := Lib.hid hgt; clear hgt
          go_wp2
          go_quiet (fail)
          go_wp2
          go_roundw
          case rel => exact ⟨k + 1, by omega, by go_num, hbl.drewN _, fun j hj => by
            by_cases e : j = k
            · subst e; exact HE.out
            · exact HLE.out j (by omega)⟩
          case measure => simp [intOf]; omega
        · have hbo : (nth xs k != nth ys k) = true := by simp [hgt]
          have HR := Lib.hid (show decide (xs = ys) = false from decide_eq_false (fun e => hgt (by rw [e])))
          clear hgt
          go_wp2
          go_quiet (fail)
          go_wp2
          go_ret
          exact ⟨ret_bool HR.out.symm, hbl.drewN _⟩
      · have HR := Lib.hid (show decide (xs = ys) = true from decide_eq_true (getD_ext HLL.out (fun j hj => HLE.out j (by rw [HX.out] at hj; omega))))
        go_wp2
        go_ret
        exact ⟨ret_bool HR.out.symm, hbl⟩
  · have h2 : ((n : Int) != (m : Int)) = true := by simp; omega
    have HR := Lib.hid (show decide (xs = ys) = false from decide_eq_false (fun e => hl (by rw [← hx.len, ← hy.len, e])))
    go_enter Try.func30, Try.ntmps30
    go_wp2
    go_ret
    exact ⟨ret_bool HR.out.symm, Bl.refl _⟩

theorem same_any (a b : Option Addr) (n m ca cb : Nat) (xs ys : List Int) (w : World) (hx : IA w a n xs) (hy : IA w b m ys) :
    Calls Try.prog 16 #[.slice a n ca, .slice b m cb] w fun e w' => e = .returned (.bool (decide (xs = ys))) ∧ Bl w w' := by
  go_enter Try.func16, Try.ntmps16
  go_wp2_with fail
  refine (equal_any a b n m ca cb xs ys _ hx hy).mono ?_
  rintro e w' ⟨rfl, hb⟩
  go_wp2
  go_ret
  exact ⟨rfl, hb⟩

end Go.Proofs.Ytdjlnpiaehoofaa
end

/- rows of versions that a call makes out of versions that lie before it; fold.Read. By an AI agent. -/
section
set_option linter.unusedVariables false
set_option linter.unusedSimpArgs false
namespace Go.Proofs.Ytdjlnpiaehoofaa
open Go.RowKit

theorem el_vr : EL 22 35 8 96 := el_of (by kernel_rfl) (by kernel_rfl) (by decide)
/-- a row of versions whose lists lay in W0 -/
structure SV (W0 W : World) (v : Value) (xs : List VC) : Prop where
  own : OVS W0.heap.size W v xs.length (flat xs)
  els : ∀ x ∈ xs, IA W0 x.ad x.n x.at_ ∧ x.act.Ok
theorem SV.nil (W0 W : World) : SV W0 W (.slice none 0 0) [] := ⟨World.ownsRow_nil _ _ _ _, fun x hx => by cases hx⟩
theorem SV.keep {W0 W W' : World} {v : Value} {xs : List VC} (h : SV W0 W v xs) (hb : Bl W W') : SV W0 W' v xs := ⟨h.own.keep hb, h.els⟩
theorem flat_one (y : VC) : flat [y] = y.cs := by rw [flat_cons]; exact List.append_nil _
theorem SV.push {W0 W W' : World} {v v' : Value} {xs : List VC} {y : VC} (h : SV W0 W v xs) (hy : IA W0 y.ad y.n y.at_) (hok : y.act.Ok) (ho : OVS W0.heap.size W' v' (xs.length + 1) (flat xs ++ y.cs)) : SV W0 W' v' (xs ++ [y]) := by
  refine ⟨?_, fun x hx => ?_⟩
  · rw [List.length_append, flat_append, flat_one]; exact ho
  · rcases List.mem_append.1 hx with q | q
    · exact h.els x q
    · rw [List.mem_singleton] at q; subst q; exact ⟨hy, hok⟩
/-- two rows in two blocks -/
def APt (u v : Value) : Prop := ∀ b, v.ownBlock = some b → u.ownBlock = some b → False
theorem APt.symm {u v : Value} (h : APt u v) : APt v u := fun b e q => h b q e
theorem SV.other {W0 W W' : World} {u v : Value} {ys : List VC} (h : SV W0 W u ys) (hg : W.grownBy W' v.ownBlock) (hne : APt u v) : SV W0 W' u ys :=
  ⟨((Fr.refl (fun b => v.ownBlock = some b) W).grown hg (fun i e => e)).own h.own (fun b e q => hne b q e), h.els⟩
theorem SV.apart {W0 W : World} {u v v' : Value} {ys : List VC} (h : SV W0 W u ys) (hne : APt u v) (hb : ∀ b, v'.ownBlock = some b → v.ownBlock = some b ∨ W.heap.size ≤ b) : APt u v' := fun b e q => by
  rcases hb b e with k | k
  · exact hne b k q
  · have := (World.ownsRow.lt h.own b q).2; omega
theorem SV.grown {W0 W W' : World} {v : Value} {xs : List VC} (h : SV W0 W v xs) (hb : Bl W0 W) (hg : W.grownBy W' v.ownBlock) : Bl W0 W' := Bl.grownRow hb h.own (Nat.le_refl _) hg
theorem SV.va {W0 W : World} {v : Value} {xs : List VC} (h : SV W0 W v xs) (hb : Bl W0 W) {n : Nat} (hn : xs.length = n) (hc : n ≤ 140737488351232) : ∃ a ca, v = .slice a n ca ∧ VA W a n (xs.map VC.ver) := by
  subst hn
  have ho := h.own
  obtain ⟨h1, ⟨rfl, h2⟩ | ⟨g, cap, cur, rfl, hB, hg, hc1, hm, hs, ht⟩⟩ := h.own
  · refine ⟨none, 0, by rw [h2], ⟨by rw [List.length_map], hc, fun j hj => absurd hj (by omega)⟩⟩
  · refine ⟨_, cap, rfl, ?_⟩
    have hr : RW W0 W g (xs ++ []) := by
      rw [List.append_nil]
      refine ⟨hb, hB, ⟨cur.toList.drop (xs.length * 8), ⟨35, ?_⟩⟩, fun x hx => ?_⟩
      · rw [hg, ← ht, List.take_append_drop]
      · obtain ⟨f, k⟩ := h.els x hx
        refine ⟨f.keep hb, k, ?_⟩
        by_cases h0 : x.n = 0
        · exact .inl h0
        · refine .inr fun b off e q => ?_
          obtain ⟨b2, off2, e2, hcell⟩ := f.cells 0 (by omega)
          rw [e] at e2
          simp only [Option.some.injEq, Addr.mk.injEq] at e2
          have hlt := World.block_lt_of_cell? _ _ (hcell 0 (by omega))
          simp at hlt
          omega
    exact hr.va rfl hc
theorem take_filter {α : Type} (p : α → Bool) (l : List α) (x : α) (k : Nat) (h : l.take (k + 1) = l.take k ++ [x]) : (l.take (k + 1)).filter p = if p x then (l.take k).filter p ++ [x] else (l.take k).filter p := by
  rw [h, List.filter_append]
  by_cases q : p x = true
  · rw [if_pos q, List.filter_cons_of_pos q]; rfl
  · rw [if_neg q, List.filter_cons_of_neg q]; simp
set_option maxHeartbeats 3200000 in
set_option maxRecDepth 100000 in
theorem fread_any (key : ByteArray) (a : Option Addr) (n ca : Nat) (vs : List VerL) (fa : Option Addr) (fn fc : Nat) (at_ : List Int) (w : World) (hkey : key.size ≤ 140737488351232) (hv : VA w a n vs) (hn1 : n ≤ 1000) (hf : IA w fa fn at_) :
    Calls Try.prog 14 #[.string key, .slice a n ca, .slice fa fn fc] w fun e w' => e = .returned (ValL.v (readL key vs at_)) ∧ Bl w w' := by
  have hsf := store_fl
  have hbx : Bl w (w.alloc (.cells #[.bool false, .float .f64 0, .int .i64 0, .string ⟨#[]⟩] 38)) := (Bl.refl w).alloc _
  have hac := AC.new w w.heap.size rfl [.bool false, .float .f64 0, .int .i64 0, .string ⟨#[]⟩] 38
  go_enter Try.func14, Try.ntmps14
  go_wp2_with fail
  refine (fOrder_any a n ca vs _ (hv.keep hbx) hn1).mono ?_
  rintro e W0 ⟨a0, m, c0, rfl, hv0, hb0⟩
  have HW := Lib.hid (hbx.trans hb0)
  have HF := Lib.hid (hf.keep (hbx.trans hb0))
  have HAC := Lib.hid (hac.keep hb0)
  have hmn : m ≤ 1000 := by rw [← hv0.len]; exact Nat.le_trans (order_len _) (by rw [hv.len]; exact hn1)
  obtain ⟨os, hos⟩ : ∃ os, orderOf vs = os := ⟨_, rfl⟩
  rw [hos] at hv0
  have HOS := Lib.hid hos
  have HL := Lib.hid hv0.len
  clear hb0 hf hos hv hac hbx
  go_wp2_with fail
  go_loopw [7, 13] (fun sv iv wr => ∃ (k : Nat) (xs : List VC), k ≤ m ∧ xs.map VC.ver = (os.take k).filter (leqV at_) ∧ SV W0 wr sv xs ∧ Bl W0 wr ∧ iv = .int .i64 (k : Int)) (fun _ iv _ => m - (intOf iv).toNat)
  case atStart => exact ⟨0, [], Nat.zero_le _, by rw [List.take_zero]; rfl, SV.nil _ _, Bl.refl _, by go_num⟩
  case round =>
    obtain ⟨k, xs, hk, hm, hsv, hbw, rfl⟩ := hrel
    have HM := Lib.hid hm
    have HS := Lib.hid hsv
    have HB := Lib.hid hbw
    have hxl : xs.length ≤ k := by
      have h1 := congrArg List.length HM.out
      rw [List.length_map] at h1
      have h2 := List.length_filter_le (leqV at_) (os.take k)
      rw [List.length_take] at h2
      omega
    clear hm hsv hbw
    by_cases hlt : k < m
    · obtain ⟨b, off, rfl, hc⟩ := hv0.cells k hlt
      have E0 := hc k hlt
      have E := E0.keep HB.out
      have HT := Lib.hid (take_filter (leqV at_) os _ k (take_nthR (vs := os) (k := k) (by rw [HL.out]; exact hlt)))
      obtain ⟨V, hV⟩ : ∃ V, nthR os k = V := ⟨_, rfl⟩
      rw [hV] at E E0 HT
      clear hV hc
      have HA := Lib.hid E.ok
      obtain ⟨va, vn, vc, e1', hI⟩ := E0.at_
      have e1 := HB.out.cell e1'
      have HI := Lib.hid hI
      have ba : Bl wr (wr.alloc (.cells #[.string V.key, .slice va vn vc, .int .i64 V.origin, .int .i64 V.tx, .int .i64 V.act.k, .float .f64 V.act.x, .int .i64 V.act.n, .string V.act.s] 35)) := (Bl.refl wr).alloc _
      have hx := AC.new wr wr.heap.size rfl [.string V.key, .slice va vn vc, .int .i64 V.origin, .int .i64 V.tx, .int .i64 V.act.k, .float .f64 V.act.x, .int .i64 V.act.n, .string V.act.s] 35
      obtain ⟨v0, v1, v2, v3, v4, v5, v6, v7⟩ := AC.ver (key := V.key) (a := va) (n := vn) (ca := vc) (o := V.origin) (t := V.tx) (k := V.act.k) (x := V.act.x) (m := V.act.n) (s := V.act.s) hx
      have HIA := Lib.hid (hI.keep (HB.out.trans ba))
      have HFA := Lib.hid (HF.out.keep (HB.out.trans ba))
      have HSA := Lib.hid (HS.out.keep ba)
      have HBA := Lib.hid (HB.out.trans ba)
      clear hx ba
      have e0 := E.c0
      have e2 := E.c2
      have e3 := E.c3
      have e4 := E.c4
      have e5 := E.c5
      have e6 := E.c6
      have e7 := E.c7
      clear hI E E0 e1'
      obtain ⟨r, hr⟩ : ∃ r, leqL V.at_ at_ = r := ⟨_, rfl⟩
      have HR := Lib.hid hr
      clear hr
      clear HS HB
      go_wp2_with fail
      clear e0 e1 e2 e3 e4 e5 e6 e7
      refine (leq_any va fa vn fn vc fc V.at_ at_ _ HIA.out HFA.out).mono ?_
      rintro e w2 ⟨rfl, rfl⟩
      rw [HR.out]
      cases r
      case false =>
        have HN := Lib.hid (show (os.take (k + 1)).filter (leqV at_) = (os.take k).filter (leqV at_) by rw [HT.out, if_neg (by show ¬ leqL V.at_ at_ = true; rw [HR.out]; decide)])
        go_wp2_with fail
        go_roundw
        case rel => exact ⟨k + 1, xs, by omega, by rw [HN.out]; exact HM.out, HSA.out, HBA.out, by go_num⟩
        case measure => simp [intOf]; omega
      case true =>
        have HN := Lib.hid (show (os.take (k + 1)).filter (leqV at_) = (os.take k).filter (leqV at_) ++ [V] by rw [HT.out]; exact if_pos HR.out)
        clear HIA HFA HT HR
        generalize wr.heap.size = gv at *
        generalize wr.alloc _ = wa at *
        have HSB := Lib.hid (HSA.out.keep ((Bl.refl wa).alloc (.cells #[.string V.key, .slice va vn vc, .int .i64 V.origin, .int .i64 V.tx, .int .i64 V.act.k, .float .f64 V.act.x, .int .i64 V.act.n, .string V.act.s] 35)))
        have HBB := Lib.hid (HBA.out.alloc (.cells #[.string V.key, .slice va vn vc, .int .i64 V.origin, .int .i64 V.tx, .int .i64 V.act.k, .float .f64 V.act.x, .int .i64 V.act.n, .string V.act.s] 35))
        have HLT := Lib.hid (SG.lit (heap_alloc_new wa (.cells #[.string V.key, .slice va vn vc, .int .i64 V.origin, .int .i64 V.tx, .int .i64 V.act.k, .float .f64 V.act.x, .int .i64 V.act.n, .string V.act.s] 35)) (show [.string V.key, .slice va vn vc, .int .i64 V.origin, .int .i64 V.tx, .int .i64 V.act.k, .float .f64 V.act.x, .int .i64 V.act.n, .string V.act.s].length = 1 * 8 from rfl) (by simp [Value.oneCell']))
        go_wp2_with (at_builtin; refine wpList_appK rfl _ _ _ rfl el_vr W0.heap.size _ _ _ rfl HSB.out.own ?cB _ 1 1 _ rfl HLT.out ?cM ?cN ?_)
        case cB => exact HBB.out.size
        case cM => have := hxl; unfold maxLen; omega
        case cN => have := hxl; omega
        intro vq w3 ho3 hg3 hz1 hz2
        clear hz1 hz2
        have HS3 := Lib.hid (HSB.out.push (y := ⟨V.key, va, vn, vc, V.at_, V.origin, V.tx, V.act⟩) HI.out HA.out ho3)
        have HB3 := Lib.hid (HSB.out.grown HBB.out hg3)
        clear ho3 hg3 HSB HBB HLT HSA HBA v0 v1 v2 v3 v4 v5 v6 v7
        go_wp2_with fail
        go_roundw
        case rel => exact ⟨k + 1, xs ++ [⟨V.key, va, vn, vc, V.at_, V.origin, V.tx, V.act⟩], by omega, by rw [List.map_append, HM.out, HN.out]; rfl, HS3.out, HB3.out, by go_num⟩
        case measure => simp [intOf]; omega
    · have HO := Lib.hid (show xs.map VC.ver = os.filter (leqV at_) by rw [HM.out, List.take_of_length_le (by rw [HL.out]; omega)])
      obtain ⟨xn, hxn⟩ : ∃ xn, xs.length = xn := ⟨_, rfl⟩
      obtain ⟨sa, sc, rfl, hva⟩ := HS.out.va HB.out hxn (by omega)
      have HV := Lib.hid hva
      clear hva HM
      have HE := Lib.hid (show readL key vs at_ = valueL key (xs.map VC.ver) by unfold readL; rw [HOS.out, HO.out])
      have HACW := Lib.hid (HAC.out.keep HB.out)
      have HWW := Lib.hid (HW.out.trans HB.out)
      clear HS HO HAC HW HOS
      go_wp2_with fail
      refine (value_any key sa xn sc _ wr hkey HV.out).mono ?_
      rintro e w2 ⟨rfl, hb2⟩
      have HAC2 := Lib.hid (HACW.out.keep hb2)
      have HB2 := Lib.hid (HWW.out.trans hb2)
      clear hb2 HACW HWW
      rw [← HE.out]
      obtain ⟨⟨rb, rx, rn, rz⟩, hr⟩ : ∃ r, readL key vs at_ = r := ⟨_, rfl⟩
      have HQ := Lib.hid hr
      rw [hr]
      clear hr HE HV
      unfold ValL.v
      have c0 := HAC2.out.cell 0 _ rfl
      have c1 := HAC2.out.cell 1 _ rfl
      have c2 := HAC2.out.cell 2 _ rfl
      have c3 := HAC2.out.cell 3 _ rfl
      have fz := HAC2.out.frozen
      go_wp2_with fail
      have E := (((HAC2.out.putj 0 (.bool rb)).putj 1 (.float .f64 rx)).putj 2 (.int .i64 rn)).putj 3 (.string rz)
      have d0 := E.cell 0 _ rfl
      have d1 := E.cell 1 _ rfl
      have d2 := E.cell 2 _ rfl
      have d3 := E.cell 3 _ rfl
      refine bodyPost_ret (v := .agg #[.bool rb, .float .f64 rx, .int .i64 rn, .string rz]) (by simp [results, Try.results14, go_sem, d0, d1, d2, d3]) rfl ⟨by rw [HQ.out]; rfl, ?_⟩
      exact (((HB2.out.setCell (p := ⟨w.heap.size, 0, none⟩) (Nat.le_refl _) _).setCell (p := ⟨w.heap.size, 1, none⟩) (Nat.le_refl _) _).setCell (p := ⟨w.heap.size, 2, none⟩) (Nat.le_refl _) _).setCell (p := ⟨w.heap.size, 3, none⟩) (Nat.le_refl _) _
end Go.Proofs.Ytdjlnpiaehoofaa
end

/- slices.Min; what lastOf asks of what stays. By an AI agent. -/
section
set_option linter.unusedVariables false
set_option linter.unusedSimpArgs false
namespace Go.Proofs.Ytdjlnpiaehoofaa
open Go.RowKit
attribute [local go_sem] eOp eOper eUpon

theorem minV_take {xs : List Int} {k : Nat} (h1 : 1 ≤ k) (h : k < xs.length) : minV (xs.take (k + 1)) = min (minV (xs.take k)) (nth xs k) := by
  cases xs with
  | nil => simp at h
  | cons x xs =>
    obtain ⟨j, rfl⟩ : ∃ j, k = j + 1 := ⟨k - 1, by omega⟩
    simp only [List.take_succ_cons, minV]
    have hj : j < xs.length := by simpa using h
    rw [List.take_succ_eq_append_getElem hj, List.foldl_append]
    simp [nth, List.getD, hj]
set_option maxHeartbeats 800000 in
theorem minS_any (a : Option Addr) (n ca : Nat) (xs : List Int) (w : World) (hx : IA w a n xs) (h0 : 0 < n) :
    Calls Try.prog 43 #[.slice a n ca] w fun e w' => e = .returned (.int .i64 (minV xs)) ∧ w = w' := by
  have HX := Lib.hid hx.len
  have hnb := hx.cap
  obtain ⟨ba, oa, rfl, hc0⟩ := hx.at_k 0 h0
  have hn1 : ¬ ((n : Int) < 1) := by omega
  have hn2 : (0 : Int) < (n : Int) := by omega
  have hc1 : w.cell? ⟨ba, oa, none⟩ = some (.int .i64 (nth xs 0)) := hc0
  go_enter Try.func43, Try.ntmps43
  go_wp2_with fail
  go_loop [3, 4] (fun v i => ∃ k : Nat, 1 ≤ k ∧ k ≤ n ∧ i = .int .i64 k ∧ v = .int .i64 (minV (xs.take k))) (fun _ i => n - (intOf i).toNat)
  case atStart =>
    refine ⟨1, Nat.le_refl _, h0, rfl, ?_⟩
    have hl := HX.out
    cases xs with
    | nil => simp at hl; omega
    | cons x xs => rfl
  case round =>
    clear hc0 hc1
    obtain ⟨k, h1, hk, rfl, rfl⟩ := hrel
    by_cases hlt : k < n
    · obtain ⟨b2, o2, e2, hck⟩ := hx.at_k k hlt
      simp only [Option.some.injEq, Addr.mk.injEq] at e2
      obtain ⟨rfl, rfl, _⟩ := e2
      have HM := Lib.hid (minV_take h1 (xs := xs) (k := k) (by rw [HX.out]; exact hlt))
      go_wp2_with fail
      go_round
      case rel => exact ⟨k + 1, by omega, by omega, by go_num, by rw [HM.out]⟩
      case measure => simp [intOf]; omega
    · have HE : Hid (xs.take k = xs) := Lib.hid (List.take_of_length_le (by have := HX.out; omega))
      go_wp2_with fail
      go_ret
      exact ⟨ret_int (by rw [HE.out]), rfl⟩
theorem VOk.of {W : World} {v : VC} (h : IA W v.ad v.n v.at_) (k : v.act.Ok) : VOk W W.heap.size v := by
  refine ⟨h, k, ?_⟩
  by_cases h0 : v.n = 0
  · exact .inl h0
  · refine .inr fun b off e q => ?_
    obtain ⟨b2, off2, e2, hcell⟩ := h.cells 0 (by omega)
    rw [e] at e2
    simp only [Option.some.injEq, Addr.mk.injEq] at e2
    have hlt := World.block_lt_of_cell? _ _ (hcell 0 (by omega))
    simp at hlt
    omega
/-- does v come later than x -/
def lateB (x v : VerL) : Bool := decide (orderL x v < 0)
set_option maxHeartbeats 1600000 in
set_option maxRecDepth 100000 in
theorem late_any (x y : VC) (g : Nat) (w : World) (hx : AC w g x.cs) (hxi : IA w x.ad x.n x.at_) (hyi : IA w y.ad y.n y.at_) (hxo : x.act.Ok) (hyo : y.act.Ok) :
    Calls Try.prog 41 #[.agg #[.string y.key, .slice y.ad y.n y.ca, .int .i64 y.origin, .int .i64 y.tx, .int .i64 y.act.k, .float .f64 y.act.x, .int .i64 y.act.n, .string y.act.s], .pointer (some ⟨g, 0, none⟩)] w fun e w' => e = .returned (.bool (lateB x.ver y.ver)) ∧ Bl w w' := by
  have hb := (Bl.refl w).alloc (.cells y.cs.toArray 35)
  have hg := AC.new w w.heap.size rfl y.cs 35
  have HXA := Lib.hid (hx.keep hb)
  have HXI := Lib.hid (hxi.keep hb)
  have HYI := Lib.hid (hyi.keep hb)
  obtain ⟨R, hR⟩ : ∃ R, orderL x.ver y.ver = R := ⟨_, rfl⟩
  have HR := Lib.hid hR
  unfold VC.cs at *
  obtain ⟨x0, x1, x2, x3, x4, x5, x6, x7⟩ := AC.ver HXA.out
  obtain ⟨y0, y1, y2, y3, y4, y5, y6, y7⟩ := AC.ver hg
  unfold verC at *
  have HB := Lib.hid hb
  clear hx hxi hyi hg hb hR
  go_enter Try.func41, Try.ntmps41
  go_wp2_with fail
  refine (forder_w x y R _ (VOk.of HXI.out hxo) ⟨HYI.out, hyo, (VOk.of HYI.out hyo).far⟩ HR).mono ?_
  rintro e w2 ⟨rfl, hb2⟩
  go_wp2_with fail
  go_ret
  exact ⟨ret_bool (by unfold lateB; rw [HR.out]), HB.out.trans hb2⟩
set_option maxHeartbeats 1600000 in
set_option maxRecDepth 100000 in
theorem indexL_any (x : VC) (g : Nat) (a : Option Addr) (n ca : Nat) (vs : List VerL) (w : World) (hx : AC w g x.cs) (hxi : IA w x.ad x.n x.at_) (hxo : x.act.Ok) (hv : VA w a n vs) :
    Calls Try.prog 56 #[.slice a n ca, .func (.func 41) #[] #[.pointer (some ⟨g, 0, none⟩)]] w fun e w' => ∃ k : Int, e = .returned (.int .i64 k) ∧ (k ≥ 0 ↔ vs.any (lateB x.ver) = true) ∧ Bl w w' := by
  have hcap := hv.cap
  have HL := Lib.hid hv.len
  have HX := Lib.hid hx
  have HXI := Lib.hid hxi
  clear hx hxi
  go_enter Try.func56, Try.ntmps56
  go_wp2_with fail
  go_loopw [8] (fun i wr => ∃ k : Nat, k ≤ n ∧ i = .int .i64 k ∧ Bl w wr ∧ ∀ j, j < k → lateB x.ver (nthR vs j) = false) (fun i _ => n - (intOf i).toNat)
  case atStart => exact ⟨0, Nat.zero_le _, by go_num, Bl.refl _, fun j hj => absurd hj (Nat.not_lt_zero _)⟩
  case round =>
    obtain ⟨k, hk, rfl, hbl, hok⟩ := hrel
    have HBL := Lib.hid hbl
    have HOK := Lib.hid hok
    clear hbl hok
    by_cases hlt : k < n
    · obtain ⟨b, off, rfl, hc⟩ := hv.cells k hlt
      have E := (hc k hlt).keep HBL.out
      obtain ⟨V, hV⟩ : ∃ V, nthR vs k = V := ⟨_, rfl⟩
      rw [hV] at E
      have HV := Lib.hid hV
      clear hV hc
      obtain ⟨va, vn, vc, e1, hI⟩ := E.at_
      have e0 := E.c0
      have e2 := E.c2
      have e3 := E.c3
      have e4 := E.c4
      have e5 := E.c5
      have e6 := E.c6
      have e7 := E.c7
      have HA := Lib.hid E.ok
      have HI := Lib.hid hI
      clear hI E
      go_wp2_with fail
      refine (late_any x ⟨V.key, va, vn, vc, V.at_, V.origin, V.tx, V.act⟩ g _ (HX.out.keep HBL.out) (HXI.out.keep HBL.out) HI.out hxo HA.out).mono ?_
      rintro e w1 ⟨rfl, hb1⟩
      have HB1 := Lib.hid (HBL.out.trans hb1)
      clear e0 e1 e2 e3 e4 e5 e6 e7 hb1
      obtain ⟨r, hr⟩ : ∃ r, lateB x.ver V = r := ⟨_, rfl⟩
      have hr2 : lateB x.ver (VC.ver ⟨V.key, va, vn, vc, V.at_, V.origin, V.tx, V.act⟩) = r := hr
      rw [hr2]
      clear hr2
      have HF := Lib.hid hr
      clear hr
      cases r
      · go_wp2_with fail
        go_roundw
        case rel => exact ⟨k + 1, by omega, by go_num, HB1.out, fun j hj => by
            by_cases e : j = k
            · subst e; rw [HV.out]; exact HF.out
            · exact HOK.out j (by omega)⟩
        case measure => simp [intOf]; omega
      · go_wp2_with fail
        go_ret
        refine ⟨(k : Int), rfl, ⟨fun _ => ?_, fun _ => by omega⟩, HB1.out⟩
        rw [List.any_eq_true]
        exact ⟨V, by rw [← HV.out, nthR_eq (by rw [HL.out]; exact hlt)]; exact List.getElem_mem _, HF.out⟩
    · have hkn : k = n := by omega
      subst hkn
      go_wp2_with fail
      go_ret
      refine ⟨-1, rfl, ⟨fun h => by omega, fun h => ?_⟩, HBL.out⟩
      obtain ⟨t, ht, hof⟩ := List.any_eq_true.1 h
      obtain ⟨j, hj, rfl⟩ := List.getElem_of_mem ht
      have := HOK.out j (by rw [← HL.out]; exact hj)
      rw [nthR_eq hj, hof] at this
      cases this
theorem containsL_any (x : VC) (g : Nat) (a : Option Addr) (n ca : Nat) (vs : List VerL) (w : World) (hx : AC w g x.cs) (hxi : IA w x.ad x.n x.at_) (hxo : x.act.Ok) (hv : VA w a n vs) :
    Calls Try.prog 40 #[.slice a n ca, .func (.func 41) #[] #[.pointer (some ⟨g, 0, none⟩)]] w fun e w' => e = .returned (.bool (vs.any (lateB x.ver))) ∧ Bl w w' := by
  go_enter Try.func40, Try.ntmps40
  go_wp2_with fail
  refine (indexL_any x g a n ca vs _ hx hxi hxo hv).mono ?_
  rintro e w' ⟨k, rfl, hk, hb⟩
  have HK := Lib.hid hk
  clear hk
  go_wp2_with fail
  go_ret
  refine ⟨ret_bool ?_, hb⟩
  have := HK.out
  cases hq : vs.any (lateB x.ver)
  · rw [hq] at this; simp at this ⊢; omega
  · rw [hq] at this; simp at this ⊢; omega
end Go.Proofs.Ytdjlnpiaehoofaa
end

/- fold.lastOf. By an AI agent. -/
section
set_option linter.unusedVariables false
set_option linter.unusedSimpArgs false
namespace Go.Proofs.Ytdjlnpiaehoofaa
open Go.RowKit
attribute [local go_sem] eOp eOper eUpon

set_option maxHeartbeats 3200000 in
set_option maxRecDepth 100000 in
theorem flast_any (sa : Option Addr) (sn sc : Nat) (stay : List VerL) (ea : Option Addr) (en ec : Nat) (seen : List VerL) (fa : Option Addr) (fn fc : Nat) (floor : List Int) (all : Bool) (first : VerL) (rest : List VerL) (w : World)
    (hs : VA w sa sn stay) (he : VA w ea en seen) (hf : IA w fa fn floor) (h0 : 0 < fn) (hse : seen = first :: rest) (hec : en ≤ ec) :
    Calls Try.prog 23 #[.slice sa sn sc, .slice ea en ec, .slice fa fn fc, .bool all] w fun e w' => e = .returned (if goneL stay first floor all then .slice none 0 0 else .slice ea 1 ec) ∧ Bl w w' := by
  have hsf := store_fl
  have hen : 0 < en := by have := he.len; rw [hse] at this; simp at this; omega
  obtain ⟨b, off, rfl, hc⟩ := he.cells 0 hen
  have E := hc 0 hen
  have hV : nthR seen 0 = first := by rw [hse]; rfl
  rw [hV] at E
  obtain ⟨va, vn, vc, e1, hI⟩ := E.at_
  rw [Nat.zero_mul, Nat.add_zero] at *
  have e0 := E.c0
  have e2 := E.c2
  have e3 := E.c3
  have e4 := E.c4
  have e5 := E.c5
  have e6 := E.c6
  have e7 := E.c7
  have hb := (Bl.refl w).alloc (.cells #[.string first.key, .slice va vn vc, .int .i64 first.origin, .int .i64 first.tx, .int .i64 first.act.k, .float .f64 first.act.x, .int .i64 first.act.n, .string first.act.s] 35)
  have hg := AC.new w w.heap.size rfl [.string first.key, .slice va vn vc, .int .i64 first.origin, .int .i64 first.tx, .int .i64 first.act.k, .float .f64 first.act.x, .int .i64 first.act.n, .string first.act.s] 35
  have HX := Lib.hid hg
  have HI := Lib.hid (hI.keep hb)
  have HS := Lib.hid (hs.keep hb)
  have HF := Lib.hid (hf.keep hb)
  have HB := Lib.hid hb
  have HO := Lib.hid E.ok
  have HSL := Lib.hid hs.len
  obtain ⟨u0, u1, u2, u3, u4, u5, u6, u7⟩ := AC.ver (key := first.key) (a := va) (n := vn) (ca := vc) (o := first.origin) (t := first.tx) (k := first.act.k) (x := first.act.x) (m := first.act.n) (s := first.act.s) hg
  clear hg hI hs hf hb E hV hc he
  obtain ⟨r, hr⟩ : ∃ r, stay.any (lateB first) = r := ⟨_, rfl⟩
  obtain ⟨T, hT⟩ : ∃ T, timeL first = T := ⟨_, rfl⟩
  obtain ⟨M, hM⟩ : ∃ M, minV floor = M := ⟨_, rfl⟩
  have HG := Lib.hid (show goneL stay first floor all = (all && (decide (first.act.k = 4) && (decide (T ≤ M) && !r))) by unfold goneL; rw [hT, hM, ← hr]; rfl)
  have HT := Lib.hid (show timeL ⟨first.key, first.at_, first.origin, first.tx, ⟨first.act.k, first.act.x, first.act.n, first.act.s⟩⟩ = T from hT)
  have HR := Lib.hid hr
  have HM := Lib.hid hM
  clear hr hT hM hse
  obtain ⟨res, hres⟩ : ∃ res, (if goneL stay first floor all then Value.slice none 0 0 else .slice (some ⟨b, off, none⟩) 1 ec) = res := ⟨_, rfl⟩
  rw [hres]
  rw [HG.out] at hres
  have HRES := Lib.hid hres
  clear hres HG
  obtain ⟨kb, hkb⟩ : ∃ kb, (first.act.k == 4) = kb := ⟨_, rfl⟩
  obtain ⟨tb, htb⟩ : ∃ tb, decide (T ≤ M) = tb := ⟨_, rfl⟩
  have HKB := Lib.hid (show decide (first.act.k = 4) = kb by rw [← hkb]; rfl)
  go_enter Try.func23, Try.ntmps23
  by_cases hs0 : sn = 0
  · subst hs0
    have HR0 := Lib.hid (show r = false by rw [← HR.out, List.eq_nil_of_length_eq_zero HSL.out]; rfl)
    have HB2 := HB
    have HI2 := HI
    have HF2 := HF
    cases all
    case false =>
      have HE := Lib.hid (show res = .slice (some ⟨b, off, none⟩) 1 ec from HRES.out.symm)
      go_wp2_with fail
      go_ret
      exact ⟨by rw [HE.out]; rfl, HB2.out⟩
    case true =>
      cases kb
      case false =>
        have HE := Lib.hid (show res = .slice (some ⟨b, off, none⟩) 1 ec by rw [← HRES.out, HKB.out]; rfl)
        go_wp2_with fail
        go_ret
        exact ⟨by rw [HE.out]; rfl, HB2.out⟩
      case true =>
        go_wp2_with fail
        refine (ftime_any first.key va vn vc first.at_ first.origin first.tx first.act.k first.act.x first.act.n first.act.s T _ HI2.out HT).mono ?_
        rintro e w3 ⟨rfl, hb3⟩
        have HB3 := Lib.hid (HB2.out.trans hb3)
        have HF3 := Lib.hid (HF2.out.keep hb3)
        clear hb3
        go_wp2_with fail
        refine (minS_any fa fn fc floor _ HF3.out h0).mono ?_
        rintro e w4 ⟨rfl, rfl⟩
        rw [HM.out]
        cases tb
        case false =>
          have HE := Lib.hid (show res = .slice (some ⟨b, off, none⟩) 1 ec by rw [← HRES.out, HKB.out, htb]; rfl)
          go_wp2_with fail
          go_ret
          exact ⟨by rw [HE.out]; rfl, HB3.out⟩
        case true =>
          obtain rfl : r = false := HR0.out
          have HE := Lib.hid (show res = .slice none 0 0 by rw [← HRES.out, HKB.out, htb]; rfl)
          go_wp2_with fail
          go_ret
          exact ⟨by rw [HE.out]; rfl, HB3.out⟩
  · have q0 : ((sn : Int) == 0) = false := by rw [beq_eq_false_iff_ne]; omega
    go_wp2_with fail
    refine (containsL_any ⟨first.key, va, vn, vc, first.at_, first.origin, first.tx, first.act⟩ w.heap.size sa sn sc stay _ HX.out HI.out HO.out HS.out).mono ?_
    rintro e w2 ⟨rfl, hb2⟩
    have hr2 : stay.any (lateB (VC.ver ⟨first.key, va, vn, vc, first.at_, first.origin, first.tx, first.act⟩)) = r := HR.out
    rw [hr2]
    clear hr2
    have HB2 := Lib.hid (HB.out.trans hb2)
    have HI2 := Lib.hid (HI.out.keep hb2)
    have HF2 := Lib.hid (HF.out.keep hb2)
    obtain ⟨z0, z1, z2, z3, z4, z5, z6, z7⟩ := AC.ver (key := first.key) (a := va) (n := vn) (ca := vc) (o := first.origin) (t := first.tx) (k := first.act.k) (x := first.act.x) (m := first.act.n) (s := first.act.s) (HX.out.keep hb2)
    clear hb2
    cases all
    case false =>
      have HE := Lib.hid (show res = .slice (some ⟨b, off, none⟩) 1 ec from HRES.out.symm)
      go_wp2_with fail
      go_ret
      exact ⟨by rw [HE.out]; rfl, HB2.out⟩
    case true =>
      cases kb
      case false =>
        have HE := Lib.hid (show res = .slice (some ⟨b, off, none⟩) 1 ec by rw [← HRES.out, HKB.out]; rfl)
        go_wp2_with fail
        go_ret
        exact ⟨by rw [HE.out]; rfl, HB2.out⟩
      case true =>
        go_wp2_with fail
        refine (ftime_any first.key va vn vc first.at_ first.origin first.tx first.act.k first.act.x first.act.n first.act.s T _ HI2.out HT).mono ?_
        rintro e w3 ⟨rfl, hb3⟩
        have HB3 := Lib.hid (HB2.out.trans hb3)
        have HF3 := Lib.hid (HF2.out.keep hb3)
        clear hb3
        go_wp2_with fail
        refine (minS_any fa fn fc floor _ HF3.out h0).mono ?_
        rintro e w4 ⟨rfl, rfl⟩
        rw [HM.out]
        cases tb
        case false =>
          have HE := Lib.hid (show res = .slice (some ⟨b, off, none⟩) 1 ec by rw [← HRES.out, HKB.out, htb]; rfl)
          go_wp2_with fail
          go_ret
          exact ⟨by rw [HE.out]; rfl, HB3.out⟩
        case true =>
          cases r
          case false =>
            have HE := Lib.hid (show res = .slice none 0 0 by rw [← HRES.out, HKB.out, htb]; rfl)
            go_wp2_with fail
            go_ret
            exact ⟨by rw [HE.out]; rfl, HB3.out⟩
          case true =>
            have HE := Lib.hid (show res = .slice (some ⟨b, off, none⟩) 1 ec by rw [← HRES.out, HKB.out, htb]; rfl)
            go_wp2_with fail
            go_ret
            exact ⟨by rw [HE.out]; rfl, HB3.out⟩
end Go.Proofs.Ytdjlnpiaehoofaa
end

/- fold.registers. By an AI agent. -/
section
set_option linter.unusedVariables false
set_option linter.unusedSimpArgs false
namespace Go.Proofs.Ytdjlnpiaehoofaa
open Go.RowKit

set_option maxRecDepth 100000 in
theorem fregs_any (key : ByteArray) (w : World) (hp : 0 < key.size) : Calls Try.prog 22 #[.string key] w fun e w' => e = .returned (.bool (regB key)) ∧ w = w' := by
  have HH := Lib.hid (hd_get hp)
  go_enter Try.func22, Try.ntmps22
  go_wp2_with fail
  · rename_i h
    go_ret
    refine ⟨ret_bool ?_, rfl⟩
    have h2 : hd key = 114 := by rw [← HH.out]; omega
    unfold regB
    rw [h2]; rfl
  · rename_i h
    go_ret
    refine ⟨ret_bool ?_, rfl⟩
    unfold regB
    rw [← HH.out]
    rw [Bool.eq_iff_iff]
    simp only [Bool.or_eq_true, beq_iff_eq, decide_eq_true_eq]
    omega
end Go.Proofs.Ytdjlnpiaehoofaa
end

/- slices.Grow of nothing; slices.Concat of two rows of versions. By an AI agent. -/
section
set_option linter.unusedVariables false
set_option linter.unusedSimpArgs false
namespace Go.Proofs.Ytdjlnpiaehoofaa
open Go.RowKit

theorem zc_size (cs : Array Value) (k : Nat) : (Builtin.zeroCells cs k).size = k * cs.size := by
  unfold Builtin.zeroCells
  simp only [Array.size_map, Array.size_range]
set_option maxHeartbeats 2000000 in
set_option maxRecDepth 100000 in
theorem growN_any (n : Nat) (w : World) (hn : n ≤ 100000) :
    Calls Try.prog 44 #[.slice none 0 0, .int .i64 n] w fun e w' => ∃ v, e = .returned v ∧ OVS w.heap.size w' v 0 [] ∧ Bl w w' := by
  by_cases h0 : n = 0
  · subst h0
    go_enter Try.func44, Try.ntmps44
    go_wp2_with fail
    go_ret
    exact ⟨_, rfl, World.ownsRow_nil _ _ _ _, Bl.refl _⟩
  · obtain ⟨i, z, hi, hz, h1, h2, h3⟩ := el_vr.info
    have q1 : ¬ ((n : Int) < 0) := by omega
    have q2 : (0 : Int) < (n : Int) := by omega
    have q3 : decide ((0 : Int) < (n : Int)) = true := decide_eq_true q2
    have hold : (Builtin.firstCells i.size 0 (.slice none 0 0)).run Try.prog w.drew = .ok (#[] : Array Value) w.drew := run_firstCells_none w.drew i.size 0 0 0
    have hrz : ∀ ty, (Builtin.append_ #[22, 3] ty #[.slice none 0 0, .int .i64 n]).run Try.prog w =
        .ok (.slice (some ⟨w.heap.size, 0, none⟩) n (grownCap w n 0 35)) (w.drew.alloc (.cells (#[] ++ Builtin.zeroCells z.cells n ++ Builtin.zeroCells z.cells (grownCap w n 0 35 - n)) 35)) := fun ty => by
      have h := Lib.run_append_grow_zeros w 22 3 ty 35 i z .i64 .i64 Try.underlying22 Try.underlying3 hi hz none 0 0 [] hold n (by omega) (by omega) (by omega) (by omega)
        (by rw [h2]; omega) (by rw [h2]; exact growslice_fits (by omega) (by omega))
      rw [Nat.zero_add] at h
      exact h
    have hGn : n ≤ grownCap w n 0 35 := grownCap_ge w _ _ _
    have hGm : grownCap w n 0 35 ≤ maxLen := grownCap_le_maxLen w n 0 35 (by unfold maxLen; omega)
    obtain ⟨G, hG⟩ : ∃ G, G = grownCap w n 0 35 := ⟨_, rfl⟩
    rw [← hG] at hrz hGn hGm
    obtain ⟨Z, hZ⟩ : ∃ Z, Z = #[] ++ Builtin.zeroCells z.cells n ++ Builtin.zeroCells z.cells (G - n) := ⟨_, rfl⟩
    rw [← hZ] at hrz
    have HZ := Lib.hid (show Z.size = G * 8 by rw [hZ]; simp only [Array.size_append, zc_size, h3, Array.size_empty]; omega)
    have HGM := Lib.hid hGm
    clear hold hG hGm h3 hi hz h1 h2 hZ
    go_enter Try.func44, Try.ntmps44
    go_wp2_with (at_builtin; refine Lib.wpList_append_run _ rfl _ _ _ _ rfl _ _ rfl rfl _ _ (hrz _) ?_)
    go_ret
    exact ⟨_, rfl, ⟨rfl, .inr ⟨w.heap.size, G, Z, rfl, Nat.le_refl _, heap_alloc_new _ _, Nat.zero_le _, HGM.out, HZ.out, by simp⟩⟩, ((Bl.refl w).drew).alloc _⟩
theorem VE.vc {w : World} {b off : Nat} {v : VerL} (h : VE w b off v) : ∃ x : VC, x.ver = v ∧ IA w x.ad x.n x.at_ ∧ x.act.Ok ∧ ∀ r, r < 8 → w.cell? ⟨b, off + r, none⟩ = x.cs[r]? := by
  obtain ⟨a, n, ca, e1, hI⟩ := h.at_
  refine ⟨⟨v.key, a, n, ca, v.at_, v.origin, v.tx, v.act⟩, rfl, hI, h.ok, fun r hr => ?_⟩
  have hc : r = 0 ∨ r = 1 ∨ r = 2 ∨ r = 3 ∨ r = 4 ∨ r = 5 ∨ r = 6 ∨ r = 7 := by omega
  rcases hc with rfl | rfl | rfl | rfl | rfl | rfl | rfl | rfl
  · exact h.c0
  · exact e1
  · exact h.c2
  · exact h.c3
  · exact h.c4
  · exact h.c5
  · exact h.c6
  · exact h.c7
/-- the versions of a slice with their lists' places -/
theorem VA.vcs {w : World} {a : Option Addr} {n : Nat} {vs : List VerL} (h : VA w a n vs) : ∃ xs : List VC, xs.map VC.ver = vs ∧ xs.length = n ∧ SG w 8 a n (flat xs) ∧ ∀ x ∈ xs, IA w x.ad x.n x.at_ ∧ x.act.Ok := by
  by_cases hn : n = 0
  · subst hn
    have hvs := List.eq_nil_of_length_eq_zero h.len
    subst hvs
    exact ⟨[], rfl, rfl, ⟨rfl, fun _ _ _ _ hu => by simp [flat] at hu, fun _ => rfl, fun _ hu => by simp [flat] at hu⟩, fun _ hx => by cases hx⟩
  · obtain ⟨b, off, rfl, hc⟩ := h.cells 0 (by omega)
    have key : ∀ j, j < n → ∃ x : VC, x.ver = nthR vs j ∧ IA w x.ad x.n x.at_ ∧ x.act.Ok ∧ ∀ r, r < 8 → w.cell? ⟨b, off + j * 8 + r, none⟩ = x.cs[r]? := fun j hj => (hc j hj).vc
    obtain ⟨f, hf⟩ : ∃ f : Nat → VC, ∀ j, j < n → (f j).ver = nthR vs j ∧ IA w (f j).ad (f j).n (f j).at_ ∧ (f j).act.Ok ∧ ∀ r, r < 8 → w.cell? ⟨b, off + j * 8 + r, none⟩ = (f j).cs[r]? :=
      ⟨fun j => if q : j < n then Classical.choose (key j q) else default, fun j hj => by
        simp only [dif_pos hj]
        exact Classical.choose_spec (key j hj)⟩
    have hl : ((List.range n).map f).length = n := by simp
    have hel : ∀ j, j < n → el ((List.range n).map f) j = f j := fun j hj => by rw [el_eq (by rw [hl]; exact hj)]; simp
    refine ⟨(List.range n).map f, ?_, hl, ⟨by rw [flat_len, hl], fun ad e j u hu => ?_, fun e => (by cases e), fun u hu => ?_⟩, fun x hx => ?_⟩
    · refine List.ext_getElem (by simp [h.len]) fun i h1 h2 => ?_
      have hi : i < n := by simpa using h1
      rw [List.getElem_map, List.getElem_map, List.getElem_range, (hf i hi).1, nthR_eq h2]
    · obtain rfl := Option.some.inj e
      rw [add_none]
      have hj : j < n * 8 := by
        have := (List.getElem?_eq_some_iff.1 hu).1
        rw [flat_len, hl] at this; exact this
      obtain ⟨k, r, hr, rfl⟩ : ∃ k r, r < 8 ∧ j = k * 8 + r := ⟨j / 8, j % 8, by omega, by omega⟩
      rw [flat_get _ _ _ (by rw [hl]; omega) hr, hel k (by omega)] at hu
      rw [← Nat.add_assoc, (hf k (by omega)).2.2.2 r hr]; exact hu
    · unfold flat at hu
      obtain ⟨x, hx, hm⟩ := List.mem_flatMap.1 hu
      simp only [VC.cs, verC, List.mem_cons, List.not_mem_nil, or_false] at hm
      rcases hm with rfl | rfl | rfl | rfl | rfl | rfl | rfl | rfl <;> rfl
    · obtain ⟨j, hj, rfl⟩ := List.mem_map.1 hx
      exact ⟨(hf j (List.mem_range.1 hj)).2.1, (hf j (List.mem_range.1 hj)).2.2.1⟩
theorem SV.both {W0 W W' : World} {v v' : Value} {xs ys : List VC} (h : SV W0 W v xs) (hy : ∀ y ∈ ys, IA W0 y.ad y.n y.at_ ∧ y.act.Ok) (ho : OVS W0.heap.size W' v' (xs.length + ys.length) (flat xs ++ flat ys)) : SV W0 W' v' (xs ++ ys) := by
  refine ⟨?_, fun x hx => ?_⟩
  · rw [List.length_append, flat_append]; exact ho
  · rcases List.mem_append.1 hx with q | q
    · exact h.els x q
    · exact hy x q
set_option maxHeartbeats 2000000 in
set_option maxRecDepth 100000 in
theorem concat_any (h : Nat) (a b : Option Addr) (n ca m cb : Nat) (vs us : List VerL) (w : World) (hh : AC w h [.slice a n ca, .slice b m cb]) (hv : VA w a n vs) (hu : VA w b m us) (hn : n ≤ 10000) (hm : m ≤ 10000) :
    Calls Try.prog 24 #[.slice (some ⟨h, 0, none⟩) 2 2] w fun e w' => ∃ x c, e = .returned (.slice x (n + m) c) ∧ VA w' x (n + m) (vs ++ us) ∧ Bl w w' := by
  obtain ⟨xs, hx1, hx2, hx3, hx4⟩ := hv.vcs
  obtain ⟨ys, hy1, hy2, hy3, hy4⟩ := hu.vcs
  have c0 := hh.cell 0 _ rfl
  have c1 := hh.cell 1 _ rfl
  have HH := Lib.hid hh
  have HX3 := Lib.hid hx3
  have HX4 := Lib.hid hx4
  have HY3 := Lib.hid hy3
  have HY4 := Lib.hid hy4
  have HX1 := Lib.hid hx1
  have HY1 := Lib.hid hy1
  have HX2 := Lib.hid hx2
  have HY2 := Lib.hid hy2
  clear hh hv hu hx1 hx2 hx3 hx4 hy1 hy2 hy3 hy4
  go_enter Try.func24, Try.ntmps24
  go_wp2_with fail
  go_loopw [3, 11] (fun sv iv wr => ∃ k : Nat, k ≤ 2 ∧ iv = .int .i64 (k : Int) ∧ sv = .int .i64 ((if k = 0 then 0 else if k = 1 then n else n + m : Nat) : Int) ∧ w = wr) (fun _ iv _ => 2 - (intOf iv).toNat)
  case atStart => exact ⟨0, by omega, by go_num, by go_num, rfl⟩
  case round =>
    obtain ⟨k, hk, rfl, rfl, rfl⟩ := hrel
    have hk3 : k = 0 ∨ k = 1 ∨ k = 2 := by omega
    clear hk
    rcases hk3 with rfl | rfl | rfl
    · have t1 : decide ((n : Int) < 0) = false := decide_eq_false (by omega)
      go_wp2_with fail
      go_roundw
      case rel => exact ⟨1, by omega, by go_num, by simp⟩
      case measure => simp [intOf]
    · obtain ⟨nm, hnm⟩ : ∃ nm, n + m = nm := ⟨_, rfl⟩
      have t1 : (n : Int) + (m : Int) = (nm : Int) := by omega
      have t2 : decide ((nm : Int) < 0) = false := decide_eq_false (by omega)
      go_wp2_with fail
      go_roundw
      case rel => exact ⟨2, by omega, by go_num, by simp [hnm]⟩
      case measure => simp [intOf]
    · obtain ⟨nm, hnm⟩ : ∃ nm, n + m = nm := ⟨_, rfl⟩
      have hnm2 : nm ≤ 100000 := by omega
      have HNM := Lib.hid hnm
      rw [if_neg (by decide), if_neg (by decide), hnm]
      clear hnm
      go_wp2_with fail
      refine (growN_any nm _ hnm2).mono ?_
      rintro e w2 ⟨v, rfl, ho, hb⟩
      have HS := Lib.hid (show SV w w2 v [] from ⟨ho, fun x hx => by cases hx⟩)
      have HB := Lib.hid hb
      clear ho hb c0 c1
      go_wp2_with fail
      go_loopw [6, 27] (fun nv iv wr => ∃ k : Nat, k ≤ 2 ∧ iv = .int .i64 (k : Int) ∧ SV w wr nv (match k with | 0 => [] | 1 => [] ++ xs | _ => ([] ++ xs) ++ ys) ∧ Bl w wr) (fun _ iv _ => 2 - (intOf iv).toNat)
      case atStart => exact ⟨0, by omega, by go_num, HS.out, HB.out⟩
      case round =>
      clear HS HB
      obtain ⟨k, hk, rfl, hs2, hb2⟩ := hrel
      have HS2 := Lib.hid hs2
      have HB2 := Lib.hid hb2
      clear hs2 hb2
      have hk3 : k = 0 ∨ k = 1 ∨ k = 2 := by omega
      clear hk
      rcases hk3 with rfl | rfl | rfl
      · have hc := (HH.out.keep HB2.out).cell 0 _ rfl
        have HSG := Lib.hid (HX3.out.keep HB2.out)
        go_wp2_with (at_builtin; refine wpList_appK rfl _ _ _ rfl el_vr w.heap.size _ _ _ rfl HS2.out.own HB2.out.size a n ca _ rfl HSG.out ?cM ?cN ?_)
        case cM => unfold maxLen; omega
        case cN => omega
        intro vq w3 ho3 hg3 hz1 hz2
        clear hz1 hz2
        have HS3 := Lib.hid (HS2.out.both HX4.out (by rw [HX2.out, List.length_nil, Nat.zero_add]; exact ho3))
        have HB3 := Lib.hid (HS2.out.grown HB2.out hg3)
        clear ho3 hg3 HSG hc
        go_wp2_with fail
        go_roundw
        case rel => exact ⟨1, by omega, by go_num, HS3.out, HB3.out⟩
        case measure => simp [intOf]
      · have hc := (HH.out.keep HB2.out).cell 1 _ rfl
        have HSG := Lib.hid (HY3.out.keep HB2.out)
        go_wp2_with (at_builtin; refine wpList_appK rfl _ _ _ rfl el_vr w.heap.size _ _ _ rfl HS2.out.own HB2.out.size b m cb _ rfl HSG.out ?cM ?cN ?_)
        case cM => have := HX2.out; unfold maxLen; omega
        case cN => have := HX2.out; omega
        intro vq w3 ho3 hg3 hz1 hz2
        clear hz1 hz2
        have HS3 := Lib.hid (HS2.out.both HY4.out (by rw [List.nil_append, HY2.out]; exact ho3))
        have HB3 := Lib.hid (HS2.out.grown HB2.out hg3)
        clear ho3 hg3 HSG hc
        go_wp2_with fail
        go_roundw
        case rel => exact ⟨2, by omega, by go_num, HS3.out, HB3.out⟩
        case measure => simp [intOf]
      · have hlen : (([] ++ xs) ++ ys : List VC).length = nm := by rw [List.nil_append, List.length_append, HX2.out, HY2.out]; exact HNM.out
        obtain ⟨x, c, rfl, hva⟩ := HS2.out.va HB2.out hlen (by omega)
        have hmap : (([] ++ xs) ++ ys : List VC).map VC.ver = vs ++ us := by rw [List.nil_append, List.map_append, HX1.out, HY1.out]
        have HV := Lib.hid (show VA wr x nm (vs ++ us) from hmap ▸ hva)
        clear hva hmap hlen
        go_wp2_with fail
        go_ret
        rw [HNM.out]
        exact ⟨x, ⟨c, rfl⟩, HV.out, HB2.out⟩
end Go.Proofs.Ytdjlnpiaehoofaa
end
