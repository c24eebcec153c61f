import Derived.Test.YtfjjnffifnohkaaGreatQFoldTellsUptoP10
import Derived.Test.YtfjjnffifnohkaaGreatQFoldTellsUptoP11
import Derived.Test.YtfjjnffifnohkaaGreatQFoldTellsUptoP18
import Derived.Deep.RegionHeld
import Derived.Test.YtfjjnffifnohkaaGreatQFoldTellsUptoP6
import Derived.Deep.DeepCutAuto

/- rows of versions that are sorted in place. By an AI agent. -/
section
set_option linter.unusedVariables false
set_option linter.unusedSimpArgs false
namespace Go.Proofs.YtfjjnffifnohkaaGreat
open Go.RowKit

theorem AC.putj {w : World} {g : Nat} {cs : List Value} (h : AC w g cs) (j : Nat) (v : Value) : AC (w.setCell ⟨g, j, none⟩ v) g (cs.set j v) := by
  obtain ⟨t, h⟩ := h
  exact ⟨t, by rw [heap_setCell_same w g j _ t v h]; simp⟩
/-- a version and where its list lies -/
structure VC where
  key : ByteArray
  ad : Option Addr
  n : Nat
  ca : Nat
  at_ : List Int
  origin : Int
  tx : Int
  act : ActL
instance : Inhabited VC := ⟨⟨nilS, none, 0, 0, [], 0, 0, ⟨0, 0, 0, nilS⟩⟩⟩
def VC.ver (v : VC) : VerL := ⟨v.key, v.at_, v.origin, v.tx, v.act⟩
def VC.cs (v : VC) : List Value := verC v.key v.ad v.n v.ca v.origin v.tx v.act.k v.act.x v.act.n v.act.s
theorem VC.cs_len (v : VC) : v.cs.length = 8 := rfl
def flat (xs : List VC) : List Value := xs.flatMap VC.cs
theorem flat_cons (v : VC) (xs : List VC) : flat (v :: xs) = v.cs ++ flat xs := by unfold flat; rw [List.flatMap_cons]
theorem flat_len : ∀ xs : List VC, (flat xs).length = xs.length * 8
  | [] => rfl
  | v :: xs => by rw [flat_cons, List.length_append, flat_len xs, VC.cs_len, List.length_cons]; omega
theorem flat_get : ∀ (xs : List VC) (j r : Nat), j < xs.length → r < 8 → (flat xs)[j * 8 + r]? = (el xs j).cs[r]?
  | v :: xs, 0, r, _, hr => by rw [flat_cons, List.getElem?_append_left (by rw [VC.cs_len]; omega), Nat.zero_mul, Nat.zero_add]; rfl
  | v :: xs, j + 1, r, hj, hr => by
    rw [flat_cons, List.getElem?_append_right (by rw [VC.cs_len]; omega), VC.cs_len, show (j + 1) * 8 + r - 8 = j * 8 + r by omega, flat_get xs j r (by simpa using hj) hr]
    rfl
def set8 (L : List Value) (o : Nat) (v : VC) : List Value :=
  (((((((L.set o (.string v.key)).set (o + 1) (.slice v.ad v.n v.ca)).set (o + 2) (.int .i64 v.origin)).set (o + 3) (.int .i64 v.tx)).set (o + 4) (.int .i64 v.act.k)).set (o + 5) (.float .f64 v.act.x)).set (o + 6) (.int .i64 v.act.n)).set (o + 7) (.string v.act.s)
theorem set8_out {L : List Value} {o i : Nat} (v : VC) (h : i < o ∨ o + 8 ≤ i) : (set8 L o v)[i]? = L[i]? := by
  unfold set8
  rw [List.getElem?_set_ne (by omega), List.getElem?_set_ne (by omega), List.getElem?_set_ne (by omega), List.getElem?_set_ne (by omega), List.getElem?_set_ne (by omega), List.getElem?_set_ne (by omega), List.getElem?_set_ne (by omega), List.getElem?_set_ne (by omega)]
theorem set8_in {L : List Value} {o r : Nat} (v : VC) (hr : r < 8) (h : o + 8 ≤ L.length) : (set8 L o v)[o + r]? = v.cs[r]? := by
  unfold set8
  match r, hr with
  | 0, _ => rw [List.getElem?_set_ne (by omega), List.getElem?_set_ne (by omega), List.getElem?_set_ne (by omega), List.getElem?_set_ne (by omega), List.getElem?_set_ne (by omega), List.getElem?_set_ne (by omega), List.getElem?_set_ne (by omega), Nat.add_zero, List.getElem?_set_self (by omega)]; rfl
  | 1, _ => rw [List.getElem?_set_ne (by omega), List.getElem?_set_ne (by omega), List.getElem?_set_ne (by omega), List.getElem?_set_ne (by omega), List.getElem?_set_ne (by omega), List.getElem?_set_ne (by omega), List.getElem?_set_self (by simp; omega)]; rfl
  | 2, _ => rw [List.getElem?_set_ne (by omega), List.getElem?_set_ne (by omega), List.getElem?_set_ne (by omega), List.getElem?_set_ne (by omega), List.getElem?_set_ne (by omega), List.getElem?_set_self (by simp; omega)]; rfl
  | 3, _ => rw [List.getElem?_set_ne (by omega), List.getElem?_set_ne (by omega), List.getElem?_set_ne (by omega), List.getElem?_set_ne (by omega), List.getElem?_set_self (by simp; omega)]; rfl
  | 4, _ => rw [List.getElem?_set_ne (by omega), List.getElem?_set_ne (by omega), List.getElem?_set_ne (by omega), List.getElem?_set_self (by simp; omega)]; rfl
  | 5, _ => rw [List.getElem?_set_ne (by omega), List.getElem?_set_ne (by omega), List.getElem?_set_self (by simp; omega)]; rfl
  | 6, _ => rw [List.getElem?_set_ne (by omega), List.getElem?_set_self (by simp; omega)]; rfl
  | 7, _ => rw [List.getElem?_set_self (by simp; omega)]; rfl
theorem el_set {xs : List VC} {j : Nat} (hj : j < xs.length) (v : VC) (i : Nat) : el (xs.set j v) i = if i = j then v else el xs i := by
  unfold el
  split
  · subst i; rw [List.getElem?_set_self hj]; rfl
  · rw [List.getElem?_set_ne (by omega)]
theorem set8_flat {xs : List VC} (sp : List Value) {j : Nat} (hj : j < xs.length) (v : VC) : set8 (flat xs ++ sp) (j * 8) v = flat (xs.set j v) ++ sp := by
  have hl := flat_len xs
  have hl2 := flat_len (xs.set j v)
  rw [List.length_set] at hl2
  refine List.ext_getElem? (fun i => ?_)
  by_cases h1 : j * 8 ≤ i ∧ i < j * 8 + 8
  · obtain ⟨r, rfl⟩ : ∃ r, i = j * 8 + r := ⟨i - j * 8, by omega⟩
    rw [set8_in v (by omega) (by rw [List.length_append]; omega), List.getElem?_append_left (by omega), flat_get _ _ _ (by rw [List.length_set]; exact hj) (by omega), el_set hj, if_pos rfl]
  · rw [set8_out v (by omega)]
    by_cases h2 : i < xs.length * 8
    · obtain ⟨k, r, hk, rfl⟩ : ∃ k r, r < 8 ∧ i = k * 8 + r := ⟨i / 8, i % 8, by omega, by omega⟩
      rw [List.getElem?_append_left (by omega), List.getElem?_append_left (by omega), flat_get _ _ _ (by omega) hk, flat_get _ _ _ (by rw [List.length_set]; omega) hk, el_set hj, if_neg (by omega)]
    · rw [List.getElem?_append_right (by omega), List.getElem?_append_right (by omega), hl, hl2]

/-- a version's list is what it says, and lies not in the row itself -/
structure VOk (W : World) (g : Nat) (v : VC) : Prop where
  ia : IA W v.ad v.n v.at_
  ok : v.act.Ok
  far : v.n = 0 ∨ ∀ b off, v.ad = some ⟨b, off, none⟩ → b ≠ g
theorem VOk.keep {W W' : World} {g : Nat} {v : VC} (h : VOk W g v) (hb : Bl W W') : VOk W' g v := ⟨h.ia.keep hb, h.ok, h.far⟩
theorem VOk.set {W : World} {g : Nat} {v : VC} (h : VOk W g v) (j : Nat) (u : Value) : VOk (W.setCell ⟨g, j, none⟩ u) g v := by
  refine ⟨⟨h.ia.len, h.ia.cap, fun i hi => ?_, h.ia.wf⟩, h.ok, h.far⟩
  obtain ⟨b, off, e, hc⟩ := h.ia.cells i hi
  refine ⟨b, off, e, fun k hk => ?_⟩
  have hne : b ≠ g := by
    rcases h.far with q | q
    · omega
    · exact q b off e
  rw [World.cell?_setCell_far _ _ _ _ (show g ≠ b from fun q => hne q.symm)]
  exact hc k hk
/-- nothing has turned but the row at g, and it has the size that it had -/
structure FrG (w : World) (g : Nat) (W : World) : Prop where
  fr : Fr (fun b => b = g) w W
  shp : ∀ cur t, w.heap[g]? = some (.cells cur t (0, 0)) → ∃ cur', W.heap[g]? = some (.cells cur' t (0, 0)) ∧ cur'.size = cur.size
theorem FrG.refl (w : World) (g : Nat) : FrG w g w := ⟨Fr.refl _ _, fun cur t h => ⟨cur, h, rfl⟩⟩
theorem FrG.trans {w a b : World} {g : Nat} (h : FrG w g a) (k : Bl a b) : FrG w g b := ⟨h.fr.bl k, fun cur t hc => by
  obtain ⟨c', h1, h2⟩ := h.shp cur t hc
  exact ⟨c', k.heap h1, h2⟩⟩
theorem FrG.drew {w a : World} {g : Nat} (h : FrG w g a) : FrG w g a.drew := h.trans (Bl.refl a).drew
theorem FrG.set {w a : World} {g : Nat} (h : FrG w g a) (j : Nat) (u : Value) : FrG w g (a.setCell ⟨g, j, none⟩ u) :=
  ⟨h.fr.trans ⟨rfl, rfl, rfl, by simp, fun k hk hne => Below.heap_setCell _ _ _ _ (fun e => hne (by rw [e]))⟩, fun cur t hc => by
    obtain ⟨c', h1, h2⟩ := h.shp cur t hc
    exact ⟨c'.setIfInBounds j u, heap_setCell_same a g j c' t u h1, by rw [Array.size_setIfInBounds, h2]⟩⟩
/-- the row at g holds xs -/
structure RW (w W : World) (g : Nat) (xs : List VC) : Prop where
  bl : FrG w g W
  row : ∃ sp, AC W g (flat xs ++ sp)
  ok : ∀ v ∈ xs, VOk W g v
theorem RW.keep {w W W' : World} {g : Nat} {xs : List VC} (h : RW w W g xs) (hb : Bl W W') : RW w W' g xs := by
  obtain ⟨sp, hr⟩ := h.row
  exact ⟨h.bl.trans hb, ⟨sp, hr.keep hb⟩, fun v hv => (h.ok v hv).keep hb⟩
theorem RW.cells {w W : World} {g : Nat} {xs : List VC} (h : RW w W g xs) {j : Nat} (hj : j < xs.length) :
    W.cell? ⟨g, j * 8, none⟩ = some (.string (el xs j).key) ∧ W.cell? ⟨g, j * 8 + 1, none⟩ = some (.slice (el xs j).ad (el xs j).n (el xs j).ca) ∧ W.cell? ⟨g, j * 8 + 2, none⟩ = some (.int .i64 (el xs j).origin) ∧ W.cell? ⟨g, j * 8 + 3, none⟩ = some (.int .i64 (el xs j).tx) ∧
    W.cell? ⟨g, j * 8 + 4, none⟩ = some (.int .i64 (el xs j).act.k) ∧ W.cell? ⟨g, j * 8 + 5, none⟩ = some (.float .f64 (el xs j).act.x) ∧ W.cell? ⟨g, j * 8 + 6, none⟩ = some (.int .i64 (el xs j).act.n) ∧ W.cell? ⟨g, j * 8 + 7, none⟩ = some (.string (el xs j).act.s) := by
  obtain ⟨sp, hr⟩ := h.row
  have key : ∀ r v, r < 8 → (el xs j).cs[r]? = some v → W.cell? ⟨g, j * 8 + r, none⟩ = some v := fun r v h8 hv => hr.cell (j * 8 + r) v (by rw [List.getElem?_append_left (by rw [flat_len]; omega), flat_get xs j r hj h8]; exact hv)
  exact ⟨key 0 _ (by decide) rfl, key 1 _ (by decide) rfl, key 2 _ (by decide) rfl, key 3 _ (by decide) rfl, key 4 _ (by decide) rfl, key 5 _ (by decide) rfl, key 6 _ (by decide) rfl, key 7 _ (by decide) rfl⟩
theorem RW.at8 {w W : World} {g : Nat} {xs : List VC} (h : RW w W g xs) {j : Nat} (hj : j < xs.length) {x : VC} (hx : el xs j = x) :
    W.cell? ⟨g, j * 8, none⟩ = some (.string x.key) ∧ W.cell? ⟨g, j * 8 + 1, none⟩ = some (.slice x.ad x.n x.ca) ∧ W.cell? ⟨g, j * 8 + 2, none⟩ = some (.int .i64 x.origin) ∧ W.cell? ⟨g, j * 8 + 3, none⟩ = some (.int .i64 x.tx) ∧
    W.cell? ⟨g, j * 8 + 4, none⟩ = some (.int .i64 x.act.k) ∧ W.cell? ⟨g, j * 8 + 5, none⟩ = some (.float .f64 x.act.x) ∧ W.cell? ⟨g, j * 8 + 6, none⟩ = some (.int .i64 x.act.n) ∧ W.cell? ⟨g, j * 8 + 7, none⟩ = some (.string x.act.s) := by
  subst hx; exact h.cells hj
/-- the facts of one element, in every later world -/
theorem RW.all8 {w Z : World} {g : Nat} {xs : List VC} (h : RW w Z g xs) {j : Nat} (hj : j < xs.length) {x : VC} (hx : el xs j = x) :
    (∀ q : Ext Z, q.at.cell? ⟨g, j * 8, none⟩ = some (.string x.key)) ∧ (∀ q : Ext Z, q.at.cell? ⟨g, j * 8 + 1, none⟩ = some (.slice x.ad x.n x.ca)) ∧ (∀ q : Ext Z, q.at.cell? ⟨g, j * 8 + 2, none⟩ = some (.int .i64 x.origin)) ∧ (∀ q : Ext Z, q.at.cell? ⟨g, j * 8 + 3, none⟩ = some (.int .i64 x.tx)) ∧
    (∀ q : Ext Z, q.at.cell? ⟨g, j * 8 + 4, none⟩ = some (.int .i64 x.act.k)) ∧ (∀ q : Ext Z, q.at.cell? ⟨g, j * 8 + 5, none⟩ = some (.float .f64 x.act.x)) ∧ (∀ q : Ext Z, q.at.cell? ⟨g, j * 8 + 6, none⟩ = some (.int .i64 x.act.n)) ∧ (∀ q : Ext Z, q.at.cell? ⟨g, j * 8 + 7, none⟩ = some (.string x.act.s)) := by
  have k := fun q : Ext Z => (h.keep q.bl).at8 hj hx
  exact ⟨fun q => (k q).1, fun q => (k q).2.1, fun q => (k q).2.2.1, fun q => (k q).2.2.2.1, fun q => (k q).2.2.2.2.1, fun q => (k q).2.2.2.2.2.1, fun q => (k q).2.2.2.2.2.2.1, fun q => (k q).2.2.2.2.2.2.2⟩
theorem RW.frozen {w W : World} {g : Nat} {xs : List VC} (h : RW w W g xs) (j : Nat) : W.frozen? ⟨g, j, none⟩ = false := by
  obtain ⟨sp, hr⟩ := h.row
  exact hr.frozen j
/-- eight cells that are written -/
def st8 (W : World) (g o : Nat) (v : VC) : World :=
  (((((((W.setCell ⟨g, o, none⟩ (.string v.key)).setCell ⟨g, o + 1, none⟩ (.slice v.ad v.n v.ca)).setCell ⟨g, o + 2, none⟩ (.int .i64 v.origin)).setCell ⟨g, o + 3, none⟩ (.int .i64 v.tx)).setCell ⟨g, o + 4, none⟩ (.int .i64 v.act.k)).setCell ⟨g, o + 5, none⟩ (.float .f64 v.act.x)).setCell ⟨g, o + 6, none⟩ (.int .i64 v.act.n)).setCell ⟨g, o + 7, none⟩ (.string v.act.s)
theorem AC.st8 {W : World} {g : Nat} {L : List Value} (h : AC W g L) (o : Nat) (v : VC) : AC (st8 W g o v) g (set8 L o v) :=
  (((((((h.putj o _).putj (o + 1) _).putj (o + 2) _).putj (o + 3) _).putj (o + 4) _).putj (o + 5) _).putj (o + 6) _).putj (o + 7) _
theorem FrG.st8 {w W : World} {g : Nat} (h : FrG w g W) (o : Nat) (v : VC) : FrG w g (st8 W g o v) :=
  (((((((h.set o _).set (o + 1) _).set (o + 2) _).set (o + 3) _).set (o + 4) _).set (o + 5) _).set (o + 6) _).set (o + 7) _
theorem VOk.st8 {W : World} {g : Nat} {v : VC} (h : VOk W g v) (o : Nat) (u : VC) : VOk (st8 W g o u) g v :=
  (((((((h.set o _).set (o + 1) _).set (o + 2) _).set (o + 3) _).set (o + 4) _).set (o + 5) _).set (o + 6) _).set (o + 7) _
theorem RW.st8 {w W : World} {g : Nat} {xs : List VC} (h : RW w W g xs) {j : Nat} (hj : j < xs.length) {v : VC} (hv : VOk W g v) : RW w (st8 W g (j * 8) v) g (xs.set j v) := by
  obtain ⟨sp, hr⟩ := h.row
  refine ⟨h.bl.st8 _ _, ⟨sp, by rw [← set8_flat sp hj v]; exact hr.st8 _ _⟩, fun u hu => ?_⟩
  rcases List.mem_or_eq_of_mem_set hu with q | q
  · exact (h.ok u q).st8 _ _
  · subst q; exact hv.st8 _ _
theorem RW.at_ {w W : World} {g : Nat} {xs : List VC} (h : RW w W g xs) {j : Nat} (hj : j < xs.length) : VOk W g (el xs j) := h.ok _ (el_mem hj)
/-- two elements changed for each other -/
def swp (xs : List VC) (i j : Nat) : List VC := (xs.set i (el xs j)).set j (el xs i)
theorem swp_mid (P M Q : List VC) (a b : VC) : swp (P ++ (a :: (M ++ (b :: Q)))) P.length (P.length + (M.length + 1)) = P ++ (b :: (M ++ (a :: Q))) := by
  have e1 : el (P ++ (a :: (M ++ (b :: Q)))) P.length = a := by have := el_right P (a :: (M ++ (b :: Q))) 0; rw [Nat.add_zero] at this; rw [this]; rfl
  have e2 : el (P ++ (a :: (M ++ (b :: Q)))) (P.length + (M.length + 1)) = b := by
    rw [el_right, show (a :: (M ++ (b :: Q))) = [a] ++ (M ++ (b :: Q)) from rfl, show M.length + 1 = [a].length + M.length by simp; omega, el_right]
    have := el_right M (b :: Q) 0; rw [Nat.add_zero] at this; rw [this]; rfl
  unfold swp
  rw [e1, e2]
  rw [List.set_append_right _ _ (Nat.le_refl _), Nat.sub_self, List.set_cons_zero, List.set_append_right _ _ (Nat.le_add_right _ _), Nat.add_sub_cancel_left, List.set_cons_succ, List.set_append_right _ _ (Nat.le_refl _), Nat.sub_self, List.set_cons_zero]
theorem swp_comm (xs : List VC) {i j : Nat} (hi : i < xs.length) (hj : j < xs.length) : swp xs i j = swp xs j i := by
  by_cases e : i = j
  · subst e; rfl
  · unfold swp; rw [List.set_comm _ _ (by omega)]
end Go.Proofs.YtfjjnffifnohkaaGreat
end

/- fold.at, fold.time, fold.order. By an AI agent. -/
section
set_option linter.unusedVariables false
set_option linter.unusedSimpArgs false
namespace Go.Proofs.YtfjjnffifnohkaaGreat
open Go.RowKit
attribute [local go_sem] eOp eOper eUpon

def noPl : Ending := .panicked [{ v := .iface 183 (.agg #[]), recovered := false }]
/-- has a version a time? -/
def hasT (v : VerL) : Bool := (decide (v.origin = 254) && decide (0 < v.at_.length)) || (decide (0 ≤ v.origin) && decide (v.origin < (v.at_.length : Int)))
set_option maxHeartbeats 1600000 in
set_option maxRecDepth 100000 in
theorem fat_any (key : ByteArray) (a : Option Addr) (n ca : Nat) (xs : List Int) (o t : Int) (k : Int) (x : Nat) (m : Int) (s : ByteArray) (w : World) (hx : IA w a n xs) :
    Calls Tryz.prog 174 #[.agg #[.string key, .slice a n ca, .int .i64 o, .int .i64 t, .int .i64 k, .float .f64 x, .int .i64 m, .string s]] w fun e w' =>
      ((hasT ⟨key, xs, o, t, ⟨k, x, m, s⟩⟩ = true ∧ e = .returned (.int .i64 (timeL ⟨key, xs, o, t, ⟨k, x, m, s⟩⟩))) ∨ (timeL ⟨key, xs, o, t, ⟨k, x, m, s⟩⟩ = 0 ∧ e = noPl)) ∧ Bl w w' := by
  have HX := Lib.hid hx.len
  have hbl := (Bl.refl w).alloc (.cells #[.string key, .slice a n ca, .int .i64 o, .int .i64 t, .int .i64 k, .float .f64 x, .int .i64 m, .string s] 59)
  obtain ⟨T, hT⟩ : ∃ T, timeL ⟨key, xs, o, t, ⟨k, x, m, s⟩⟩ = T := ⟨_, rfl⟩
  obtain ⟨H, hH⟩ : ∃ H, hasT ⟨key, xs, o, t, ⟨k, x, m, s⟩⟩ = H := ⟨_, rfl⟩
  rw [hT, hH]
  have hE : (if o = 254 ∧ 0 < n then maxL xs else if 0 ≤ o ∧ o < (n : Int) then nth xs o.toNat else 0) = T := by
    have := hT
    unfold timeL at this
    simp only [HX.out] at this
    exact this
  have hF : ((decide (o = 254) && decide (0 < n)) || (decide (0 ≤ o) && decide (o < (n : Int)))) = H := by
    have := hH
    unfold hasT at this
    simp only [HX.out] at this
    exact this
  clear hT hH
  by_cases h1 : o = 254 ∧ 0 < n
  · rw [if_pos h1] at hE
    rw [decide_eq_true h1.1, decide_eq_true h1.2] at hF
    subst hE
    subst hF
    obtain ⟨rfl, h0⟩ := h1
    have h0' : (0 : Int) < (n : Int) := by omega
    go_enter Tryz.func174, Tryz.ntmps174
    go_wp2_with fail
    refine (maxV_any a n ca xs _ (hx.keep hbl) h0).mono ?_
    rintro e w' ⟨rfl, rfl⟩
    go_wp2_with fail
    go_ret
    exact ⟨.inl ⟨by simp, rfl⟩, hbl⟩
  · rw [if_neg h1] at hE
    by_cases h2 : 0 ≤ o ∧ o < (n : Int)
    · rw [if_pos h2] at hE
      rw [decide_eq_true h2.1, decide_eq_true h2.2, Bool.and_self, Bool.or_true] at hF
      subst hE
      subst hF
      obtain ⟨j, rfl⟩ : ∃ j : Nat, o = j := ⟨o.toNat, by omega⟩
      have hj : j < n := by omega
      obtain ⟨ba, oa, rfl, hcj⟩ := (hx.keep hbl).at_k j hj
      have q : ((j : Int) == 254) = false := by
        rw [beq_eq_false_iff_ne]
        intro h
        exact h1 ⟨h, by omega⟩
      have h3 : (j : Int) < (n : Int) := by omega
      clear h1 h2
      go_enter Tryz.func174, Tryz.ntmps174
      go_wp2_with fail
      go_ret
      exact ⟨.inl ⟨by simp, by rw [Int.toNat_natCast]; rfl⟩, hbl⟩
    · rw [if_neg h2] at hE
      subst hE
      clear hF HX
      by_cases h3 : o = 254
      · subst h3
        obtain rfl : n = 0 := by omega
        go_enter Tryz.func174, Tryz.ntmps174
        go_wp2_with fail
        exact ⟨rfl, .inr rfl, hbl⟩
      · have q : (o == 254) = false := by rw [beq_eq_false_iff_ne]; exact h3
        by_cases h4 : 0 ≤ o
        · have h5 : ¬ (o < (n : Int)) := fun h => h2 ⟨h4, h⟩
          clear h1 h2 h3
          go_enter Tryz.func174, Tryz.ntmps174
          go_wp2_with fail
          exact ⟨rfl, .inr rfl, hbl⟩
        · clear h1 h2 h3
          go_enter Tryz.func174, Tryz.ntmps174
          go_wp2_with fail
          exact ⟨rfl, .inr rfl, hbl⟩
theorem tcatch_idle (a0 : Addr) (w : World) :
    CallsD Tryz.prog 173 #[.pointer (some a0)] .returning w fun e u' w' => e = .returned (.tuple #[]) ∧ u' = .returning ∧ w' = w := by
  refine callsD_of_wpS Tryz.func173 rfl fun c₀ cs hu => ?_
  apply wpS_seq
  apply wpS_region
  simp [wpOpsS, go_sem, recoverD, hu, Tryz.ntmps173, Exit.thenS]
  apply wpS_seq
  apply wpS_region
  simp [wpOpsS, go_sem, Exit.thenS]
  refine wpS_cond (t := false) (by simp [Act.eval, Array.replicate]) ?_
  simp only [Bool.false_eq_true, if_false]
  refine wpS_of_wp (wp_skip ?_)
  cases c₀
  simp_all [bodyPostS, results, Tryz.results173]
theorem assert_place (w : World) : (Instr.typeAssert (.iface 183 (.agg #[])) 20 183 true).run Tryz.prog w = .ok (.tuple #[.agg #[], .bool true]) w := by
  simp [Instr.typeAssert, run_underlying Tryz.underlying183]
set_option maxHeartbeats 1600000 in
set_option maxRecDepth 100000 in
theorem tcatch_code (g0 : Nat) (v0 : Value) (older : List PanicEntry) (w : World) (h0 : C1 w g0 v0) :
    CallsD Tryz.prog 173 #[.pointer (some ⟨g0, 0, none⟩)] (.panicking ({ v := .iface 183 (.agg #[]), recovered := false } :: older)) w fun e u' w' =>
      e = .returned (.tuple #[]) ∧ u' = .panicking ({ v := .iface 183 (.agg #[]), recovered := true } :: older) ∧ ∃ w1, Bl w w1 ∧ w' = w1.setCell ⟨g0, 0, none⟩ (.int .i64 0) := by
  have k0 := (h0.alloc (.cells #[] 183)).cell
  have f0 := (h0.alloc (.cells #[] 183)).frozen
  have hb : Bl w (w.alloc (.cells #[] 183)) := (Bl.refl w).alloc _
  refine callsD_of_wpS Tryz.func173 rfl fun c₀ cs hu => ?_
  apply wpS_seq
  apply wpS_region
  simp [wpOpsS, go_sem, recoverD, hu, Tryz.ntmps173, Exit.thenS]
  apply wpS_seq
  apply wpS_region
  simp [wpOpsS, go_sem, Exit.thenS]
  refine wpS_cond (t := true) (by simp [Act.eval, Array.replicate]) ?_
  simp only [if_true]
  apply wpS_seq
  apply wpS_seq
  apply wpS_region
  simp [wpOpsS, go_sem, Exit.thenS, assert_place, recoverD]
  apply wpS_seq
  apply wpS_region
  simp [wpOpsS, go_sem, Exit.thenS, recoverD]
  refine wpS_cond (t := false) (by simp [Act.eval, Array.replicate]) ?_
  simp only [Bool.false_eq_true, if_false]
  refine wpS_of_wp (wp_skip ?_)
  simp only [Exit.thenS]
  apply wpS_region
  simp [wpOpsS, go_sem, k0, f0, recoverD, bodyPostS, results, Tryz.results173]
  exact ⟨_, hb, rfl⟩
theorem time_results {tmps : Array Value} {W : World} {g0 : Nat} {e : Int} (h0 : tmps.getD 2 undef = .pointer (some ⟨g0, 0, none⟩)) (c0 : C1 W g0 (.int .i64 e)) :
    (results Tryz.f117 tmps).run Tryz.prog W = .ok (.int .i64 e) W := by
  rw [Array.getD_eq_getD_getElem?] at h0
  have k0 := c0.cell
  simp [results, Tryz.results117, go_sem, h0, k0]
set_option maxHeartbeats 1600000 in
set_option maxRecDepth 100000 in
theorem ftime_any (key : ByteArray) (a : Option Addr) (n ca : Nat) (xs : List Int) (o t : Int) (k : Int) (x : Nat) (m : Int) (s : ByteArray) (T : Int) (w : World) (hx : IA w a n xs)
    (HT : Hid (timeL ⟨key, xs, o, t, ⟨k, x, m, s⟩⟩ = T)) :
    Calls Tryz.prog 117 #[.agg #[.string key, .slice a n ca, .int .i64 o, .int .i64 t, .int .i64 k, .float .f64 x, .int .i64 m, .string s]] w fun e w' => e = .returned (.int .i64 T) ∧ Bl w w' := by
  have hmf := hmf
  have hsf := store_fl
  have G := AC.new w w.heap.size rfl (verC key a n ca o t k x m s) 59
  have hb0 := (Bl.refl w).alloc (.cells (verC key a n ca o t k x m s).toArray 59)
  have hb := hb0.alloc (.cells #[.int .i64 0] 3)
  have c0 := C1.new (w.alloc (.cells (verC key a n ca o t k x m s).toArray 59)) (w.heap.size + 1) (by simp) (.int .i64 0) 3
  have G2 := G.keep ((Bl.refl _).alloc (.cells #[.int .i64 0] 3))
  have H := Lib.hid (fun w hx => fat_any key a n ca xs o t k x m s w hx)
  rw [HT.out] at H
  unfold verC at *
  obtain ⟨a0, a1, a2, a3, a4, a5, a6, a7⟩ := AC.ver (key := key) (a := a) (n := n) (ca := ca) (o := o) (t := t) (k := k) (x := x) (m := m) (s := s) G2
  have HX := Lib.hid (hx.keep hb)
  clear G G2 hb0 hx
  go_enter_defers Tryz.func117, Tryz.ntmps117
  go_wp2_with fail
  generalize (w.alloc _).alloc _ = W at *
  refine (H.out _ HX.out).mono ?_
  rintro e w1 ⟨⟨hh, rfl⟩ | ⟨h0, rfl⟩, hb1⟩
  · have d0 := c0.keep hb1
    have HB := Lib.hid (hb.trans hb1)
    have HD := Lib.hid d0
    have k0 := d0.cell
    have f0 := d0.frozen
    clear d0 c0 hb hb1 hh a0 a1 a2 a3 a4 a5 a6 a7
    go_wp2_with fail
    refine leaves_cons (f := 173) (args := #[.pointer (some ⟨w.heap.size + 1, 0, none⟩)]) (by simp) (by simp [go_sem]) ?_
    refine (tcatch_idle _ _).mono ?_
    rintro e u' w'' ⟨rfl, rfl, rfl⟩
    exact leaves_ret (time_results rfl (HD.out.set (.int .i64 T))) ⟨rfl, HB.out.setCell (p := ⟨w.heap.size + 1, 0, none⟩) (Nat.le_succ _) _⟩
  · have d0 := c0.keep hb1
    have HB := Lib.hid (hb.trans hb1)
    clear c0 hb hb1 a0 a1 a2 a3 a4 a5 a6 a7
    unfold noPl
    subst h0
    refine leaves_cons (f := 173) (args := #[.pointer (some ⟨w.heap.size + 1, 0, none⟩)]) (by simp) (by simp [go_sem]) ?_
    refine (tcatch_code (w.heap.size + 1) _ [] _ d0).mono ?_
    rintro e u' w'' ⟨rfl, rfl, w2, hb2, rfl⟩
    exact leaves_back (time_results rfl ((d0.keep hb2).set (.int .i64 0))) ⟨rfl, (HB.out.trans hb2).setCell (p := ⟨w.heap.size + 1, 0, none⟩) (Nat.le_succ _) _⟩
set_option maxHeartbeats 3200000 in
set_option maxRecDepth 100000 in
theorem forder_any (key : ByteArray) (a : Option Addr) (n ca : Nat) (xs : List Int) (o t : Int) (k : Int) (x : Nat) (m : Int) (s : ByteArray)
    (key2 : ByteArray) (a2 : Option Addr) (n2 ca2 : Nat) (ys : List Int) (o2 t2 : Int) (k2 : Int) (x2 : Nat) (m2 : Int) (s2 : ByteArray) (T1 T2 c1 c2 c3 c4 c5 R : Int) (w : World) (hx : IA w a n xs) (hy : IA w a2 n2 ys)
    (H1 : Hid (timeL ⟨key, xs, o, t, ⟨k, x, m, s⟩⟩ = T1)) (H2 : Hid (timeL ⟨key2, ys, o2, t2, ⟨k2, x2, m2, s2⟩⟩ = T2))
    (C1 : Hid (Lib.compareInt T2 T1 = c1)) (C2 : Hid (Lib.compareInt o2 o = c2)) (C3 : Hid (Lib.compareInt t2 t = c3)) (C4 : Hid (Lib.compareInt (n : Int) (n2 : Int) = c4)) (C5 : Hid (cmpV xs ys = c5)) (HR : Hid (orL [c1, c2, c3, c4, c5] = R)) :
    Calls Tryz.prog 22 #[.agg #[.string key, .slice a n ca, .int .i64 o, .int .i64 t, .int .i64 k, .float .f64 x, .int .i64 m, .string s], .agg #[.string key2, .slice a2 n2 ca2, .int .i64 o2, .int .i64 t2, .int .i64 k2, .float .f64 x2, .int .i64 m2, .string s2]] w fun e w' => e = .returned (.int .i64 R) ∧ Bl w w' := by
  have G := O2.new w (verC key a n ca o t k x m s) (verC key2 a2 n2 ca2 o2 t2 k2 x2 m2 s2) 59 59
  unfold verC at G
  go_enter Tryz.func22, Tryz.ntmps22
  go_wp2_with fail
  generalize (w.alloc (.cells #[.string key, .slice a n ca, .int .i64 o, .int .i64 t, .int .i64 k, .float .f64 x, .int .i64 m, .string s] 59)).alloc (.cells #[.string key2, .slice a2 n2 ca2, .int .i64 o2, .int .i64 t2, .int .i64 k2, .float .f64 x2, .int .i64 m2, .string s2] 59) = W0 at *
  refine wp_region_ext 27 3 (by kernel_rfl) rfl (by kernel_rfl) (by kernel_rfl) ?_
  have G := G.keep ((Bl.refl W0).drew)
  generalize W0.drew = W at *
  have a0 : ∀ n : Ext W, _ := fun n => (G.keep n.bl).a.cell 0 _ rfl
  have a1 : ∀ n : Ext W, _ := fun n => (G.keep n.bl).a.cell 1 _ rfl
  have a2' : ∀ n : Ext W, _ := fun n => (G.keep n.bl).a.cell 2 _ rfl
  have a3 : ∀ n : Ext W, _ := fun n => (G.keep n.bl).a.cell 3 _ rfl
  have a4 : ∀ n : Ext W, _ := fun n => (G.keep n.bl).a.cell 4 _ rfl
  have a5 : ∀ n : Ext W, _ := fun n => (G.keep n.bl).a.cell 5 _ rfl
  have a6 : ∀ n : Ext W, _ := fun n => (G.keep n.bl).a.cell 6 _ rfl
  have a7 : ∀ n : Ext W, _ := fun n => (G.keep n.bl).a.cell 7 _ rfl
  have b0 : ∀ n : Ext W, _ := fun n => (G.keep n.bl).b.cell 0 _ rfl
  have b1 : ∀ n : Ext W, _ := fun n => (G.keep n.bl).b.cell 1 _ rfl
  have b2 : ∀ n : Ext W, _ := fun n => (G.keep n.bl).b.cell 2 _ rfl
  have b3 : ∀ n : Ext W, _ := fun n => (G.keep n.bl).b.cell 3 _ rfl
  have b4 : ∀ n : Ext W, _ := fun n => (G.keep n.bl).b.cell 4 _ rfl
  have b5 : ∀ n : Ext W, _ := fun n => (G.keep n.bl).b.cell 5 _ rfl
  have b6 : ∀ n : Ext W, _ := fun n => (G.keep n.bl).b.cell 6 _ rfl
  have b7 : ∀ n : Ext W, _ := fun n => (G.keep n.bl).b.cell 7 _ rfl
  have hX : ∀ n' : Ext W, IA n'.at a n xs := fun n' => hx.keep (G.bl.trans n'.bl)
  have hY : ∀ n' : Ext W, IA n'.at a2 n2 ys := fun n' => hy.keep (G.bl.trans n'.bl)
  have HXY := Lib.hid (And.intro hX hY)
  clear hX hY
  have hcv : ∀ n' : Ext W, Calls Tryz.prog 118 #[.slice a n ca, .slice a2 n2 ca2] n'.at fun e w' => e = .returned (.int .i64 c5) ∧ Bl n'.at w' := fun n' => by
    refine (cmpV_any a a2 n n2 ca ca2 xs ys _ (HXY.out.1 n') (HXY.out.2 n')).mono ?_
    rintro e w' ⟨rfl, rfl⟩
    rw [C5.out]
    exact ⟨rfl, Bl.refl _⟩
  have HCV := Lib.hid hcv
  clear hcv
  simp only [List.take_succ_cons, List.take_zero]
  repeat (refine wpE_step (fun K hK => ?_); go_simp; first | (refine hK _ ?_; clear hK K) | (apply Exists.intro; refine ⟨fun n => ?_, hK _ ?_⟩; (first | exact ftime_any _ _ _ _ _ _ _ _ _ _ _ _ _ (HXY.out.1 n) H1 | exact ftime_any _ _ _ _ _ _ _ _ _ _ _ _ _ (HXY.out.2 n) H2 | exact cmpI_any _ _ _ _ C1 | exact cmpI_any _ _ _ _ C2 | exact cmpI_any _ _ _ _ C3 | exact cmpI_any _ _ _ _ C4 | exact HCV.out n); clear hK K))
  refine wpE_nil ?_
  clear a0 a1 a2' a3 a4 a5 a6 a7 b0 b1 b2 b3 b4 b5 b6 b7
  refine wpAnyE_one (i := 27) (by kernel_rfl) ?_
  intro W1 hb1
  go_simp
  have cg := AC.new W1 W1.heap.size rfl [.int .i64 c1, .int .i64 c2, .int .i64 c3, .int .i64 c4, .int .i64 c5] 3
  replace hb1 := hb1.alloc (.cells #[.int .i64 c1, .int .i64 c2, .int .i64 c3, .int .i64 c4, .int .i64 c5] 3)
  refine ⟨hb1, ?_⟩
  generalize W1.alloc (.cells #[.int .i64 c1, .int .i64 c2, .int .i64 c3, .int .i64 c4, .int .i64 c5] 3) = W2 at *
  generalize W1.heap.size = g at *
  refine wpAnyE_one (i := 28) (by kernel_rfl) ?_
  intro W3 hb3
  replace cg := cg.keep hb3
  replace hb1 := hb1.trans hb3
  go_simp
  refine (or_any g 5 [c1, c2, c3, c4, c5] _ rfl (by decide) ?_).mono ?_
  · intro j hj
    match j, hj with
    | 0, _ => exact cg.cell 0 _ rfl
    | 1, _ => exact cg.cell 1 _ rfl
    | 2, _ => exact cg.cell 2 _ rfl
    | 3, _ => exact cg.cell 3 _ rfl
    | 4, _ => exact cg.cell 4 _ rfl
  rintro e w' ⟨rfl, rfl⟩
  rw [HR.out]
  refine ⟨_, rfl, hb1, ?_⟩
  refine wpAnyE_one (i := 29) (by kernel_rfl) ?_
  intro W4 hb4
  replace hb1 := hb1.trans hb4
  go_simp
  refine ⟨by kernel_rfl, ?_⟩
  intro W5 hb5
  have hbn := G.bl.trans (hb1.trans hb5)
  go_wp2_with fail
  go_ret
  exact ⟨rfl, hbn⟩
def VC.v (v : VC) : Value := .agg #[.string v.key, .slice v.ad v.n v.ca, .int .i64 v.origin, .int .i64 v.tx, .int .i64 v.act.k, .float .f64 v.act.x, .int .i64 v.act.n, .string v.act.s]
/-- fold.order of two elements -/
theorem forder_c (a b : VC) (R : Int) (w : World) {g : Nat} (ha : VOk w g a) (hb : VOk w g b) (hR : Hid (orderL a.ver b.ver = R)) : Calls Tryz.prog 22 #[a.v, b.v] w fun e w' => e = .returned (.int .i64 R) ∧ Bl w w' := by
  have hla := ha.ia.len
  have hlb := hb.ia.len
  obtain ⟨k, ad, n, ca, xs, o, t, ⟨ak, ax, an, az⟩⟩ := a
  obtain ⟨k', ad', n', ca', xs', o', t', ⟨ak', ax', an', az'⟩⟩ := b
  dsimp only at hla hlb
  refine forder_any k ad n ca xs o t ak ax an az k' ad' n' ca' xs' o' t' ak' ax' an' az' _ _ _ _ _ _ _ R w ha.ia hb.ia (Lib.hid rfl) (Lib.hid rfl) (Lib.hid rfl) (Lib.hid rfl) (Lib.hid rfl) (Lib.hid rfl) (Lib.hid rfl) (Lib.hid ?_)
  rw [← hR.out]
  unfold orderL VC.ver
  dsimp only
  rw [hla, hlb]
theorem forder_w (x y : VC) (R : Int) (w : World) {g : Nat} (hx : VOk w g x) (hy : VOk w g y) (hR : Hid (orderL x.ver y.ver = R)) :
    Calls Tryz.prog 22 #[.agg #[.string x.key, .slice x.ad x.n x.ca, .int .i64 x.origin, .int .i64 x.tx, .int .i64 x.act.k, .float .f64 x.act.x, .int .i64 x.act.n, .string x.act.s], .agg #[.string y.key, .slice y.ad y.n y.ca, .int .i64 y.origin, .int .i64 y.tx, .int .i64 y.act.k, .float .f64 y.act.x, .int .i64 y.act.n, .string y.act.s]] w fun e w' => e = .returned (.int .i64 R) ∧ Bl w w' := forder_c x y R w hx hy hR
end Go.Proofs.YtfjjnffifnohkaaGreat
end

/- slices.insertionSortCmpFunc over versions. By an AI agent. -/
section
set_option linter.unusedVariables false
set_option linter.unusedSimpArgs false
namespace Go.Proofs.YtfjjnffifnohkaaGreat
open Go.RowKit
attribute [local go_sem] eOp eOper eUpon

def leC (a b : VC) : Bool := leV a.ver b.ver
theorem leC_pre : Pre leC := ⟨fun a b => leV_pre.total a.ver b.ver, fun a b c => leV_pre.trans a.ver b.ver c.ver⟩
theorem leC_not {a b : VC} : leC a b = false ↔ orderL b.ver a.ver < 0 := by unfold leC leV; simp
theorem leC_yes {a b : VC} : leC a b = true ↔ ¬ orderL b.ver a.ver < 0 := by unfold leC leV; simp
/-- x on its way into S -/
def INS (P S : List VC) (x : VC) (i : Nat) (Q : List VC) : List VC := P ++ (S.take i ++ (x :: (S.drop i ++ Q)))
theorem ins_len {P S : List VC} {x : VC} {i : Nat} {Q : List VC} (hi : i ≤ S.length) : (INS P S x i Q).length = P.length + S.length + 1 + Q.length := by
  unfold INS; simp; omega
theorem ins_x {P S : List VC} {x : VC} {i : Nat} {Q : List VC} (hi : i ≤ S.length) : el (INS P S x i Q) (P.length + i) = x := by
  unfold INS
  rw [el_right]
  have h : (S.take i).length = i := by rw [List.length_take]; omega
  have := el_right (S.take i) (x :: (S.drop i ++ Q)) 0
  rw [h, Nat.add_zero] at this
  rw [this]; rfl
theorem ins_y {P S : List VC} {x : VC} {i : Nat} {Q : List VC} (h0 : 0 < i) (hi : i ≤ S.length) : el (INS P S x i Q) (P.length + i - 1) = el S (i - 1) := by
  unfold INS
  rw [show P.length + i - 1 = P.length + (i - 1) by omega, el_right, el_left _ (by rw [List.length_take]; omega)]
  unfold el
  rw [List.getElem?_take_of_lt (by omega)]
theorem ins_swap {P S : List VC} {x : VC} {i : Nat} {Q : List VC} (h0 : 0 < i) (hi : i ≤ S.length) : swp (INS P S x i Q) (P.length + i - 1) (P.length + i) = INS P S x (i - 1) Q := by
  obtain ⟨k, rfl⟩ : ∃ k, i = k + 1 := ⟨i - 1, by omega⟩
  rw [Nat.add_sub_cancel]
  have e1 : INS P S x (k + 1) Q = (P ++ S.take k) ++ (el S k :: ([] ++ (x :: (S.drop (k + 1) ++ Q)))) := by
    unfold INS
    rw [take_el (by omega)]
    simp
  have hl : (P ++ S.take k).length = P.length + k := by rw [List.length_append, List.length_take]; omega
  have := swp_mid (P ++ S.take k) [] (S.drop (k + 1) ++ Q) (el S k) x
  rw [hl] at this
  rw [e1, show P.length + (k + 1) - 1 = P.length + k by omega, show P.length + (k + 1) = P.length + k + (([] : List VC).length + 1) by simp; omega, this]
  unfold INS
  rw [drop_el (show k < S.length by omega)]
  simp
/-- it is in its place -/
theorem ins_done {P S : List VC} {x : VC} {i : Nat} {Q : List VC} (hS : Srt leC S) (hi : i ≤ S.length) (c1 : 0 < i → leC (el S (i - 1)) x = true) (c2 : i < S.length → leC (el S i) x = false) : INS P S x i Q = P ++ (mrg leC S [x] ++ Q) := by
  rw [one_last leC_pre x hS hi c1 c2]
  unfold INS
  simp
set_option maxHeartbeats 3200000 in
set_option maxRecDepth 100000 in
theorem isort_any (w W : World) (g n ca : Nat) (P X Q : List VC) (p b : Nat) (hp : P.length = p) (hb : p + X.length = b) (hn : P.length + X.length + Q.length = n) (hn1 : n ≤ 1000000) (hr : RW w W g (P ++ (X ++ Q))) :
    Calls Tryz.prog 170 #[.slice (some ⟨g, 0, none⟩) n ca, .int .i64 p, .int .i64 b, .func (.func 22) #[] #[]] W fun e W' => e = .returned (.tuple #[]) ∧ RW w W' g (P ++ (srt leC X ++ Q)) := by
  have hsf := store_fl
  have HR := Lib.hid hr
  have HP := Lib.hid hp
  have HBB := Lib.hid hb
  have HN := Lib.hid hn
  clear hr hp hb hn
  have hpn : p ≤ 1000000 := by have := HP.out; have := HN.out; omega
  have hbn : b ≤ n := by have := HP.out; have := HBB.out; have := HN.out; omega
  go_enter Tryz.func170, Tryz.ntmps170
  go_wp2_with fail
  go_loopw [8] (fun iv wr => ∃ k c : Nat, 1 ≤ k ∧ (k = 1 ∨ k ≤ X.length) ∧ p + k = c ∧ iv = .int .i64 (c : Int) ∧ RW w wr g (P ++ (srt leC (X.take k) ++ (X.drop k ++ Q)))) (fun iv _ => b + 1 - (intOf iv).toNat)
  case atStart =>
    refine ⟨1, p + 1, Nat.le_refl _, .inl rfl, rfl, by go_num, ?_⟩
    have e : srt leC (X.take 1) = X.take 1 := by cases X with
      | nil => rfl
      | cons x X => exact srt_one x
    rw [e, ← List.append_assoc (X.take 1), List.take_append_drop]
    exact HR.out
  case round =>
    obtain ⟨k, c, hk1, hk2, hc0, rfl, hrow⟩ := hrel
    have HCK := Lib.hid hc0
    clear hc0
    by_cases hlt : k < X.length
    · have hlb : decide ((c : Int) < (b : Int)) = true := decide_eq_true (by have := HBB.out; have := HCK.out; omega)
      have hlbn : decide (c < b) = true := decide_eq_true (by have := HBB.out; have := HCK.out; omega)
      have hcb : c ≤ 1000000 := by have := HBB.out; have := HCK.out; omega
      have hS := Lib.hid (srt_sorted leC_pre (X.take k))
      have hSl : (srt leC (X.take k)).length = k := by rw [srt_len, List.length_take]; omega
      have hrow2 : RW w wr g (INS P (srt leC (X.take k)) (el X k) k (X.drop (k + 1) ++ Q)) := by
        unfold INS
        rw [List.take_of_length_le (by omega), List.drop_eq_nil_of_le (by omega), List.nil_append, ← List.cons_append, ← drop_el hlt]
        exact hrow
      have hnext := Lib.hid (show srt leC (X.take (k + 1)) = mrg leC (srt leC (X.take k)) [el X k] by rw [take_el hlt, srt_append leC_pre, srt_one])
      clear hrow
      generalize srt leC (X.take k) = S at *
      generalize el X k = x at *
      have HSL := Lib.hid hSl
      have HROW := Lib.hid hrow2
      clear hSl hrow2
      go_wp2_with fail
      go_loopw [9] (fun jv wr => ∃ i j : Nat, i ≤ k ∧ p + i = j ∧ jv = .int .i64 (j : Int) ∧ RW w wr g (INS P S x i (X.drop (k + 1) ++ Q)) ∧ (i < k → leC (el S i) x = false)) (fun jv _ => (intOf jv).toNat)
      case atStart => exact ⟨k, c, Nat.le_refl _, HCK.out, rfl, HROW.out, fun h => absurd h (Nat.lt_irrefl _)⟩
      case round =>
        clear HROW
        obtain ⟨i, j, hik, hj, rfl, hrow, hc⟩ := hrel
        have HRI := Lib.hid hrow
        have HC := Lib.hid hc
        have HJ := Lib.hid hj
        have hjn : j < n := by have := HP.out; have := HN.out; omega
        clear hrow hc hj
        by_cases h0 : i = 0
        · have q0 : decide ((p : Int) < (j : Int)) = false := decide_eq_false (by have := HJ.out; omega)
          have q0n : decide (p < j) = false := decide_eq_false (by have := HJ.out; omega)
          have hdone := ins_done (P := P) (Q := X.drop (k + 1) ++ Q) hS.out (i := i) (by rw [HSL.out]; omega) (fun h => absurd h0 (by omega)) (fun h => HC.out (by rw [HSL.out] at h; exact h))
          have HD := Lib.hid (show RW w _ g (P ++ (mrg leC S [x] ++ (X.drop (k + 1) ++ Q))) from hdone ▸ HRI.out)
          clear hdone
          go_upto_region 4 with fail
          refine wp_region_allS (by kernel_rfl) (by kernel_rfl) ?_
          repeat (refine wpS_step (fun K hK => ?_); go_simp; first | (refine hK _ ?_; clear hK K) | (apply Exists.intro; refine ⟨fun q => ?_, hK _ ?_⟩; fail; clear hK K))
          refine wpS_nil ?_
          intro q1
          go_wp2_with fail
          go_roundw
          case rel => exact ⟨k + 1, c + 1, by omega, .inr (by omega), by have := HCK.out; omega, by go_num, by rw [hnext.out]; exact HD.out.keep ((Bl.refl _).drew.trans q1.bl)⟩
          case measure => have := HBB.out; have := HCK.out; simp [intOf]; omega
        · have q0 : decide ((p : Int) < (j : Int)) = true := decide_eq_true (by have := HJ.out; omega)
          have q0n : decide (p < j) = true := decide_eq_true (by have := HJ.out; omega)
          obtain ⟨m, hm⟩ : ∃ m, m + 1 = j := ⟨j - 1, by have := HJ.out; omega⟩
          have hw : IntKind.i64.wrap ((j : Int) - 1) = (m : Int) := by rw [IntKind.wrap_i64]; omega
          have hmn : m < n := by omega
          have hik2 : i ≤ S.length := by rw [HSL.out]; exact hik
          have HL := Lib.hid (show (INS P S x i (X.drop (k + 1) ++ Q)).length = n by rw [ins_len hik2, List.length_append, List.length_drop]; have := HP.out; have := HN.out; have := HSL.out; omega)
          have ex := Lib.hid (show el (INS P S x i (X.drop (k + 1) ++ Q)) j = x by rw [← HJ.out, ← HP.out]; exact ins_x hik2)
          have ey := Lib.hid (show el (INS P S x i (X.drop (k + 1) ++ Q)) m = el S (i - 1) by rw [show m = P.length + i - 1 by have := HJ.out; have := HP.out; omega]; exact ins_y (by omega) hik2)
          have HSW := Lib.hid (show swp (INS P S x i (X.drop (k + 1) ++ Q)) m j = INS P S x (i - 1) (X.drop (k + 1) ++ Q) by rw [show m = P.length + i - 1 by have := HJ.out; have := HP.out; omega, ← HJ.out, ← HP.out]; exact ins_swap (by omega) hik2)
          have HDN := Lib.hid (fun h => ins_done (P := P) (Q := X.drop (k + 1) ++ Q) hS.out (i := i) (x := x) hik2 (fun _ => h) (fun h => HC.out (by rw [HSL.out] at h; exact h)))
          have HI0 := Lib.hid h0
          have HM := Lib.hid hm
          have HIK := Lib.hid hik
          clear h0 hm hik hik2
          obtain ⟨y, hy⟩ : ∃ y, el S (i - 1) = y := ⟨_, rfl⟩
          have HY := Lib.hid hy
          rw [hy] at ey HDN
          clear hy
          obtain ⟨L, hLL⟩ : ∃ L, INS P S x i (X.drop (k + 1) ++ Q) = L := ⟨_, rfl⟩
          rw [hLL] at HL ex ey HSW HDN HRI
          clear hLL
          obtain ⟨R, hR⟩ : ∃ R, orderL x.ver y.ver = R := ⟨_, rfl⟩
          have HRR := Lib.hid hR
          clear hR
          go_upto_region 4 with fail
          refine wp_region_allS (by kernel_rfl) (by kernel_rfl) ?_
          have HZ := Lib.hid (HRI.out.keep ((Bl.refl wr).drew))
          clear HRI
          generalize wr.drew = Z at *
          obtain ⟨x0, x1, x2, x3, x4, x5, x6, x7⟩ := HZ.out.all8 (by rw [HL.out]; exact hjn) ex.out
          obtain ⟨y0, y1, y2, y3, y4, y5, y6, y7⟩ := HZ.out.all8 (by rw [HL.out]; exact hmn) ey.out
          have V := Lib.hid (fun q : Ext Z => forder_w x y R q.at (ex.out ▸ (HZ.out.keep q.bl).at_ (by rw [HL.out]; exact hjn)) (ey.out ▸ (HZ.out.keep q.bl).at_ (by rw [HL.out]; exact hmn)) HRR)
          repeat (refine wpS_step (fun K hK => ?_); go_simp; first | (refine hK _ ?_; clear hK K) | (apply Exists.intro; refine ⟨fun q => ?_, hK _ ?_⟩; (with_reducible exact V.out q); clear hK K))
          refine wpS_nil ?_
          intro q1
          have HZ0 := Lib.hid (HZ.out.keep q1.bl)
          clear x0 x1 x2 x3 x4 x5 x6 x7 y0 y1 y2 y3 y4 y5 y6 y7 V HZ
          generalize q1.at = Y at *
          clear q1
          by_cases hR0 : R < 0
          · have qR : decide (R < 0) = true := decide_eq_true hR0
            have HC2 := Lib.hid (show leC y x = false from leC_not.2 (by rw [HRR.out]; exact hR0))
            go_upto_region 6 with fail
            refine wp_region_idx [0, 1, 2, 3, 4, 5, 6, 7, 8, 10, 11, 12] 6 (FrG w g) (fun _ _ h k => h.trans k) HZ0.out.bl.drew (by kernel_rfl) rfl (by kernel_rfl) (by kernel_rfl) ?_
            have HZ := Lib.hid (HZ0.out.keep (Bl.refl _).drew)
            clear HZ0
            generalize World.drew _ = Z at *
            haveI : Nonempty (ExtC (FrG w g)) := ⟨⟨Z, HZ.out.bl⟩⟩
            repeat (refine wpI_step rfl (fun K hK => ?_); go_simp; first | (refine hK _ ?_; clear hK K) | (apply Exists.intro; refine ⟨fun q => ?_, hK _ ?_⟩; fail; clear hK K))
            refine wpI_nil ?_
            clear this
            refine wpAnyE_all (rs := [9, 13]) (by kernel_rfl) (by decide) ?_
            intro i' hi' X1 hx1
            simp only [List.mem_cons, List.not_mem_nil, or_false] at hi'
            have H1 := Lib.hid (HZ.out.keep hx1)
            clear HZ hx1
            rcases hi' with rfl | rfl
            · obtain ⟨e0, e1, e2, e3, e4, e5, e6, e7⟩ := H1.out.at8 (by rw [HL.out]; exact hmn) ey.out
              go_simp
              refine ⟨H1.out.bl, ?_⟩
              clear e0 e1 e2 e3 e4 e5 e6 e7
              refine wpAnyE_one (i := 13) (by kernel_rfl) ?_
              intro X2 hx2
              have H2 := Lib.hid (H1.out.keep hx2)
              clear H1 hx2
              obtain ⟨e0, e1, e2, e3, e4, e5, e6, e7⟩ := H2.out.at8 (by rw [HL.out]; exact hjn) ex.out
              go_simp
              refine ⟨H2.out.bl, ?_⟩
              clear e0 e1 e2 e3 e4 e5 e6 e7
              refine wpAnyE_one (i := 14) (by kernel_rfl) ?_
              intro Xa hx
              have H3 := Lib.hid (H2.out.keep hx)
              clear H2 hx
              go_simp
              refine ⟨H3.out.bl, ?_⟩
              refine wpAnyE_one (i := 15) (by kernel_rfl) ?_
              intro Xb hx
              have H4 := Lib.hid (H3.out.keep hx)
              clear H3 hx
              obtain ⟨e0, e1, e2, e3, e4, e5, e6, e7⟩ := H4.out.cells (j := j) (by rw [HL.out]; exact hjn)
              have f0 := H4.out.frozen (j * 8)
              have f1 := H4.out.frozen (j * 8 + 1)
              have f2 := H4.out.frozen (j * 8 + 2)
              have f3 := H4.out.frozen (j * 8 + 3)
              have f4 := H4.out.frozen (j * 8 + 4)
              have f5 := H4.out.frozen (j * 8 + 5)
              have f6 := H4.out.frozen (j * 8 + 6)
              have f7 := H4.out.frozen (j * 8 + 7)
              go_simp
              have hv1 : VOk _ g _ := ey.out ▸ H4.out.at_ (j := m) (by rw [HL.out]; exact hmn)
              have hv2 : VOk _ g _ := ex.out ▸ H4.out.at_ (j := j) (by rw [HL.out]; exact hjn)
              have k5 := H4.out.st8 (j := j) (by rw [HL.out]; exact hjn) hv1
              have k6 := hv2.st8 (j * 8) y
              unfold st8 at k5 k6
              have HV := Lib.hid k6
              have H5 := Lib.hid k5
              refine ⟨H5.out.bl, ?_⟩
              clear k5 e0 e1 e2 e3 e4 e5 e6 e7 f0 f1 f2 f3 f4 f5 f6 f7 H4 k6 hv1 hv2
              generalize World.setCell _ _ _ = Y0 at *
              refine wpAnyE_one (i := 16) (by kernel_rfl) ?_
              intro Xa hx
              have H6 := Lib.hid (H5.out.keep hx)
              have HV1 := Lib.hid (HV.out.keep hx)
              clear H5 hx HV
              go_simp
              refine ⟨H6.out.bl, ?_⟩
              refine wpAnyE_one (i := 17) (by kernel_rfl) ?_
              intro Xb hx
              have H7 := Lib.hid (H6.out.keep hx)
              have HV2 := Lib.hid (HV1.out.keep hx)
              clear H6 hx HV1
              obtain ⟨e0, e1, e2, e3, e4, e5, e6, e7⟩ := H7.out.cells (j := m) (by rw [List.length_set, HL.out]; exact hmn)
              have f0 := H7.out.frozen (m * 8)
              have f1 := H7.out.frozen (m * 8 + 1)
              have f2 := H7.out.frozen (m * 8 + 2)
              have f3 := H7.out.frozen (m * 8 + 3)
              have f4 := H7.out.frozen (m * 8 + 4)
              have f5 := H7.out.frozen (m * 8 + 5)
              have f6 := H7.out.frozen (m * 8 + 6)
              have f7 := H7.out.frozen (m * 8 + 7)
              go_simp
              have k5 := H7.out.st8 (j := m) (by rw [List.length_set, HL.out]; exact hmn) HV2.out
              unfold st8 at k5
              have H8 := Lib.hid k5
              refine ⟨H8.out.bl, ?_⟩
              clear k5 e0 e1 e2 e3 e4 e5 e6 e7 f0 f1 f2 f3 f4 f5 f6 f7 H7 HV2
              generalize World.setCell _ _ _ = Y1 at *
              refine wpAnyE_done (by kernel_rfl) ?_
              intro X9 hx
              have H9 := Lib.hid (H8.out.keep hx)
              clear H8 hx
              have HE := Lib.hid (show (L.set j y).set m x = INS P S x (i - 1) (X.drop (k + 1) ++ Q) by rw [← HSW.out, swp_comm _ (by rw [HL.out]; exact hmn) (by rw [HL.out]; exact hjn)]; unfold swp; rw [ex.out, ey.out])
              rw [HE.out] at H9
              clear HE
              go_wp2_with fail
              go_roundw
              case rel => exact ⟨i - 1, m, by have := HIK.out; omega, by have := HM.out; have := HJ.out; have := HI0.out; omega, by go_num, H9.out, fun _ => by rw [HY.out]; exact HC2.out⟩
              case measure => have := HM.out; simp [intOf]; omega
            · obtain ⟨e0, e1, e2, e3, e4, e5, e6, e7⟩ := H1.out.at8 (by rw [HL.out]; exact hjn) ex.out
              go_simp
              refine ⟨H1.out.bl, ?_⟩
              clear e0 e1 e2 e3 e4 e5 e6 e7
              refine wpAnyE_one (i := 9) (by kernel_rfl) ?_
              intro X2 hx2
              have H2 := Lib.hid (H1.out.keep hx2)
              clear H1 hx2
              obtain ⟨e0, e1, e2, e3, e4, e5, e6, e7⟩ := H2.out.at8 (by rw [HL.out]; exact hmn) ey.out
              go_simp
              refine ⟨H2.out.bl, ?_⟩
              clear e0 e1 e2 e3 e4 e5 e6 e7
              refine wpAnyE_one (i := 14) (by kernel_rfl) ?_
              intro Xa hx
              have H3 := Lib.hid (H2.out.keep hx)
              clear H2 hx
              go_simp
              refine ⟨H3.out.bl, ?_⟩
              refine wpAnyE_one (i := 15) (by kernel_rfl) ?_
              intro Xb hx
              have H4 := Lib.hid (H3.out.keep hx)
              clear H3 hx
              obtain ⟨e0, e1, e2, e3, e4, e5, e6, e7⟩ := H4.out.cells (j := j) (by rw [HL.out]; exact hjn)
              have f0 := H4.out.frozen (j * 8)
              have f1 := H4.out.frozen (j * 8 + 1)
              have f2 := H4.out.frozen (j * 8 + 2)
              have f3 := H4.out.frozen (j * 8 + 3)
              have f4 := H4.out.frozen (j * 8 + 4)
              have f5 := H4.out.frozen (j * 8 + 5)
              have f6 := H4.out.frozen (j * 8 + 6)
              have f7 := H4.out.frozen (j * 8 + 7)
              go_simp
              have hv1 : VOk _ g _ := ey.out ▸ H4.out.at_ (j := m) (by rw [HL.out]; exact hmn)
              have hv2 : VOk _ g _ := ex.out ▸ H4.out.at_ (j := j) (by rw [HL.out]; exact hjn)
              have k5 := H4.out.st8 (j := j) (by rw [HL.out]; exact hjn) hv1
              have k6 := hv2.st8 (j * 8) y
              unfold st8 at k5 k6
              have HV := Lib.hid k6
              have H5 := Lib.hid k5
              refine ⟨H5.out.bl, ?_⟩
              clear k5 e0 e1 e2 e3 e4 e5 e6 e7 f0 f1 f2 f3 f4 f5 f6 f7 H4 k6 hv1 hv2
              generalize World.setCell _ _ _ = Y0 at *
              refine wpAnyE_one (i := 16) (by kernel_rfl) ?_
              intro Xa hx
              have H6 := Lib.hid (H5.out.keep hx)
              have HV1 := Lib.hid (HV.out.keep hx)
              clear H5 hx HV
              go_simp
              refine ⟨H6.out.bl, ?_⟩
              refine wpAnyE_one (i := 17) (by kernel_rfl) ?_
              intro Xb hx
              have H7 := Lib.hid (H6.out.keep hx)
              have HV2 := Lib.hid (HV1.out.keep hx)
              clear H6 hx HV1
              obtain ⟨e0, e1, e2, e3, e4, e5, e6, e7⟩ := H7.out.cells (j := m) (by rw [List.length_set, HL.out]; exact hmn)
              have f0 := H7.out.frozen (m * 8)
              have f1 := H7.out.frozen (m * 8 + 1)
              have f2 := H7.out.frozen (m * 8 + 2)
              have f3 := H7.out.frozen (m * 8 + 3)
              have f4 := H7.out.frozen (m * 8 + 4)
              have f5 := H7.out.frozen (m * 8 + 5)
              have f6 := H7.out.frozen (m * 8 + 6)
              have f7 := H7.out.frozen (m * 8 + 7)
              go_simp
              have k5 := H7.out.st8 (j := m) (by rw [List.length_set, HL.out]; exact hmn) HV2.out
              unfold st8 at k5
              have H8 := Lib.hid k5
              refine ⟨H8.out.bl, ?_⟩
              clear k5 e0 e1 e2 e3 e4 e5 e6 e7 f0 f1 f2 f3 f4 f5 f6 f7 H7 HV2
              generalize World.setCell _ _ _ = Y1 at *
              refine wpAnyE_done (by kernel_rfl) ?_
              intro X9 hx
              have H9 := Lib.hid (H8.out.keep hx)
              clear H8 hx
              have HE := Lib.hid (show (L.set j y).set m x = INS P S x (i - 1) (X.drop (k + 1) ++ Q) by rw [← HSW.out, swp_comm _ (by rw [HL.out]; exact hmn) (by rw [HL.out]; exact hjn)]; unfold swp; rw [ex.out, ey.out])
              rw [HE.out] at H9
              clear HE
              go_wp2_with fail
              go_roundw
              case rel => exact ⟨i - 1, m, by have := HIK.out; omega, by have := HM.out; have := HJ.out; have := HI0.out; omega, by go_num, H9.out, fun _ => by rw [HY.out]; exact HC2.out⟩
              case measure => have := HM.out; simp [intOf]; omega
          · have qR : decide (R < 0) = false := decide_eq_false hR0
            have HD := Lib.hid (HDN.out (leC_yes.2 (by rw [HRR.out]; exact hR0)) ▸ HZ0.out)
            go_wp2_with fail
            go_roundw
            case rel => exact ⟨k + 1, c + 1, by omega, .inr (by omega), by have := HCK.out; omega, by go_num, by rw [hnext.out]; exact HD.out⟩
            case measure => have := HBB.out; have := HCK.out; simp [intOf]; omega
    · have hlb : decide ((c : Int) < (b : Int)) = false := decide_eq_false (by have := HBB.out; have := HCK.out; omega)
      have hlbn : decide (c < b) = false := decide_eq_false (by have := HBB.out; have := HCK.out; omega)
      have HE := Lib.hid (show P ++ (srt leC (X.take k) ++ (X.drop k ++ Q)) = P ++ (srt leC X ++ Q) by
        rw [List.take_of_length_le (by omega), List.drop_eq_nil_of_le (by omega), List.nil_append])
      rw [HE.out] at hrow
      have HRI := Lib.hid hrow
      clear hrow
      go_wp2_with fail
      go_end0
      exact ⟨rfl, HRI.out⟩
end Go.Proofs.YtfjjnffifnohkaaGreat
end
