import Derived.Test.YtdjlnpiaehoofaaCore3
import Derived.Deep.RegionHeld
import Derived.Deep.DeepCutAuto

/- rows of versions that are sorted in place. By an AI agent. -/
section
set_option linter.unusedVariables false
set_option linter.unusedSimpArgs false
namespace Go.Proofs.Ytdjlnpiaehoofaa
open Go.RowKit

theorem AC.putj {w : World} {g : Nat} {cs : List Value} (h : AC w g cs) (j : Nat) (v : Value) : AC (w.setCell ⟨g, j, none⟩ v) g (cs.set j v) := by
  obtain ⟨t, h⟩ := h
  exact ⟨t, by rw [heap_setCell_same w g j _ t v h]; simp⟩
/-- a version and where its list lies -/
structure VC where
  key : ByteArray
  ad : Option Addr
  n : Nat
  ca : Nat
  at_ : List Int
  origin : Int
  tx : Int
  act : ActL
instance : Inhabited VC := ⟨⟨nilS, none, 0, 0, [], 0, 0, ⟨0, 0, 0, nilS⟩⟩⟩
def VC.ver (v : VC) : VerL := ⟨v.key, v.at_, v.origin, v.tx, v.act⟩
def VC.cs (v : VC) : List Value := verC v.key v.ad v.n v.ca v.origin v.tx v.act.k v.act.x v.act.n v.act.s
theorem VC.cs_len (v : VC) : v.cs.length = 8 := rfl
def flat (xs : List VC) : List Value := xs.flatMap VC.cs
theorem flat_cons (v : VC) (xs : List VC) : flat (v :: xs) = v.cs ++ flat xs := by unfold flat; rw [List.flatMap_cons]
theorem flat_len : ∀ xs : List VC, (flat xs).length = xs.length * 8
  | [] => rfl
  | v :: xs => by rw [flat_cons, List.length_append, flat_len xs, VC.cs_len, List.length_cons]; omega
theorem flat_get : ∀ (xs : List VC) (j r : Nat), j < xs.length → r < 8 → (flat xs)[j * 8 + r]? = (el xs j).cs[r]?
  | v :: xs, 0, r, _, hr => by rw [flat_cons, List.getElem?_append_left (by rw [VC.cs_len]; omega), Nat.zero_mul, Nat.zero_add]; rfl
  | v :: xs, j + 1, r, hj, hr => by
    rw [flat_cons, List.getElem?_append_right (by rw [VC.cs_len]; omega), VC.cs_len, show (j + 1) * 8 + r - 8 = j * 8 + r by omega, flat_get xs j r (by simpa using hj) hr]
    rfl
def set8 (L : List Value) (o : Nat) (v : VC) : List Value :=
  (((((((L.set o (.string v.key)).set (o + 1) (.slice v.ad v.n v.ca)).set (o + 2) (.int .i64 v.origin)).set (o + 3) (.int .i64 v.tx)).set (o + 4) (.int .i64 v.act.k)).set (o + 5) (.float .f64 v.act.x)).set (o + 6) (.int .i64 v.act.n)).set (o + 7) (.string v.act.s)
theorem set8_len (L : List Value) (o : Nat) (v : VC) : (set8 L o v).length = L.length := by simp [set8]
theorem set8_out {L : List Value} {o i : Nat} (v : VC) (h : i < o ∨ o + 8 ≤ i) : (set8 L o v)[i]? = L[i]? := by
  unfold set8
  rw [List.getElem?_set_ne (by omega), List.getElem?_set_ne (by omega), List.getElem?_set_ne (by omega), List.getElem?_set_ne (by omega), List.getElem?_set_ne (by omega), List.getElem?_set_ne (by omega), List.getElem?_set_ne (by omega), List.getElem?_set_ne (by omega)]
theorem set8_in {L : List Value} {o r : Nat} (v : VC) (hr : r < 8) (h : o + 8 ≤ L.length) : (set8 L o v)[o + r]? = v.cs[r]? := by
  unfold set8
  match r, hr with
  | 0, _ => rw [List.getElem?_set_ne (by omega), List.getElem?_set_ne (by omega), List.getElem?_set_ne (by omega), List.getElem?_set_ne (by omega), List.getElem?_set_ne (by omega), List.getElem?_set_ne (by omega), List.getElem?_set_ne (by omega), Nat.add_zero, List.getElem?_set_self (by omega)]; rfl
  | 1, _ => rw [List.getElem?_set_ne (by omega), List.getElem?_set_ne (by omega), List.getElem?_set_ne (by omega), List.getElem?_set_ne (by omega), List.getElem?_set_ne (by omega), List.getElem?_set_ne (by omega), List.getElem?_set_self (by simp; omega)]; rfl
  | 2, _ => rw [List.getElem?_set_ne (by omega), List.getElem?_set_ne (by omega), List.getElem?_set_ne (by omega), List.getElem?_set_ne (by omega), List.getElem?_set_ne (by omega), List.getElem?_set_self (by simp; omega)]; rfl
  | 3, _ => rw [List.getElem?_set_ne (by omega), List.getElem?_set_ne (by omega), List.getElem?_set_ne (by omega), List.getElem?_set_ne (by omega), List.getElem?_set_self (by simp; omega)]; rfl
  | 4, _ => rw [List.getElem?_set_ne (by omega), List.getElem?_set_ne (by omega), List.getElem?_set_ne (by omega), List.getElem?_set_self (by simp; omega)]; rfl
  | 5, _ => rw [List.getElem?_set_ne (by omega), List.getElem?_set_ne (by omega), List.getElem?_set_self (by simp; omega)]; rfl
  | 6, _ => rw [List.getElem?_set_ne (by omega), List.getElem?_set_self (by simp; omega)]; rfl
  | 7, _ => rw [List.getElem?_set_self (by simp; omega)]; rfl
theorem el_set {xs : List VC} {j : Nat} (hj : j < xs.length) (v : VC) (i : Nat) : el (xs.set j v) i = if i = j then v else el xs i := by
  unfold el
  split
  · subst i; rw [List.getElem?_set_self hj]; rfl
  · rw [List.getElem?_set_ne (by omega)]
theorem set8_flat {xs : List VC} (sp : List Value) {j : Nat} (hj : j < xs.length) (v : VC) : set8 (flat xs ++ sp) (j * 8) v = flat (xs.set j v) ++ sp := by
  have hl := flat_len xs
  have hl2 := flat_len (xs.set j v)
  rw [List.length_set] at hl2
  refine List.ext_getElem? (fun i => ?_)
  by_cases h1 : j * 8 ≤ i ∧ i < j * 8 + 8
  · obtain ⟨r, rfl⟩ : ∃ r, i = j * 8 + r := ⟨i - j * 8, by omega⟩
    rw [set8_in v (by omega) (by rw [List.length_append]; omega), List.getElem?_append_left (by omega), flat_get _ _ _ (by rw [List.length_set]; exact hj) (by omega), el_set hj, if_pos rfl]
  · rw [set8_out v (by omega)]
    by_cases h2 : i < xs.length * 8
    · obtain ⟨k, r, hk, rfl⟩ : ∃ k r, r < 8 ∧ i = k * 8 + r := ⟨i / 8, i % 8, by omega, by omega⟩
      rw [List.getElem?_append_left (by omega), List.getElem?_append_left (by omega), flat_get _ _ _ (by omega) hk, flat_get _ _ _ (by rw [List.length_set]; omega) hk, el_set hj, if_neg (by omega)]
    · rw [List.getElem?_append_right (by omega), List.getElem?_append_right (by omega), hl, hl2]

/-- a version's list is what it says, and lies not in the row itself -/
structure VOk (W : World) (g : Nat) (v : VC) : Prop where
  ia : IA W v.ad v.n v.at_
  ok : v.act.Ok
  far : v.n = 0 ∨ ∀ b off, v.ad = some ⟨b, off, none⟩ → b ≠ g
theorem VOk.keep {W W' : World} {g : Nat} {v : VC} (h : VOk W g v) (hb : Bl W W') : VOk W' g v := ⟨h.ia.keep hb, h.ok, h.far⟩
theorem VOk.set {W : World} {g : Nat} {v : VC} (h : VOk W g v) (j : Nat) (u : Value) : VOk (W.setCell ⟨g, j, none⟩ u) g v := by
  refine ⟨⟨h.ia.len, h.ia.cap, fun i hi => ?_, h.ia.wf⟩, h.ok, h.far⟩
  obtain ⟨b, off, e, hc⟩ := h.ia.cells i hi
  refine ⟨b, off, e, fun k hk => ?_⟩
  have hne : b ≠ g := by
    rcases h.far with q | q
    · omega
    · exact q b off e
  rw [World.cell?_setCell_far _ _ _ _ (show g ≠ b from fun q => hne q.symm)]
  exact hc k hk
/-- the row at g holds xs -/
structure RW (w W : World) (g : Nat) (xs : List VC) : Prop where
  bl : Bl w W
  new : w.heap.size ≤ g
  row : ∃ sp, AC W g (flat xs ++ sp)
  ok : ∀ v ∈ xs, VOk W g v
theorem RW.keep {w W W' : World} {g : Nat} {xs : List VC} (h : RW w W g xs) (hb : Bl W W') : RW w W' g xs := by
  obtain ⟨sp, hr⟩ := h.row
  exact ⟨h.bl.trans hb, h.new, ⟨sp, hr.keep hb⟩, fun v hv => (h.ok v hv).keep hb⟩
theorem RW.cells {w W : World} {g : Nat} {xs : List VC} (h : RW w W g xs) {j : Nat} (hj : j < xs.length) :
    W.cell? ⟨g, j * 8, none⟩ = some (.string (el xs j).key) ∧ W.cell? ⟨g, j * 8 + 1, none⟩ = some (.slice (el xs j).ad (el xs j).n (el xs j).ca) ∧ W.cell? ⟨g, j * 8 + 2, none⟩ = some (.int .i64 (el xs j).origin) ∧ W.cell? ⟨g, j * 8 + 3, none⟩ = some (.int .i64 (el xs j).tx) ∧
    W.cell? ⟨g, j * 8 + 4, none⟩ = some (.int .i64 (el xs j).act.k) ∧ W.cell? ⟨g, j * 8 + 5, none⟩ = some (.float .f64 (el xs j).act.x) ∧ W.cell? ⟨g, j * 8 + 6, none⟩ = some (.int .i64 (el xs j).act.n) ∧ W.cell? ⟨g, j * 8 + 7, none⟩ = some (.string (el xs j).act.s) := by
  obtain ⟨sp, hr⟩ := h.row
  have key : ∀ r v, r < 8 → (el xs j).cs[r]? = some v → W.cell? ⟨g, j * 8 + r, none⟩ = some v := fun r v h8 hv => hr.cell (j * 8 + r) v (by rw [List.getElem?_append_left (by rw [flat_len]; omega), flat_get xs j r hj h8]; exact hv)
  exact ⟨key 0 _ (by decide) rfl, key 1 _ (by decide) rfl, key 2 _ (by decide) rfl, key 3 _ (by decide) rfl, key 4 _ (by decide) rfl, key 5 _ (by decide) rfl, key 6 _ (by decide) rfl, key 7 _ (by decide) rfl⟩
theorem RW.at8 {w W : World} {g : Nat} {xs : List VC} (h : RW w W g xs) {j : Nat} (hj : j < xs.length) {x : VC} (hx : el xs j = x) :
    W.cell? ⟨g, j * 8, none⟩ = some (.string x.key) ∧ W.cell? ⟨g, j * 8 + 1, none⟩ = some (.slice x.ad x.n x.ca) ∧ W.cell? ⟨g, j * 8 + 2, none⟩ = some (.int .i64 x.origin) ∧ W.cell? ⟨g, j * 8 + 3, none⟩ = some (.int .i64 x.tx) ∧
    W.cell? ⟨g, j * 8 + 4, none⟩ = some (.int .i64 x.act.k) ∧ W.cell? ⟨g, j * 8 + 5, none⟩ = some (.float .f64 x.act.x) ∧ W.cell? ⟨g, j * 8 + 6, none⟩ = some (.int .i64 x.act.n) ∧ W.cell? ⟨g, j * 8 + 7, none⟩ = some (.string x.act.s) := by
  subst hx; exact h.cells hj
/-- the facts of one element, in every later world -/
theorem RW.all8 {w Z : World} {g : Nat} {xs : List VC} (h : RW w Z g xs) {j : Nat} (hj : j < xs.length) {x : VC} (hx : el xs j = x) :
    (∀ q : Ext Z, q.at.cell? ⟨g, j * 8, none⟩ = some (.string x.key)) ∧ (∀ q : Ext Z, q.at.cell? ⟨g, j * 8 + 1, none⟩ = some (.slice x.ad x.n x.ca)) ∧ (∀ q : Ext Z, q.at.cell? ⟨g, j * 8 + 2, none⟩ = some (.int .i64 x.origin)) ∧ (∀ q : Ext Z, q.at.cell? ⟨g, j * 8 + 3, none⟩ = some (.int .i64 x.tx)) ∧
    (∀ q : Ext Z, q.at.cell? ⟨g, j * 8 + 4, none⟩ = some (.int .i64 x.act.k)) ∧ (∀ q : Ext Z, q.at.cell? ⟨g, j * 8 + 5, none⟩ = some (.float .f64 x.act.x)) ∧ (∀ q : Ext Z, q.at.cell? ⟨g, j * 8 + 6, none⟩ = some (.int .i64 x.act.n)) ∧ (∀ q : Ext Z, q.at.cell? ⟨g, j * 8 + 7, none⟩ = some (.string x.act.s)) := by
  have k := fun q : Ext Z => (h.keep q.bl).at8 hj hx
  exact ⟨fun q => (k q).1, fun q => (k q).2.1, fun q => (k q).2.2.1, fun q => (k q).2.2.2.1, fun q => (k q).2.2.2.2.1, fun q => (k q).2.2.2.2.2.1, fun q => (k q).2.2.2.2.2.2.1, fun q => (k q).2.2.2.2.2.2.2⟩
theorem RW.frozen {w W : World} {g : Nat} {xs : List VC} (h : RW w W g xs) (j : Nat) : W.frozen? ⟨g, j, none⟩ = false := by
  obtain ⟨sp, hr⟩ := h.row
  exact hr.frozen j
/-- eight cells that are written -/
def st8 (W : World) (g o : Nat) (v : VC) : World :=
  (((((((W.setCell ⟨g, o, none⟩ (.string v.key)).setCell ⟨g, o + 1, none⟩ (.slice v.ad v.n v.ca)).setCell ⟨g, o + 2, none⟩ (.int .i64 v.origin)).setCell ⟨g, o + 3, none⟩ (.int .i64 v.tx)).setCell ⟨g, o + 4, none⟩ (.int .i64 v.act.k)).setCell ⟨g, o + 5, none⟩ (.float .f64 v.act.x)).setCell ⟨g, o + 6, none⟩ (.int .i64 v.act.n)).setCell ⟨g, o + 7, none⟩ (.string v.act.s)
theorem AC.st8 {W : World} {g : Nat} {L : List Value} (h : AC W g L) (o : Nat) (v : VC) : AC (st8 W g o v) g (set8 L o v) :=
  (((((((h.putj o _).putj (o + 1) _).putj (o + 2) _).putj (o + 3) _).putj (o + 4) _).putj (o + 5) _).putj (o + 6) _).putj (o + 7) _
theorem Bl.st8 {w W : World} (h : Bl w W) {g : Nat} (hg : w.heap.size ≤ g) (o : Nat) (v : VC) : Bl w (st8 W g o v) :=
  Below.setCell (p := ⟨g, o + 7, none⟩) (Below.setCell (p := ⟨g, o + 6, none⟩) (Below.setCell (p := ⟨g, o + 5, none⟩) (Below.setCell (p := ⟨g, o + 4, none⟩) (Below.setCell (p := ⟨g, o + 3, none⟩) (Below.setCell (p := ⟨g, o + 2, none⟩) (Below.setCell (p := ⟨g, o + 1, none⟩) (Below.setCell (p := ⟨g, o, none⟩) h hg _) hg _) hg _) hg _) hg _) hg _) hg _) hg _
theorem VOk.st8 {W : World} {g : Nat} {v : VC} (h : VOk W g v) (o : Nat) (u : VC) : VOk (st8 W g o u) g v :=
  (((((((h.set o _).set (o + 1) _).set (o + 2) _).set (o + 3) _).set (o + 4) _).set (o + 5) _).set (o + 6) _).set (o + 7) _
theorem RW.st8 {w W : World} {g : Nat} {xs : List VC} (h : RW w W g xs) {j : Nat} (hj : j < xs.length) {v : VC} (hv : VOk W g v) : RW w (st8 W g (j * 8) v) g (xs.set j v) := by
  obtain ⟨sp, hr⟩ := h.row
  refine ⟨h.bl.st8 h.new _ _, h.new, ⟨sp, by rw [← set8_flat sp hj v]; exact hr.st8 _ _⟩, fun u hu => ?_⟩
  rcases List.mem_or_eq_of_mem_set hu with q | q
  · exact (h.ok u q).st8 _ _
  · subst q; exact hv.st8 _ _
theorem RW.at_ {w W : World} {g : Nat} {xs : List VC} (h : RW w W g xs) {j : Nat} (hj : j < xs.length) : VOk W g (el xs j) := h.ok _ (el_mem hj)
/-- two elements changed for each other -/
def swp (xs : List VC) (i j : Nat) : List VC := (xs.set i (el xs j)).set j (el xs i)
theorem swp_len (xs : List VC) (i j : Nat) : (swp xs i j).length = xs.length := by simp [swp]
theorem swp_mid (P M Q : List VC) (a b : VC) : swp (P ++ (a :: (M ++ (b :: Q)))) P.length (P.length + (M.length + 1)) = P ++ (b :: (M ++ (a :: Q))) := by
  have e1 : el (P ++ (a :: (M ++ (b :: Q)))) P.length = a := by have := el_right P (a :: (M ++ (b :: Q))) 0; rw [Nat.add_zero] at this; rw [this]; rfl
  have e2 : el (P ++ (a :: (M ++ (b :: Q)))) (P.length + (M.length + 1)) = b := by
    rw [el_right, show (a :: (M ++ (b :: Q))) = [a] ++ (M ++ (b :: Q)) from rfl, show M.length + 1 = [a].length + M.length by simp; omega, el_right]
    have := el_right M (b :: Q) 0; rw [Nat.add_zero] at this; rw [this]; rfl
  unfold swp
  rw [e1, e2]
  rw [List.set_append_right _ _ (Nat.le_refl _), Nat.sub_self, List.set_cons_zero, List.set_append_right _ _ (Nat.le_add_right _ _), Nat.add_sub_cancel_left, List.set_cons_succ, List.set_append_right _ _ (Nat.le_refl _), Nat.sub_self, List.set_cons_zero]
theorem swp_comm (xs : List VC) {i j : Nat} (hi : i < xs.length) (hj : j < xs.length) : swp xs i j = swp xs j i := by
  by_cases e : i = j
  · subst e; rfl
  · unfold swp; rw [List.set_comm _ _ (by omega)]
end Go.Proofs.Ytdjlnpiaehoofaa
end

/- fold.at, fold.time, fold.order. By an AI agent. -/
section
set_option linter.unusedVariables false
set_option linter.unusedSimpArgs false
namespace Go.Proofs.Ytdjlnpiaehoofaa
open Go.RowKit
attribute [local go_sem] eOp eOper eUpon

def noPl : Ending := .panicked [{ v := .iface 82 (.agg #[]), recovered := false }]
/-- has a version a time? -/
def hasT (v : VerL) : Bool := (decide (v.origin = 254) && decide (0 < v.at_.length)) || (decide (0 ≤ v.origin) && decide (v.origin < (v.at_.length : Int)))
set_option maxHeartbeats 1600000 in
set_option maxRecDepth 100000 in
theorem fat_any (key : ByteArray) (a : Option Addr) (n ca : Nat) (xs : List Int) (o t : Int) (k : Int) (x : Nat) (m : Int) (s : ByteArray) (w : World) (hx : IA w a n xs) :
    Calls Try.prog 58 #[.agg #[.string key, .slice a n ca, .int .i64 o, .int .i64 t, .int .i64 k, .float .f64 x, .int .i64 m, .string s]] w fun e w' =>
      ((hasT ⟨key, xs, o, t, ⟨k, x, m, s⟩⟩ = true ∧ e = .returned (.int .i64 (timeL ⟨key, xs, o, t, ⟨k, x, m, s⟩⟩))) ∨ (timeL ⟨key, xs, o, t, ⟨k, x, m, s⟩⟩ = 0 ∧ e = noPl)) ∧ Bl w w' := by
  have HX := Lib.hid hx.len
  have hbl := (Bl.refl w).alloc (.cells #[.string key, .slice a n ca, .int .i64 o, .int .i64 t, .int .i64 k, .float .f64 x, .int .i64 m, .string s] 35)
  obtain ⟨T, hT⟩ : ∃ T, timeL ⟨key, xs, o, t, ⟨k, x, m, s⟩⟩ = T := ⟨_, rfl⟩
  obtain ⟨H, hH⟩ : ∃ H, hasT ⟨key, xs, o, t, ⟨k, x, m, s⟩⟩ = H := ⟨_, rfl⟩
  rw [hT, hH]
  have hE : (if o = 254 ∧ 0 < n then maxL xs else if 0 ≤ o ∧ o < (n : Int) then nth xs o.toNat else 0) = T := by
    have := hT
    unfold timeL at this
    simp only [HX.out] at this
    exact this
  have hF : ((decide (o = 254) && decide (0 < n)) || (decide (0 ≤ o) && decide (o < (n : Int)))) = H := by
    have := hH
    unfold hasT at this
    simp only [HX.out] at this
    exact this
  clear hT hH
  by_cases h1 : o = 254 ∧ 0 < n
  · rw [if_pos h1] at hE
    rw [decide_eq_true h1.1, decide_eq_true h1.2] at hF
    subst hE
    subst hF
    obtain ⟨rfl, h0⟩ := h1
    have h0' : (0 : Int) < (n : Int) := by omega
    go_enter Try.func58, Try.ntmps58
    go_wp2_with fail
    refine (maxV_any a n ca xs _ (hx.keep hbl) h0).mono ?_
    rintro e w' ⟨rfl, rfl⟩
    go_wp2_with fail
    go_ret
    exact ⟨.inl ⟨by simp, rfl⟩, hbl⟩
  · rw [if_neg h1] at hE
    by_cases h2 : 0 ≤ o ∧ o < (n : Int)
    · rw [if_pos h2] at hE
      rw [decide_eq_true h2.1, decide_eq_true h2.2, Bool.and_self, Bool.or_true] at hF
      subst hE
      subst hF
      obtain ⟨j, rfl⟩ : ∃ j : Nat, o = j := ⟨o.toNat, by omega⟩
      have hj : j < n := by omega
      obtain ⟨ba, oa, rfl, hcj⟩ := (hx.keep hbl).at_k j hj
      have q : ((j : Int) == 254) = false := by
        rw [beq_eq_false_iff_ne]
        intro h
        exact h1 ⟨h, by omega⟩
      have h3 : (j : Int) < (n : Int) := by omega
      clear h1 h2
      go_enter Try.func58, Try.ntmps58
      go_wp2_with fail
      go_ret
      exact ⟨.inl ⟨by simp, by rw [Int.toNat_natCast]; rfl⟩, hbl⟩
    · rw [if_neg h2] at hE
      subst hE
      clear hF HX
      by_cases h3 : o = 254
      · subst h3
        obtain rfl : n = 0 := by omega
        go_enter Try.func58, Try.ntmps58
        go_wp2_with fail
        exact ⟨rfl, .inr rfl, hbl⟩
      · have q : (o == 254) = false := by rw [beq_eq_false_iff_ne]; exact h3
        by_cases h4 : 0 ≤ o
        · have h5 : ¬ (o < (n : Int)) := fun h => h2 ⟨h4, h⟩
          clear h1 h2 h3
          go_enter Try.func58, Try.ntmps58
          go_wp2_with fail
          exact ⟨rfl, .inr rfl, hbl⟩
        · clear h1 h2 h3
          go_enter Try.func58, Try.ntmps58
          go_wp2_with fail
          exact ⟨rfl, .inr rfl, hbl⟩
theorem tcatch_idle (a0 : Addr) (w : World) :
    CallsD Try.prog 57 #[.pointer (some a0)] .returning w fun e u' w' => e = .returned (.tuple #[]) ∧ u' = .returning ∧ w' = w := by
  refine callsD_of_wpS Try.func57 rfl fun c₀ cs hu => ?_
  apply wpS_seq
  apply wpS_region
  simp [wpOpsS, go_sem, recoverD, hu, Try.ntmps57, Exit.thenS]
  apply wpS_seq
  apply wpS_region
  simp [wpOpsS, go_sem, Exit.thenS]
  refine wpS_cond (t := false) (by simp [Act.eval, Array.replicate]) ?_
  simp only [Bool.false_eq_true, if_false]
  refine wpS_of_wp (wp_skip ?_)
  cases c₀
  simp_all [bodyPostS, results, Try.results57]
theorem assert_place (w : World) : (Instr.typeAssert (.iface 82 (.agg #[])) 20 82 true).run Try.prog w = .ok (.tuple #[.agg #[], .bool true]) w := by
  simp [Instr.typeAssert, run_underlying Try.underlying82]
set_option maxHeartbeats 1600000 in
set_option maxRecDepth 100000 in
theorem tcatch_code (g0 : Nat) (v0 : Value) (older : List PanicEntry) (w : World) (h0 : C1 w g0 v0) :
    CallsD Try.prog 57 #[.pointer (some ⟨g0, 0, none⟩)] (.panicking ({ v := .iface 82 (.agg #[]), recovered := false } :: older)) w fun e u' w' =>
      e = .returned (.tuple #[]) ∧ u' = .panicking ({ v := .iface 82 (.agg #[]), recovered := true } :: older) ∧ ∃ w1, Bl w w1 ∧ w' = w1.setCell ⟨g0, 0, none⟩ (.int .i64 0) := by
  have k0 := (h0.alloc (.cells #[] 82)).cell
  have f0 := (h0.alloc (.cells #[] 82)).frozen
  have hb : Bl w (w.alloc (.cells #[] 82)) := (Bl.refl w).alloc _
  refine callsD_of_wpS Try.func57 rfl fun c₀ cs hu => ?_
  apply wpS_seq
  apply wpS_region
  simp [wpOpsS, go_sem, recoverD, hu, Try.ntmps57, Exit.thenS]
  apply wpS_seq
  apply wpS_region
  simp [wpOpsS, go_sem, Exit.thenS]
  refine wpS_cond (t := true) (by simp [Act.eval, Array.replicate]) ?_
  simp only [if_true]
  apply wpS_seq
  apply wpS_seq
  apply wpS_region
  simp [wpOpsS, go_sem, Exit.thenS, assert_place, recoverD]
  apply wpS_seq
  apply wpS_region
  simp [wpOpsS, go_sem, Exit.thenS, recoverD]
  refine wpS_cond (t := false) (by simp [Act.eval, Array.replicate]) ?_
  simp only [Bool.false_eq_true, if_false]
  refine wpS_of_wp (wp_skip ?_)
  simp only [Exit.thenS]
  apply wpS_region
  simp [wpOpsS, go_sem, k0, f0, recoverD, bodyPostS, results, Try.results57]
  exact ⟨_, hb, rfl⟩
theorem time_results {tmps : Array Value} {W : World} {g0 : Nat} {e : Int} (h0 : tmps.getD 2 undef = .pointer (some ⟨g0, 0, none⟩)) (c0 : C1 W g0 (.int .i64 e)) :
    (results Try.f42 tmps).run Try.prog W = .ok (.int .i64 e) W := by
  rw [Array.getD_eq_getD_getElem?] at h0
  have k0 := c0.cell
  simp [results, Try.results42, go_sem, h0, k0]
set_option maxHeartbeats 1600000 in
set_option maxRecDepth 100000 in
theorem ftime_any (key : ByteArray) (a : Option Addr) (n ca : Nat) (xs : List Int) (o t : Int) (k : Int) (x : Nat) (m : Int) (s : ByteArray) (T : Int) (w : World) (hx : IA w a n xs)
    (HT : Hid (timeL ⟨key, xs, o, t, ⟨k, x, m, s⟩⟩ = T)) :
    Calls Try.prog 42 #[.agg #[.string key, .slice a n ca, .int .i64 o, .int .i64 t, .int .i64 k, .float .f64 x, .int .i64 m, .string s]] w fun e w' => e = .returned (.int .i64 T) ∧ Bl w w' := by
  have hmf := hmf
  have hsf := store_fl
  have G := AC.new w w.heap.size rfl (verC key a n ca o t k x m s) 35
  have hb0 := (Bl.refl w).alloc (.cells (verC key a n ca o t k x m s).toArray 35)
  have hb := hb0.alloc (.cells #[.int .i64 0] 3)
  have c0 := C1.new (w.alloc (.cells (verC key a n ca o t k x m s).toArray 35)) (w.heap.size + 1) (by simp) (.int .i64 0) 3
  have G2 := G.keep ((Bl.refl _).alloc (.cells #[.int .i64 0] 3))
  have H := Lib.hid (fun w hx => fat_any key a n ca xs o t k x m s w hx)
  rw [HT.out] at H
  unfold verC at *
  obtain ⟨a0, a1, a2, a3, a4, a5, a6, a7⟩ := AC.ver (key := key) (a := a) (n := n) (ca := ca) (o := o) (t := t) (k := k) (x := x) (m := m) (s := s) G2
  have HX := Lib.hid (hx.keep hb)
  clear G G2 hb0 hx
  go_enter_defers Try.func42, Try.ntmps42
  go_wp2_with fail
  generalize (w.alloc _).alloc _ = W at *
  refine (H.out _ HX.out).mono ?_
  rintro e w1 ⟨⟨hh, rfl⟩ | ⟨h0, rfl⟩, hb1⟩
  · have d0 := c0.keep hb1
    have HB := Lib.hid (hb.trans hb1)
    have HD := Lib.hid d0
    have k0 := d0.cell
    have f0 := d0.frozen
    clear d0 c0 hb hb1 hh a0 a1 a2 a3 a4 a5 a6 a7
    go_wp2_with fail
    refine leaves_cons (f := 57) (args := #[.pointer (some ⟨w.heap.size + 1, 0, none⟩)]) (by simp) (by simp [go_sem]) ?_
    refine (tcatch_idle _ _).mono ?_
    rintro e u' w'' ⟨rfl, rfl, rfl⟩
    exact leaves_ret (time_results rfl (HD.out.set (.int .i64 T))) ⟨rfl, HB.out.setCell (p := ⟨w.heap.size + 1, 0, none⟩) (Nat.le_succ _) _⟩
  · have d0 := c0.keep hb1
    have HB := Lib.hid (hb.trans hb1)
    clear c0 hb hb1 a0 a1 a2 a3 a4 a5 a6 a7
    unfold noPl
    subst h0
    refine leaves_cons (f := 57) (args := #[.pointer (some ⟨w.heap.size + 1, 0, none⟩)]) (by simp) (by simp [go_sem]) ?_
    refine (tcatch_code (w.heap.size + 1) _ [] _ d0).mono ?_
    rintro e u' w'' ⟨rfl, rfl, w2, hb2, rfl⟩
    exact leaves_back (time_results rfl ((d0.keep hb2).set (.int .i64 0))) ⟨rfl, (HB.out.trans hb2).setCell (p := ⟨w.heap.size + 1, 0, none⟩) (Nat.le_succ _) _⟩
set_option maxHeartbeats 3200000 in
set_option maxRecDepth 100000 in
theorem forder_any (key : ByteArray) (a : Option Addr) (n ca : Nat) (xs : List Int) (o t : Int) (k : Int) (x : Nat) (m : Int) (s : ByteArray)
    (key2 : ByteArray) (a2 : Option Addr) (n2 ca2 : Nat) (ys : List Int) (o2 t2 : Int) (k2 : Int) (x2 : Nat) (m2 : Int) (s2 : ByteArray) (T1 T2 c1 c2 c3 c4 c5 R : Int) (w : World) (hx : IA w a n xs) (hy : IA w a2 n2 ys)
    (H1 : Hid (timeL ⟨key, xs, o, t, ⟨k, x, m, s⟩⟩ = T1)) (H2 : Hid (timeL ⟨key2, ys, o2, t2, ⟨k2, x2, m2, s2⟩⟩ = T2))
    (C1 : Hid (Lib.compareInt T2 T1 = c1)) (C2 : Hid (Lib.compareInt o2 o = c2)) (C3 : Hid (Lib.compareInt t2 t = c3)) (C4 : Hid (Lib.compareInt (n : Int) (n2 : Int) = c4)) (C5 : Hid (cmpV xs ys = c5)) (HR : Hid (orL [c1, c2, c3, c4, c5] = R)) :
    Calls Try.prog 36 #[.agg #[.string key, .slice a n ca, .int .i64 o, .int .i64 t, .int .i64 k, .float .f64 x, .int .i64 m, .string s], .agg #[.string key2, .slice a2 n2 ca2, .int .i64 o2, .int .i64 t2, .int .i64 k2, .float .f64 x2, .int .i64 m2, .string s2]] w fun e w' => e = .returned (.int .i64 R) ∧ Bl w w' := by
  have G := O2.new w (verC key a n ca o t k x m s) (verC key2 a2 n2 ca2 o2 t2 k2 x2 m2 s2) 35 35
  unfold verC at G
  go_enter Try.func36, Try.ntmps36
  go_wp2_with fail
  generalize (w.alloc (.cells #[.string key, .slice a n ca, .int .i64 o, .int .i64 t, .int .i64 k, .float .f64 x, .int .i64 m, .string s] 35)).alloc (.cells #[.string key2, .slice a2 n2 ca2, .int .i64 o2, .int .i64 t2, .int .i64 k2, .float .f64 x2, .int .i64 m2, .string s2] 35) = W0 at *
  refine wp_region_ext 27 3 (by kernel_rfl) rfl (by kernel_rfl) (by kernel_rfl) ?_
  have G := G.keep ((Bl.refl W0).drew)
  generalize W0.drew = W at *
  have a0 : ∀ n : Ext W, _ := fun n => (G.keep n.bl).a.cell 0 _ rfl
  have a1 : ∀ n : Ext W, _ := fun n => (G.keep n.bl).a.cell 1 _ rfl
  have a2' : ∀ n : Ext W, _ := fun n => (G.keep n.bl).a.cell 2 _ rfl
  have a3 : ∀ n : Ext W, _ := fun n => (G.keep n.bl).a.cell 3 _ rfl
  have a4 : ∀ n : Ext W, _ := fun n => (G.keep n.bl).a.cell 4 _ rfl
  have a5 : ∀ n : Ext W, _ := fun n => (G.keep n.bl).a.cell 5 _ rfl
  have a6 : ∀ n : Ext W, _ := fun n => (G.keep n.bl).a.cell 6 _ rfl
  have a7 : ∀ n : Ext W, _ := fun n => (G.keep n.bl).a.cell 7 _ rfl
  have b0 : ∀ n : Ext W, _ := fun n => (G.keep n.bl).b.cell 0 _ rfl
  have b1 : ∀ n : Ext W, _ := fun n => (G.keep n.bl).b.cell 1 _ rfl
  have b2 : ∀ n : Ext W, _ := fun n => (G.keep n.bl).b.cell 2 _ rfl
  have b3 : ∀ n : Ext W, _ := fun n => (G.keep n.bl).b.cell 3 _ rfl
  have b4 : ∀ n : Ext W, _ := fun n => (G.keep n.bl).b.cell 4 _ rfl
  have b5 : ∀ n : Ext W, _ := fun n => (G.keep n.bl).b.cell 5 _ rfl
  have b6 : ∀ n : Ext W, _ := fun n => (G.keep n.bl).b.cell 6 _ rfl
  have b7 : ∀ n : Ext W, _ := fun n => (G.keep n.bl).b.cell 7 _ rfl
  have hX : ∀ n' : Ext W, IA n'.at a n xs := fun n' => hx.keep (G.bl.trans n'.bl)
  have hY : ∀ n' : Ext W, IA n'.at a2 n2 ys := fun n' => hy.keep (G.bl.trans n'.bl)
  have HXY := Lib.hid (And.intro hX hY)
  clear hX hY
  have hcv : ∀ n' : Ext W, Calls Try.prog 54 #[.slice a n ca, .slice a2 n2 ca2] n'.at fun e w' => e = .returned (.int .i64 c5) ∧ Bl n'.at w' := fun n' => by
    refine (cmpV_any a a2 n n2 ca ca2 xs ys _ (HXY.out.1 n') (HXY.out.2 n')).mono ?_
    rintro e w' ⟨rfl, rfl⟩
    rw [C5.out]
    exact ⟨rfl, Bl.refl _⟩
  have HCV := Lib.hid hcv
  clear hcv
  simp only [List.take_succ_cons, List.take_zero]
  repeat (refine wpE_step (fun K hK => ?_); go_simp; first | (refine hK _ ?_; clear hK K) | (apply Exists.intro; refine ⟨fun n => ?_, hK _ ?_⟩; (first | exact ftime_any _ _ _ _ _ _ _ _ _ _ _ _ _ (HXY.out.1 n) H1 | exact ftime_any _ _ _ _ _ _ _ _ _ _ _ _ _ (HXY.out.2 n) H2 | exact cmpI_any _ _ _ _ C1 | exact cmpI_any _ _ _ _ C2 | exact cmpI_any _ _ _ _ C3 | exact cmpI_any _ _ _ _ C4 | exact HCV.out n); clear hK K))
  refine wpE_nil ?_
  clear a0 a1 a2' a3 a4 a5 a6 a7 b0 b1 b2 b3 b4 b5 b6 b7
  refine wpAnyE_one (i := 27) (by kernel_rfl) ?_
  intro W1 hb1
  go_simp
  have cg := AC.new W1 W1.heap.size rfl [.int .i64 c1, .int .i64 c2, .int .i64 c3, .int .i64 c4, .int .i64 c5] 3
  replace hb1 := hb1.alloc (.cells #[.int .i64 c1, .int .i64 c2, .int .i64 c3, .int .i64 c4, .int .i64 c5] 3)
  refine ⟨hb1, ?_⟩
  generalize W1.alloc (.cells #[.int .i64 c1, .int .i64 c2, .int .i64 c3, .int .i64 c4, .int .i64 c5] 3) = W2 at *
  generalize W1.heap.size = g at *
  refine wpAnyE_one (i := 28) (by kernel_rfl) ?_
  intro W3 hb3
  replace cg := cg.keep hb3
  replace hb1 := hb1.trans hb3
  go_simp
  refine (or_any g 5 [c1, c2, c3, c4, c5] _ rfl (by decide) ?_).mono ?_
  · intro j hj
    match j, hj with
    | 0, _ => exact cg.cell 0 _ rfl
    | 1, _ => exact cg.cell 1 _ rfl
    | 2, _ => exact cg.cell 2 _ rfl
    | 3, _ => exact cg.cell 3 _ rfl
    | 4, _ => exact cg.cell 4 _ rfl
  rintro e w' ⟨rfl, rfl⟩
  rw [HR.out]
  refine ⟨_, rfl, hb1, ?_⟩
  refine wpAnyE_one (i := 29) (by kernel_rfl) ?_
  intro W4 hb4
  replace hb1 := hb1.trans hb4
  go_simp
  refine ⟨by kernel_rfl, ?_⟩
  intro W5 hb5
  have hbn := G.bl.trans (hb1.trans hb5)
  go_wp2_with fail
  go_ret
  exact ⟨rfl, hbn⟩
def VC.v (v : VC) : Value := .agg #[.string v.key, .slice v.ad v.n v.ca, .int .i64 v.origin, .int .i64 v.tx, .int .i64 v.act.k, .float .f64 v.act.x, .int .i64 v.act.n, .string v.act.s]
/-- fold.order of two elements -/
theorem forder_c (a b : VC) (R : Int) (w : World) {g : Nat} (ha : VOk w g a) (hb : VOk w g b) (hR : Hid (orderL a.ver b.ver = R)) : Calls Try.prog 36 #[a.v, b.v] w fun e w' => e = .returned (.int .i64 R) ∧ Bl w w' := by
  have hla := ha.ia.len
  have hlb := hb.ia.len
  obtain ⟨k, ad, n, ca, xs, o, t, ⟨ak, ax, an, az⟩⟩ := a
  obtain ⟨k', ad', n', ca', xs', o', t', ⟨ak', ax', an', az'⟩⟩ := b
  dsimp only at hla hlb
  refine forder_any k ad n ca xs o t ak ax an az k' ad' n' ca' xs' o' t' ak' ax' an' az' _ _ _ _ _ _ _ R w ha.ia hb.ia (Lib.hid rfl) (Lib.hid rfl) (Lib.hid rfl) (Lib.hid rfl) (Lib.hid rfl) (Lib.hid rfl) (Lib.hid rfl) (Lib.hid ?_)
  rw [← hR.out]
  unfold orderL VC.ver
  dsimp only
  rw [hla, hlb]
theorem forder_w (x y : VC) (R : Int) (w : World) {g : Nat} (hx : VOk w g x) (hy : VOk w g y) (hR : Hid (orderL x.ver y.ver = R)) :
    Calls Try.prog 36 #[.agg #[.string x.key, .slice x.ad x.n x.ca, .int .i64 x.origin, .int .i64 x.tx, .int .i64 x.act.k, .float .f64 x.act.x, .int .i64 x.act.n, .string x.act.s], .agg #[.string y.key, .slice y.ad y.n y.ca, .int .i64 y.origin, .int .i64 y.tx, .int .i64 y.act.k, .float .f64 y.act.x, .int .i64 y.act.n, .string y.act.s]] w fun e w' => e = .returned (.int .i64 R) ∧ Bl w w' := forder_c x y R w hx hy hR
end Go.Proofs.Ytdjlnpiaehoofaa
end
