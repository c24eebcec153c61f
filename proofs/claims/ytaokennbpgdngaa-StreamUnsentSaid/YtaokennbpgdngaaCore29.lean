import Derived.Test.YtaokennbpgdngaaCore20
import Derived.Test.YtaokennbpgdngaaCore28
import Derived.Test.YtaokennbpgdngaaCore3
import Derived.Test.YtaokennbpgdngaaCore18

/- what txn.Fold keeps: its map, its row. By an AI agent. -/
section
set_option linter.unusedVariables false
set_option linter.unusedSimpArgs false
namespace Go.Proofs.Ytaokennbpgdngaa
open Go.RowKit Go.Maps

theorem klit_inj {a b : ByteArray} (h : klit a = klit b) : a = b := by
  simp only [klit, Lit.string.injEq] at h
  exact toList_inj (by rw [ByteArray.toList_eq, ByteArray.toList_eq]; exact h)
/-- the map of the places of keys -/
structure MapOf (D : DataW Unit) (out : List (ByteArray × ActL)) : Prop where
  is : Maps.IsMap D
  has : ∀ key, Maps.has D (klit key) = out.any (fun q => decide (q.1 = key))
  at_ : ∀ i, i < out.length → ∀ z, D.atKey (klit (nthW out i).1) z = .lit (.int .i64 i)
theorem MapOf.nil : MapOf (.map []) [] := ⟨⟨[], rfl⟩, fun key => rfl, fun i h => absurd h (Nat.not_lt_zero _)⟩
theorem nthW_app {out : List (ByteArray × ActL)} {p : ByteArray × ActL} {i : Nat} (h : i < out.length) : nthW (out ++ [p]) i = nthW out i := by
  rw [nthW_eq (by simp; omega), nthW_eq h, List.getElem_append_left h]
theorem nthW_last (out : List (ByteArray × ActL)) (p : ByteArray × ActL) : nthW (out ++ [p]) out.length = p := by
  rw [nthW_eq (by simp)]; simp
theorem MapOf.put {D : DataW Unit} {out : List (ByteArray × ActL)} (h : MapOf D out) (p : ByteArray × ActL) (hn : out.any (fun q => decide (q.1 = p.1)) = false) :
    MapOf (D.put (klit p.1) (.lit (.int .i64 out.length))) (out ++ [p]) := by
  have hk : WideAt.IsKeyLit (klit p.1) := trivial
  refine ⟨h.is.put _ _, fun key => ?_, fun i hi z => ?_⟩
  · by_cases e : key = p.1
    · subst e
      rw [has_put_same h.is hk, List.any_append]
      simp
    · rw [has_put_other (fun q => e (klit_inj q)), h.has, List.any_append]
      simp [Ne.symm e]
  · rw [List.length_append, List.length_singleton] at hi
    by_cases e : i < out.length
    · have hne : (nthW out i).1 ≠ p.1 := fun q => by
        have h1 := List.any_eq_false.1 hn _ (nthW_mem e)
        simp [q] at h1
      rw [nthW_app e, atKey_put_other (fun q => hne (klit_inj q)), h.at_ i e]
    · obtain rfl : i = out.length := by omega
      rw [nthW_last, atKey_put_same h.is hk]
theorem any_keys (out : List (ByteArray × ActL)) (key : ByteArray) : out.any (fun q => decide (q.1 = key)) = (out.map (·.1)).any (fun q => decide (q = key)) := by
  rw [List.any_map]; rfl
theorem nthW_key {a b : List (ByteArray × ActL)} (h : a.map (·.1) = b.map (·.1)) {i : Nat} (hi : i < a.length) : (nthW a i).1 = (nthW b i).1 := by
  have hl := congrArg List.length h
  rw [List.length_map, List.length_map] at hl
  have := List.getElem_of_eq h (i := i) (by simpa using hi)
  rw [nthW_eq hi, nthW_eq (by omega)]
  simpa using this
theorem MapOf.same {D : DataW Unit} {a b : List (ByteArray × ActL)} (h : MapOf D a) (e : a.map (·.1) = b.map (·.1)) : MapOf D b := by
  refine ⟨h.is, fun key => by rw [h.has, any_keys, any_keys, e], fun i hi z => ?_⟩
  have hl := congrArg List.length e
  rw [List.length_map, List.length_map] at hl
  rw [← nthW_key e (by omega)]
  exact h.at_ i (by omega) z
/-- the place of a key that is there -/
theorem MapOf.find {D : DataW Unit} {out : List (ByteArray × ActL)} (h : MapOf D out) {key : ByteArray} (hh : Maps.has D (klit key) = true) {c : Int} {z : DataW Unit} (hc : D.atKey (klit key) z = .lit (.int .i64 c)) :
    ∃ i : Nat, i < out.length ∧ c = (i : Int) ∧ (nthW out i).1 = key := by
  rw [h.has] at hh
  obtain ⟨q, hq, e⟩ := List.any_eq_true.1 hh
  obtain ⟨i, hi, rfl⟩ := List.getElem_of_mem hq
  have e' : (nthW out i).1 = key := by rw [nthW_eq hi]; simpa using e
  have := h.at_ i hi z
  rw [e', hc] at this
  simp only [DataW.lit.injEq, Lit.int.injEq, true_and] at this
  exact ⟨i, hi, this, e'⟩
theorem addW_set {out : List (ByteArray × ActL)} {p : ByteArray × ActL} {i : Nat} (hi : i < out.length) (e : (nthW out i).1 = p.1) (hd : (out.map (·.1)).Nodup) : addW out p = out.set i (p.1, bothL p.1 (nthW out i).2 p.2) := by
  have hm : p.1 ∈ out.map (·.1) := List.mem_map.2 ⟨nthW out i, nthW_mem hi, e⟩
  rw [addW_old hm]
  refine List.ext_getElem (by simp) fun j h1 h2 => ?_
  rw [List.getElem_map, List.getElem_set]
  rw [List.length_map] at h1
  by_cases ej : i = j
  · subst ej
    have e2 := nthW_eq hi
    rw [e2] at e
    rw [if_pos e, if_pos rfl, e2, e]
  · rw [if_neg ej]
    refine if_neg (fun q => ?_)
    rw [nthW_eq hi] at e
    have hp := List.pairwise_iff_getElem.1 hd
    rcases Nat.lt_or_gt_of_ne ej with h | h
    · exact hp i j (by simpa using hi) (by simpa using h1) h (by simpa using e.trans q.symm)
    · exact hp j i (by simpa using h1) (by simpa using hi) h (by simpa using q.trans e.symm)
theorem addW_fresh {out : List (ByteArray × ActL)} {p : ByteArray × ActL} (h : out.any (fun q => decide (q.1 = p.1)) = false) : addW out p = out ++ [p] := by
  unfold addW
  rw [h]; rfl
theorem foldW_take (ws : List (ByteArray × ActL)) {k : Nat} (hk : k < ws.length) : foldW (ws.take (k + 1)) = addW (foldW (ws.take k)) (nthW ws k) := by
  rw [List.take_succ_eq_append_getElem hk, foldW_snoc, ← nthW_eq hk]
/-- a row of writes, with its block in sight -/
theorem OWR.shape {B : Nat} {w : World} {v : Value} {k : Nat} {ps : List (ByteArray × ActL)} (h : OWR B w v k ps) (hk : 0 < k) : ∃ g ca, v = .slice (some ⟨g, 0, none⟩) k ca ∧ B ≤ g ∧ ∃ cur E, w.heap[g]? = some (.cells cur E (0, 0)) := by
  obtain ⟨h1, ⟨rfl, h2⟩ | ⟨g, cap, cur, rfl, hB, hg, r⟩⟩ := h.2
  · omega
  · exact ⟨g, cap, rfl, hB, cur, _, hg⟩
theorem cellsW_set (ps : List (ByteArray × ActL)) {i : Nat} (hi : i < ps.length) (a : ActL) :
    ((((cellsW ps).set (i * 5 + 1) (.int .i64 a.k)).set (i * 5 + 2) (.float .f64 a.x)).set (i * 5 + 3) (.int .i64 a.n)).set (i * 5 + 4) (.string a.s) = cellsW (ps.set i ((nthW ps i).1, a)) := by
  induction ps generalizing i with
  | nil => simp at hi
  | cons p ps ih =>
    have e1 : cellsW (p :: ps) = writeCs p ++ cellsW ps := by simp [cellsW]
    cases i with
    | zero =>
      rw [e1]
      show _ = cellsW ((p.1, a) :: ps)
      have e2 : cellsW ((p.1, a) :: ps) = writeCs (p.1, a) ++ cellsW ps := by simp [cellsW]
      rw [e2]
      simp [writeCs]
    | succ i =>
      have hi' : i < ps.length := by simpa using hi
      have e3 : nthW (p :: ps) (i + 1) = nthW ps i := by unfold nthW; simp
      have e4 : cellsW ((p :: ps).set (i + 1) ((nthW (p :: ps) (i + 1)).1, a)) = writeCs p ++ cellsW (ps.set i ((nthW ps i).1, a)) := by rw [e3]; simp [cellsW]
      rw [e4, ← ih hi', e1]
      have hl : (writeCs p).length = 5 := rfl
      have key : ∀ (cs : List Value) r u, (writeCs p ++ cs).set ((i + 1) * 5 + r) u = writeCs p ++ cs.set (i * 5 + r) u := fun cs r u => by
        rw [List.set_append_right _ _ (by rw [hl]; omega), hl, show (i + 1) * 5 + r - 5 = i * 5 + r by omega]
      rw [key, key, key, key]
/-- the cells of a place's act, and a new act there -/
theorem OWR.setAct {B : Nat} {w : World} {g k ca : Nat} {ps : List (ByteArray × ActL)} (h : OWR B w (.slice (some ⟨g, 0, none⟩) k ca) k ps) {i : Nat} (hi : i < k) (a : ActL) :
    OWR B ((((w.setCell ⟨g, i * 5 + 1, none⟩ (.int .i64 a.k)).setCell ⟨g, i * 5 + 2, none⟩ (.float .f64 a.x)).setCell ⟨g, i * 5 + 3, none⟩ (.int .i64 a.n)).setCell ⟨g, i * 5 + 4, none⟩ (.string a.s)) (.slice (some ⟨g, 0, none⟩) k ca) k (ps.set i ((nthW ps i).1, a)) := by
  have h1 := (World.ownsRow.stored h.2 (i * 5 + 1) (.int .i64 a.k)).1
  have h2 := (World.ownsRow.stored h1 (i * 5 + 2) (.float .f64 a.x)).1
  have h3 := (World.ownsRow.stored h2 (i * 5 + 3) (.int .i64 a.n)).1
  have h4 := (World.ownsRow.stored h3 (i * 5 + 4) (.string a.s)).1
  refine ⟨by rw [List.length_set]; exact h.1, ?_⟩
  rw [← cellsW_set ps (by rw [h.1]; exact hi)]
  exact h4
/-- the store of an act, its cells and what is frozen -/
structure ActPl (w : World) (g o : Nat) : Prop where
  k : ∃ v, w.cell? ⟨g, o, none⟩ = some v
  x : ∃ v, w.cell? ⟨g, o + 1, none⟩ = some v
  n : ∃ v, w.cell? ⟨g, o + 2, none⟩ = some v
  s : ∃ v, w.cell? ⟨g, o + 3, none⟩ = some v
end Go.Proofs.Ytaokennbpgdngaa
end

/- op.Both. By an AI agent. -/
section
namespace Go.Proofs.Ytaokennbpgdngaa
open Go.RowKit

/-- the three boxes of op.Both -/
structure B3 (w W : World) (k : Int) (x : Nat) (n : Int) (s : ByteArray) (l : Int) (y : Nat) (m : Int) (t : ByteArray) : Prop where
  bl : Bl w W
  a : AC W w.heap.size [.int .i64 k, .float .f64 x, .int .i64 n, .string s]
  b : AC W (w.heap.size + 1) [.int .i64 l, .float .f64 y, .int .i64 m, .string t]
  r : AC W (w.heap.size + 1 + 1) [.int .i64 0, .float .f64 0, .int .i64 0, .string ⟨#[]⟩]
theorem B3.keep {w W W' : World} {k : Int} {x : Nat} {n : Int} {s : ByteArray} {l : Int} {y : Nat} {m : Int} {t : ByteArray} (h : B3 w W k x n s l y m t) (hb : Bl W W') : B3 w W' k x n s l y m t :=
  ⟨h.bl.trans hb, h.a.keep hb, h.b.keep hb, h.r.keep hb⟩
theorem B3.new (w : World) (k : Int) (x : Nat) (n : Int) (s : ByteArray) (l : Int) (y : Nat) (m : Int) (t : ByteArray) (T U V : TypeId) :
    B3 w (((w.alloc (.cells #[.int .i64 k, .float .f64 x, .int .i64 n, .string s] T)).alloc (.cells #[.int .i64 l, .float .f64 y, .int .i64 m, .string t] U)).alloc (.cells #[.int .i64 0, .float .f64 0, .int .i64 0, .string ⟨#[]⟩] V)) k x n s l y m t := by
  refine ⟨(((Bl.refl w).alloc _).alloc _).alloc _, ?_, ?_, ?_⟩
  · exact ((AC.new w _ rfl [_, _, _, _] _).keep ((Bl.refl _).alloc _)).keep ((Bl.refl _).alloc _)
  · exact (AC.new _ (w.heap.size + 1) (by simp) [_, _, _, _] _).keep ((Bl.refl _).alloc _)
  · exact AC.new _ (w.heap.size + 1 + 1) (by simp) [_, _, _, _] _

set_option maxHeartbeats 1600000 in
set_option maxRecDepth 100000 in
theorem both_any (key : ByteArray) (a b : ActL) (w : World) (hkey : key.size ≤ 140737488351232) (oa : a.Ok) (ob : b.Ok) :
    Calls Try.prog 65 #[.string key, a.v, b.v] w fun e w' => e = .returned (bothL key a b).v ∧ Bl w w' := by
  obtain ⟨k, x, n, s⟩ := a
  obtain ⟨l, y, m, t⟩ := b
  have hsf := store_float
  have OA := Lib.hid oa
  have OB := Lib.hid ob
  clear oa ob
  show Calls Try.prog 65 #[.string key, .agg #[.int .i64 k, .float .f64 x, .int .i64 n, .string s], .agg #[.int .i64 l, .float .f64 y, .int .i64 m, .string t]] w _
  cases hr : regB key
  · have HR := Lib.hid hr
    go_enter Try.func65, Try.ntmps65
    go_wp2_with fail
    refine (registers_any key _ hkey).mono ?_
    rintro e w' ⟨rfl, rfl⟩
    rw [hr]
    clear hr
    go_wp2_with fail
    refine (fits_any key ⟨k, x, n, s⟩ _ hkey OA.out).mono ?_
    rintro e w1 ⟨rfl, hb1⟩
    have G := (B3.new w k x n s l y m t _ _ _).keep hb1
    clear hb1
    obtain ⟨a0, a1, a2, a3⟩ := G.a.act
    obtain ⟨b0, b1, b2, b3⟩ := G.b.act
    obtain ⟨r0, r1, r2, r3⟩ := G.r.act
    have f0 := G.r.frozen 0
    have f1 := G.r.frozen 1
    have f2 := G.r.frozen 2
    have f3 := G.r.frozen 3
    cases hf : fitsB key ⟨k, x, n, s⟩
    · have HF := Lib.hid (show bothL key ⟨k, x, n, s⟩ ⟨l, y, m, t⟩ = ⟨l, y, m, t⟩ by simp [bothL, hf])
      clear hf
      go_wp2_with fail
      rw [HF.out]
      refine bodyPost_ret (v := ActL.v ⟨l, y, m, t⟩) (by simp [results, Try.results65, go_sem, ActL.v, r0, r1, r2, r3]) rfl ⟨rfl, ?_⟩
      exact G.bl.store4 (by omega) _ _ _ _
    · have HFA := Lib.hid hf
      clear hf
      go_wp2_with fail
      refine (fits_any key ⟨l, y, m, t⟩ _ hkey OB.out).mono ?_
      rintro e w2 ⟨rfl, hb2⟩
      have G := G.keep hb2
      clear hb2 a0 a1 a2 a3 b0 b1 b2 b3 r0 r1 r2 r3 f0 f1 f2 f3
      obtain ⟨a0, a1, a2, a3⟩ := G.a.act
      obtain ⟨b0, b1, b2, b3⟩ := G.b.act
      obtain ⟨r0, r1, r2, r3⟩ := G.r.act
      have f0 := G.r.frozen 0
      have f1 := G.r.frozen 1
      have f2 := G.r.frozen 2
      have f3 := G.r.frozen 3
      cases hf : fitsB key ⟨l, y, m, t⟩
      · have HF := Lib.hid (show bothL key ⟨k, x, n, s⟩ ⟨l, y, m, t⟩ = ⟨l, y, m, t⟩ by simp [bothL, hf])
        clear hf
        go_wp2_with fail
        rw [HF.out]
        refine bodyPost_ret (v := ActL.v ⟨l, y, m, t⟩) (by simp [results, Try.results65, go_sem, ActL.v, r0, r1, r2, r3]) rfl ⟨rfl, ?_⟩
        exact G.bl.store4 (by omega) _ _ _ _
      · have HF := Lib.hid (show bothL key ⟨k, x, n, s⟩ ⟨l, y, m, t⟩ = joined ⟨k, x, n, s⟩ ⟨l, y, m, t⟩ by simp [bothL, hf, HFA.out, HR.out])
        clear hf
        go_wp2_with fail
        refine (joined_any ⟨k, x, n, s⟩ ⟨l, y, m, t⟩ _ OA.out OB.out).mono ?_
        rintro e w3 ⟨rfl, hb3⟩
        have G := G.keep hb3
        clear hb3 a0 a1 a2 a3 b0 b1 b2 b3 r0 r1 r2 r3 f0 f1 f2 f3
        obtain ⟨r0, r1, r2, r3⟩ := G.r.act
        have f0 := G.r.frozen 0
        have f1 := G.r.frozen 1
        have f2 := G.r.frozen 2
        have f3 := G.r.frozen 3
        generalize joined ⟨k, x, n, s⟩ ⟨l, y, m, t⟩ = J at *
        obtain ⟨jk, jx, jn, js⟩ := J
        rw [show ActL.v ⟨jk, jx, jn, js⟩ = .agg #[.int .i64 jk, .float .f64 jx, .int .i64 jn, .string js] from rfl]
        go_wp2_with fail
        rw [HF.out]
        refine bodyPost_ret (v := ActL.v ⟨jk, jx, jn, js⟩) (by simp [results, Try.results65, go_sem, ActL.v, r0, r1, r2, r3]) rfl ⟨rfl, ?_⟩
        exact G.bl.store4 (by omega) _ _ _ _
  · have HF := Lib.hid (show bothL key ⟨k, x, n, s⟩ ⟨l, y, m, t⟩ = ⟨l, y, m, t⟩ by simp [bothL, hr])
    go_enter Try.func65, Try.ntmps65
    go_wp2_with fail
    refine (registers_any key _ hkey).mono ?_
    rintro e w' ⟨rfl, rfl⟩
    rw [hr]
    clear hr
    go_wp2_with fail
    rw [HF.out]
    refine bodyPost_ret (v := ActL.v ⟨l, y, m, t⟩) (by simp [results, Try.results65, go_sem, ActL.v]) rfl ⟨rfl, ?_⟩
    exact (((Bl.refl w).alloc _).alloc _).alloc _

end Go.Proofs.Ytaokennbpgdngaa
end
