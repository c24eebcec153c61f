/- More of slices of versions that a call makes: one version ahead of an argument's. By an AI agent. -/
import Derived.Test.YtgdlcoicejgdkaaDoorVer5
namespace Go.Proofs.YtgdlcoicejgdkaaDoor
open Go.RowKit

theorem AC.put1 {w : World} {g : Nat} {cs : List Value} (h : AC w g cs) (j : Nat) (v : Value) : AC (w.setCell ⟨g, j, none⟩ v) g (cs.set j v) := by
  obtain ⟨t, h⟩ := h
  refine ⟨t, ?_⟩
  rw [heap_setCell_same w g j _ t _ h]
  simp
theorem AC.set4at {w : World} {g : Nat} {c0 c1 c2 c3 c4 c5 c6 c7 : Value} (h : AC w g [c0, c1, c2, c3, c4, c5, c6, c7]) (a b c d : Value) :
    AC ((((w.setCell ⟨g, 4, none⟩ a).setCell ⟨g, 5, none⟩ b).setCell ⟨g, 6, none⟩ c).setCell ⟨g, 7, none⟩ d) g [c0, c1, c2, c3, a, b, c, d] :=
  (((h.put1 4 a).put1 5 b).put1 6 c).put1 7 d
theorem Bl.store4at {w W : World} (h : Bl w W) {g : Nat} (hg : w.heap.size ≤ g) (a b c d : Value) : Bl w ((((W.setCell ⟨g, 4, none⟩ a).setCell ⟨g, 5, none⟩ b).setCell ⟨g, 6, none⟩ c).setCell ⟨g, 7, none⟩ d) :=
  Below.setCell (p := ⟨g, 7, none⟩) (Below.setCell (p := ⟨g, 6, none⟩) (Below.setCell (p := ⟨g, 5, none⟩) (Below.setCell (p := ⟨g, 4, none⟩) h hg _) hg _) hg _) hg _
/-- the cells of a version's box -/
theorem AC.eight {w : World} {g : Nat} {c0 c1 c2 c3 c4 c5 c6 c7 : Value} (h : AC w g [c0, c1, c2, c3, c4, c5, c6, c7]) :
    w.cell? ⟨g, 0, none⟩ = some c0 ∧ w.cell? ⟨g, 1, none⟩ = some c1 ∧ w.cell? ⟨g, 2, none⟩ = some c2 ∧ w.cell? ⟨g, 3, none⟩ = some c3 ∧ w.cell? ⟨g, 4, none⟩ = some c4 ∧ w.cell? ⟨g, 5, none⟩ = some c5 ∧ w.cell? ⟨g, 6, none⟩ = some c6 ∧ w.cell? ⟨g, 7, none⟩ = some c7 :=
  ⟨h.cell 0 _ rfl, h.cell 1 _ rfl, h.cell 2 _ rfl, h.cell 3 _ rfl, h.cell 4 _ rfl, h.cell 5 _ rfl, h.cell 6 _ rfl, h.cell 7 _ rfl⟩
theorem IA.one {W : World} {g : Nat} {x : Int} (h : AC W g [.int .i64 x]) (hx : -9223372036854775808 ≤ x ∧ x ≤ 9223372036854775807) : IA W (some ⟨g, 0, none⟩) 1 [x] :=
  ⟨rfl, by decide, fun j hj => ⟨g, 0, rfl, fun j hj => by
    obtain rfl : j = 0 := by omega
    exact h.cell 0 _ rfl⟩, fun y hy => by simp at hy; subst hy; exact hx⟩
theorem OVS.lit {B : Nat} {w : World} {cs : List Value} (hl : cs.length = 8) (hB : B ≤ w.heap.size) : OVS B (w.alloc (.cells cs.toArray 30)) (.slice (some ⟨w.heap.size, 0, none⟩) 1 1) 1 cs :=
  ⟨by rw [hl], .inr ⟨w.heap.size, 1, cs.toArray, rfl, hB, heap_alloc_new w _, Nat.le_refl _, by decide, by simp [hl], by simp [hl, List.take_of_length_le]⟩⟩
/-- what is read in an own slice that has one version and then the cells of l -/
theorem va_cons {B : Nat} {w W : World} {a : Option Addr} {n : Nat} {vs : List VerL} {cs : List Value} {v : Value} {c0 c1 c2 c3 c4 c5 c6 c7 : Value} {V : VerL} (h : VA w a n vs) (hs : SC w a n cs) (hb : Bl w W) (ho : OVS B W v (1 + n) ([c0, c1, c2, c3, c4, c5, c6, c7] ++ cs)) (hcap : n + 1 ≤ 140737488351232)
    (e0 : c0 = .string V.key) (e1 : ∃ a0 n0 k0, c1 = .slice a0 n0 k0 ∧ IA W a0 n0 V.at_) (e2 : c2 = .int .i64 V.origin) (e3 : c3 = .int .i64 V.tx) (e4 : c4 = .int .i64 V.act.k) (e5 : c5 = .float .f64 V.act.x) (e6 : c6 = .int .i64 V.act.n) (e7 : c7 = .string V.act.s) (hok : V.act.Ok) :
    ∃ a' ca, v = .slice a' (n + 1) ca ∧ VA W a' (n + 1) (V :: vs) := by
  rw [Nat.add_comm 1 n] at ho
  obtain ⟨g, ca, rfl, _, _, hc⟩ := ho.cells (Nat.succ_pos n)
  refine ⟨_, ca, rfl, ⟨by simp [h.len], hcap, fun j0 _ => ⟨g, 0, rfl, fun j hj => ?_⟩⟩⟩
  cases j with
  | zero =>
    have e : nthR (V :: vs) 0 = V := rfl
    rw [e]
    have hx : ∀ r u, [c0, c1, c2, c3, c4, c5, c6, c7][r]? = some u → W.cell? ⟨g, 0 + 0 * 8 + r, none⟩ = some u := fun r u hu => by
      refine hc _ u ?_
      rw [show 0 + 0 * 8 + r = r by omega]
      have hr : r < 8 := by
        have := (List.getElem?_eq_some_iff.1 hu).1
        simpa using this
      rw [List.getElem?_append_left (by simpa using hr)]
      exact hu
    obtain ⟨a0, n0, k0, e1, hI⟩ := e1
    subst e0; subst e1; subst e2; subst e3; subst e4; subst e5; subst e6; subst e7
    exact ⟨hx 0 _ rfl, ⟨a0, n0, k0, hx 1 _ rfl, hI⟩, hx 2 _ rfl, hx 3 _ rfl, hx 4 _ rfl, hx 5 _ rfl, hx 6 _ rfl, hx 7 _ rfl, hok⟩
  | succ j =>
    have hlt : j < n := by omega
    obtain ⟨b, off, rfl, hv⟩ := h.cells j hlt
    have e : nthR (V :: vs) (j + 1) = nthR vs j := by
      have h1 : j < vs.length := by rw [h.len]; exact hlt
      rw [nthR_eq h1, nthR_eq (by simp; omega)]
      rfl
    rw [e]
    refine (hv j hlt).moved hb fun r hr => ?_
    have hj8 : j * 8 + r < cs.length := by rw [hs.len]; omega
    have h1 := hs.at_ b off rfl (j * 8 + r) cs[j * 8 + r] (List.getElem?_eq_getElem hj8)
    have h2 := hc (8 + (j * 8 + r)) cs[j * 8 + r] (by
      rw [List.getElem?_append_right (by simp), ← List.getElem?_eq_getElem hj8]
      congr 1
      simp)
    rw [show 0 + (j + 1) * 8 + r = 8 + (j * 8 + r) by omega, h2, show off + j * 8 + r = off + (j * 8 + r) by omega, h1]

section
variable {ops : Array Oper}
/-- append(v, l...) where v is the call's own and has one element -/
theorem wpList_app3 {rest : List Oper} {o : Oper} {a : Act} {w : World} {Q : Exit → Act → World → Prop} (hgd : o.guard = none) (s x : Operand)
    (ho : o.op = .call { callee := .builtin .append, args := #[s, x], argTypes := #[22, 22] }) (B : Nat) (j : Nat) (news : List Value) (hs : a.eval s = .slice (some ⟨j, 0, none⟩) 1 1) (hown : OVS B w (.slice (some ⟨j, 0, none⟩) 1 1) 1 news) (hB : B ≤ w.heap.size)
    (ad : Option Addr) (n c : Nat) (cs : List Value) (hx : a.eval x = .slice ad n c) (hsc : SC w ad n cs) (hn : n ≤ 1000)
    (h : ∀ v' w', OVS B w' v' (1 + n) (news ++ cs) → w.grownBy w' (some j) → wpList Tryd.prog ops Q rest (a.put o.dst v') w') : wpList Tryd.prog ops Q (o :: rest) a w := by
  obtain ⟨ti, z, hi, hz, h1, h2, h3⟩ := info_ver'
  have hnil : n = 0 → cs = [] := fun h => List.eq_nil_of_length_eq_zero (by rw [hsc.len, h])
  cases ad with
  | none =>
    have hn0 := hsc.nil rfl
    subst hn0
    have e := hnil rfl
    subst e
    have hr : (Builtin.append_ #[22, 22] o.type #[.slice (some ⟨j, 0, none⟩) 1 1, .slice none 0 c]).run Tryd.prog w = .ok (.slice (some ⟨j, 0, none⟩) 1 1) w := by
      have := run_append_room_src (P := Tryd.prog) w 22 22 o.type 30 ti Tryd.underlying22 hi j 0 1 1 (.slice none 0 c) 0 [] (Src.ofNil w Tryd.underlying22 c) (by decide) (fun k hk => by simp at hk) (fun k hk => by simp at hk)
      simpa [World.setCells] using this
    refine wpList_plain hgd fun _ hK => ?_
    unfold Oper.wp execOp
    simp only [ho, resolve, invoke, builtin, Sem.run_bind, Sem.run_pure, Result.andThen_ok, List.map_toArray, List.map_cons, List.map_nil, hs, hx, hr]
    exact hK _ _ (h _ _ (by simpa using hown) ⟨rfl, rfl, rfl, Nat.le_refl _, fun _ _ _ => rfl⟩)
  | some ad =>
    refine wpList_append_own w hgd s x _ ho B 30 ti z 8 96 Tryd.underlying22 hi hz h1 h2 h3 (by decide) _ 1 news hs hown ad n c cs hx hsc.len ?_ hsc.one (by unfold maxLen; omega) (by omega) hB ?_
    · intro k u hu
      by_cases hn0 : 0 < n
      · obtain ⟨b, off, s'⟩ := ad
        have := hsc.plain b off s' rfl hn0
        subst this
        have := hsc.at_ b off rfl k u hu
        rwa [add_none]
      · rw [hnil (by omega)] at hu
        simp at hu
    · intro v' w' hown hgr _
      exact h v' w' hown hgr
end
end Go.Proofs.YtgdlcoicejgdkaaDoor
