/- Slices of versions that a call makes: append(nil, l...) and append(.., v). By an AI agent. -/
import Derived.Test.YtgdlcoicejgdkaaDoorVer4
import Derived.Deep.AppendSrc
import Derived.Maps.OwnRows
namespace Go.Proofs.YtgdlcoicejgdkaaDoor
open Go.RowKit

theorem add_none (b off j : Nat) : (⟨b, off, none⟩ : Addr).add j = ⟨b, off + j, none⟩ := by
  unfold Addr.add; split <;> simp_all
theorem info_ver : (Tryd.prog.info? 30).map (fun i => (i.zero.map (fun z => z.cells.size), i.size, i.bytes)) = some (some 8, 8, 96) := by kernel_rfl
theorem info_ver' : ∃ i z, Tryd.prog.info? 30 = some i ∧ i.zero = some z ∧ i.size = 8 ∧ i.bytes = 96 ∧ z.cells.size = 8 := by
  have h := info_ver
  cases hi : Tryd.prog.info? 30 with
  | none => rw [hi] at h; cases h
  | some i =>
    rw [hi] at h
    simp only [Option.map_some, Option.some.injEq, Prod.mk.injEq] at h
    obtain ⟨h1, h2, h3⟩ := h
    cases hz : i.zero with
    | none => rw [hz] at h1; cases h1
    | some z =>
      rw [hz] at h1
      simp only [Option.map_some, Option.some.injEq] at h1
      exact ⟨i, z, rfl, hz, h2, h3, h1⟩

/-- the cells of a slice of versions -/
structure SC (w : World) (a : Option Addr) (n : Nat) (cs : List Value) : Prop where
  len : cs.length = n * 8
  at_ : ∀ b off, a = some ⟨b, off, none⟩ → ∀ j u, cs[j]? = some u → w.cell? ⟨b, off + j, none⟩ = some u
  nil : a = none → n = 0
  plain : ∀ b off s, a = some ⟨b, off, s⟩ → 0 < n → s = none
  one : ∀ u ∈ cs, u.oneCell' = true
theorem VE.cell8 {w : World} {b off : Nat} {v : VerL} (h : VE w b off v) (r : Nat) (hr : r < 8) : ∃ u, w.cell? ⟨b, off + r, none⟩ = some u ∧ u.oneCell' = true := by
  obtain ⟨a, n, ca, h1, _⟩ := h.at_
  have hc : r = 0 ∨ r = 1 ∨ r = 2 ∨ r = 3 ∨ r = 4 ∨ r = 5 ∨ r = 6 ∨ r = 7 := by omega
  rcases hc with rfl | rfl | rfl | rfl | rfl | rfl | rfl | rfl
  · exact ⟨_, h.c0, rfl⟩
  · exact ⟨_, h1, rfl⟩
  · exact ⟨_, h.c2, rfl⟩
  · exact ⟨_, h.c3, rfl⟩
  · exact ⟨_, h.c4, rfl⟩
  · exact ⟨_, h.c5, rfl⟩
  · exact ⟨_, h.c6, rfl⟩
  · exact ⟨_, h.c7, rfl⟩
/-- one element read at another place -/
theorem VE.moved {w w' : World} {b off b' off' : Nat} {v : VerL} (h : VE w b off v) (hb : Bl w w') (hc : ∀ r, r < 8 → w'.cell? ⟨b', off' + r, none⟩ = w.cell? ⟨b, off + r, none⟩) : VE w' b' off' v := by
  obtain ⟨a, n, ca, h1, h2⟩ := h.at_
  exact ⟨(hc 0 (by decide)).trans h.c0, ⟨a, n, ca, (hc 1 (by decide)).trans h1, h2.keep hb⟩, (hc 2 (by decide)).trans h.c2, (hc 3 (by decide)).trans h.c3, (hc 4 (by decide)).trans h.c4, (hc 5 (by decide)).trans h.c5, (hc 6 (by decide)).trans h.c6, (hc 7 (by decide)).trans h.c7, h.ok⟩
theorem va_src {w : World} {a : Option Addr} {n : Nat} {vs : List VerL} (h : VA w a n vs) : ∃ cs, SC w a n cs := by
  by_cases hn : 0 < n
  · obtain ⟨b, off, rfl, hc⟩ := h.cells 0 hn
    have hex : ∀ j, j < n * 8 → ∃ u, w.cell? ⟨b, off + j, none⟩ = some u ∧ u.oneCell' = true := fun j hj => by
      have := (hc (j / 8) (by omega)).cell8 (j % 8) (by omega)
      rwa [show off + j / 8 * 8 + j % 8 = off + j by omega] at this
    refine ⟨(List.range (n * 8)).map (fun j => (w.cell? ⟨b, off + j, none⟩).getD undef), by simp, ?_, (fun h => by cases h), ?_, ?_⟩
    · intro b' off' e j u hu
      simp only [Option.some.injEq, Addr.mk.injEq] at e
      obtain ⟨rfl, rfl, _⟩ := e
      by_cases hj : j < n * 8
      · obtain ⟨u', h1, _⟩ := hex j hj
        simp [hj, h1] at hu
        rw [h1, hu]
      · simp [hj] at hu
    · intro b' off' s e _
      simp only [Option.some.injEq, Addr.mk.injEq] at e
      exact e.2.2.symm
    · intro u hu
      simp only [List.mem_map, List.mem_range] at hu
      obtain ⟨j, hj, rfl⟩ := hu
      obtain ⟨u', h1, h2⟩ := hex j hj
      rw [h1]; exact h2
  · have : n = 0 := by omega
    subst this
    exact ⟨[], by simp, by simp, fun _ => rfl, fun _ _ _ _ h => absurd h hn, by simp⟩
theorem SC.keep {w w' : World} {a : Option Addr} {n : Nat} {cs : List Value} (h : SC w a n cs) (hb : Bl w w') : SC w' a n cs :=
  ⟨h.len, fun b off e j u hu => hb.cell (h.at_ b off e j u hu), h.nil, h.plain, h.one⟩

/-- an own slice of versions -/
def OVS (B : Nat) (w : World) (v : Value) (n : Nat) (cs : List Value) : Prop := w.ownsRow B 30 8 v n cs
theorem OVS.keep {B n : Nat} {w w' : World} {v : Value} {cs : List Value} (h : OVS B w v n cs) (hb : Bl w w') : OVS B w' v n cs := ownsRow_bl h hb
theorem OVS.cells {B n : Nat} {w : World} {v : Value} {cs : List Value} (h : OVS B w v n cs) (hn : 0 < n) : ∃ g ca, v = .slice (some ⟨g, 0, none⟩) n ca ∧ B ≤ g ∧ g < w.heap.size ∧ ∀ j u, cs[j]? = some u → w.cell? ⟨g, j, none⟩ = some u := by
  have h' := h
  obtain ⟨h1, ⟨_, h2⟩ | ⟨g, cap, cur, rfl, hB, hg, _⟩⟩ := h'
  · omega
  · refine ⟨g, cap, rfl, hB, lt_of_heap hg, fun j u hu => ?_⟩
    have := World.ownsRow.cells h (g := g) rfl j u hu
    rwa [add_none, Nat.zero_add] at this
/-- what is read in an own slice that has the cells of l and then of others -/
theorem va_own {B : Nat} {w W : World} {a : Option Addr} {n : Nat} {vs : List VerL} {cs : List Value} {v : Value} {c0 c1 c2 c3 c4 c5 c6 c7 : Value} {V : VerL} (h : VA w a n vs) (hs : SC w a n cs) (hb : Bl w W) (ho : OVS B W v (n + 1) (cs ++ [c0, c1, c2, c3, c4, c5, c6, c7])) (hcap : n + 1 ≤ 140737488351232)
    (e0 : c0 = .string V.key) (e1 : ∃ a0 n0 k0, c1 = .slice a0 n0 k0 ∧ IA W a0 n0 V.at_) (e2 : c2 = .int .i64 V.origin) (e3 : c3 = .int .i64 V.tx) (e4 : c4 = .int .i64 V.act.k) (e5 : c5 = .float .f64 V.act.x) (e6 : c6 = .int .i64 V.act.n) (e7 : c7 = .string V.act.s) (hok : V.act.Ok) :
    ∃ a' ca, v = .slice a' (n + 1) ca ∧ VA W a' (n + 1) (vs ++ [V]) := by
  obtain ⟨g, ca, rfl, _, _, hc⟩ := ho.cells (Nat.succ_pos n)
  refine ⟨_, ca, rfl, ⟨by simp [h.len], hcap, fun j0 _ => ⟨g, 0, rfl, fun j hj => ?_⟩⟩⟩
  by_cases hlt : j < n
  · obtain ⟨b, off, rfl, hv⟩ := h.cells j hlt
    have e : nthR (vs ++ [V]) j = nthR vs j := by
      have h1 : j < vs.length := by rw [h.len]; exact hlt
      rw [nthR_eq h1, nthR_eq (by simp; omega), List.getElem_append_left h1]
    rw [e]
    refine (hv j hlt).moved hb fun r hr => ?_
    have hj8 : j * 8 + r < cs.length := by rw [hs.len]; omega
    have h1 := hs.at_ b off rfl (j * 8 + r) cs[j * 8 + r] (List.getElem?_eq_getElem hj8)
    have h2 := hc (j * 8 + r) cs[j * 8 + r] (by rw [List.getElem?_append_left hj8, List.getElem?_eq_getElem hj8])
    rw [show 0 + j * 8 + r = j * 8 + r by omega, h2, show off + j * 8 + r = off + (j * 8 + r) by omega, h1]
  · have hj' : j = n := by omega
    subst hj'
    have e : nthR (vs ++ [V]) j = V := by
      rw [nthR_eq (by simp [h.len])]
      simp [h.len]
    rw [e]
    have hx : ∀ r u, [c0, c1, c2, c3, c4, c5, c6, c7][r]? = some u → W.cell? ⟨g, 0 + j * 8 + r, none⟩ = some u := fun r u hu => by
      refine hc _ u ?_
      rw [show 0 + j * 8 + r = cs.length + r by rw [hs.len]; omega, List.getElem?_append_right (by omega)]
      simpa using hu
    obtain ⟨a0, n0, k0, e1, hI⟩ := e1
    subst e0; subst e1; subst e2; subst e3; subst e4; subst e5; subst e6; subst e7
    exact ⟨hx 0 _ rfl, ⟨a0, n0, k0, hx 1 _ rfl, hI⟩, hx 2 _ rfl, hx 3 _ rfl, hx 4 _ rfl, hx 5 _ rfl, hx 6 _ rfl, hx 7 _ rfl, hok⟩

theorem AC.grown {w w' : World} {g : Nat} {cs : List Value} {row : Option Nat} (h : AC w g cs) (hg : w.grownBy w' row) (hne : some g ≠ row) : AC w' g cs := by
  obtain ⟨t, h⟩ := h
  exact ⟨t, by rw [hg.block g (lt_of_heap h) hne]; exact h⟩
theorem Bl.grownRow {B : Nat} {w0 w w' : World} {v : Value} {n : Nat} {cs : List Value} (hb : Bl w0 w) (ho : OVS B w v n cs) (hB : w0.heap.size ≤ B) (hg : w.grownBy w' v.ownBlock) : Bl w0 w' :=
  Below.grown hb hg hb.size (fun k hk => Nat.le_trans hB (World.ownsRow.lt ho k hk).1)
theorem OVS.ne_lt {B : Nat} {w : World} {v : Value} {n g : Nat} {cs : List Value} (ho : OVS B w v n cs) (hg : g < B) : some g ≠ v.ownBlock := fun e => by
  have := (World.ownsRow.lt ho g e.symm).1; omega
theorem OVS.ne_ge {B : Nat} {w : World} {v : Value} {n g : Nat} {cs : List Value} (ho : OVS B w v n cs) (hg : w.heap.size ≤ g) : some g ≠ v.ownBlock := fun e => by
  have := (World.ownsRow.lt ho g e.symm).2; omega

section
variable {ops : Array Oper}
/-- append(nil, l...) -/
theorem eOp_app1 {i : Nat} {o : Oper} {a : Act} {w : World} {K : Act → World → Prop} (ho' : ops[i]? = some o) (hgd : o.guard = none) (s x : Operand)
    (ho : o.op = .call { callee := .builtin .append, args := #[s, x], argTypes := #[22, 22] }) (hs : a.eval s = .slice none 0 0)
    (ad : Option Addr) (n c : Nat) (cs : List Value) (hx : a.eval x = .slice ad n c) (hsc : SC w ad n cs) (hn : n ≤ 1000)
    (h : ∀ v' w', OVS w.heap.size w' v' n cs → Bl w w' → K (a.put o.dst v') w') : eOp Tryd.prog ops i K a w := by
  obtain ⟨ti, z, hi, hz, h1, h2, h3⟩ := info_ver'
  have hnil : n = 0 → cs = [] := fun h => List.eq_nil_of_length_eq_zero (by rw [hsc.len, h])
  cases ad with
  | none =>
    have hn0 := hsc.nil rfl
    subst hn0
    have e := hnil rfl
    subst e
    have hr : (Builtin.append_ #[22, 22] o.type #[.slice none 0 0, .slice none 0 c]).run Tryd.prog w = .ok (.slice none 0 0) w := by
      simp [Builtin.append_, run_underlying Tryd.underlying22, sizeOf, typeInfo, hi, Builtin.lenOf, Builtin.firstCells]
    unfold eOp
    simp only [ho']
    rw [if_pos (by simp [Region.wanted, hgd])]
    unfold eOper execOp
    simp only [ho, resolve, invoke, builtin, Sem.run_bind, Sem.run_pure, Result.andThen_ok, List.map_toArray, List.map_cons, List.map_nil, hs, hx, hr, eUpon]
    exact h _ _ (World.ownsRow_nil _ _ _ _) (Bl.refl _)
  | some ad =>
    refine eOp_append ho' hgd s x _ ho w.heap.size 30 ti z 8 96 Tryd.underlying22 hi hz h1 h2 h3 (by decide) (.slice none 0 0) 0 [] hs (World.ownsRow_nil _ _ _ _) ad n c cs hx hsc.len ?_ hsc.one (by unfold maxLen; omega) (by omega) (Nat.le_refl _) ?_
    · intro j u hu
      by_cases hn0 : 0 < n
      · obtain ⟨b, off, s'⟩ := ad
        have := hsc.plain b off s' rfl hn0
        subst this
        have := hsc.at_ b off rfl j u hu
        rwa [add_none]
      · rw [hnil (by omega)] at hu
        simp at hu
    · intro v' w' hown hgr _
      rw [Nat.zero_add] at hown
      exact h v' w' hown (Below.grown (Bl.refl w) hgr (Nat.le_refl _) (fun k hk => by simp [Value.ownBlock] at hk))
/-- append(v, x) where v is the call's own -/
theorem eOp_app2 {i : Nat} {o : Oper} {a : Act} {w : World} {K : Act → World → Prop} (ho' : ops[i]? = some o) (hgd : o.guard = none) (s x : Operand)
    (ho : o.op = .call { callee := .builtin .append, args := #[s, x], argTypes := #[22, 22] }) (B : Nat) (v : Value) (n : Nat) (cs : List Value) (hs : a.eval s = v) (hown : OVS B w v n cs) (hB : B ≤ w.heap.size) (hn : n ≤ 1000)
    (j : Nat) (news : List Value) (hx : a.eval x = .slice (some ⟨j, 0, none⟩) 1 1) (hj : AC w j news) (hl : news.length = 8) (h1 : ∀ u ∈ news, u.oneCell' = true)
    (h : ∀ v' w', OVS B w' v' (n + 1) (cs ++ news) → w.grownBy w' v.ownBlock → K (a.put o.dst v') w') : eOp Tryd.prog ops i K a w := by
  obtain ⟨ti, z, hi, hz, g1, g2, g3⟩ := info_ver'
  refine eOp_append ho' hgd s x _ ho B 30 ti z 8 96 Tryd.underlying22 hi hz g1 g2 g3 (by decide) v n cs hs hown ⟨j, 0, none⟩ 1 1 news hx (by rw [hl]) ?_ h1 (by unfold maxLen; omega) (by omega) hB ?_
  · intro k u hu
    rw [add_none, Nat.zero_add]
    exact hj.cell k u hu
  · intro v' w' ho2 hgr _
    exact h v' w' ho2 hgr
theorem wpList_app1 {rest : List Oper} {o : Oper} {a : Act} {w : World} {Q : Exit → Act → World → Prop} (hgd : o.guard = none) (s x : Operand)
    (ho : o.op = .call { callee := .builtin .append, args := #[s, x], argTypes := #[22, 22] }) (hs : a.eval s = .slice none 0 0)
    (ad : Option Addr) (n c : Nat) (cs : List Value) (hx : a.eval x = .slice ad n c) (hsc : SC w ad n cs) (hn : n ≤ 1000)
    (h : ∀ v' w', OVS w.heap.size w' v' n cs → Bl w w' → wpList Tryd.prog ops Q rest (a.put o.dst v') w') : wpList Tryd.prog ops Q (o :: rest) a w := by
  obtain ⟨ti, z, hi, hz, h1, h2, h3⟩ := info_ver'
  have hnil : n = 0 → cs = [] := fun h => List.eq_nil_of_length_eq_zero (by rw [hsc.len, h])
  cases ad with
  | none =>
    have hn0 := hsc.nil rfl
    subst hn0
    have e := hnil rfl
    subst e
    have hr : (Builtin.append_ #[22, 22] o.type #[.slice none 0 0, .slice none 0 c]).run Tryd.prog w = .ok (.slice none 0 0) w := by
      simp [Builtin.append_, run_underlying Tryd.underlying22, sizeOf, typeInfo, hi, Builtin.lenOf, Builtin.firstCells]
    refine wpList_plain hgd fun _ hK => ?_
    unfold Oper.wp execOp
    simp only [ho, resolve, invoke, builtin, Sem.run_bind, Sem.run_pure, Result.andThen_ok, List.map_toArray, List.map_cons, List.map_nil, hs, hx, hr]
    exact hK _ _ (h _ _ (World.ownsRow_nil _ _ _ _) (Bl.refl _))
  | some ad =>
    refine wpList_append_own w hgd s x _ ho w.heap.size 30 ti z 8 96 Tryd.underlying22 hi hz h1 h2 h3 (by decide) (.slice none 0 0) 0 [] hs (World.ownsRow_nil _ _ _ _) ad n c cs hx hsc.len ?_ hsc.one (by unfold maxLen; omega) (by omega) (Nat.le_refl _) ?_
    · intro j u hu
      by_cases hn0 : 0 < n
      · obtain ⟨b, off, s'⟩ := ad
        have := hsc.plain b off s' rfl hn0
        subst this
        have := hsc.at_ b off rfl j u hu
        rwa [add_none]
      · rw [hnil (by omega)] at hu
        simp at hu
    · intro v' w' hown hgr _
      rw [Nat.zero_add] at hown
      exact h v' w' hown (Below.grown (Bl.refl w) hgr (Nat.le_refl _) (fun k hk => by simp [Value.ownBlock] at hk))
theorem wpList_app2 {rest : List Oper} {o : Oper} {a : Act} {w : World} {Q : Exit → Act → World → Prop} (hgd : o.guard = none) (s x : Operand)
    (ho : o.op = .call { callee := .builtin .append, args := #[s, x], argTypes := #[22, 22] }) (B : Nat) (v : Value) (n : Nat) (cs : List Value) (hs : a.eval s = v) (hown : OVS B w v n cs) (hB : B ≤ w.heap.size) (hn : n ≤ 1000)
    (j : Nat) (news : List Value) (hx : a.eval x = .slice (some ⟨j, 0, none⟩) 1 1) (hj : AC w j news) (hl : news.length = 8) (h1 : ∀ u ∈ news, u.oneCell' = true)
    (h : ∀ v' w', OVS B w' v' (n + 1) (cs ++ news) → w.grownBy w' v.ownBlock → wpList Tryd.prog ops Q rest (a.put o.dst v') w') : wpList Tryd.prog ops Q (o :: rest) a w := by
  obtain ⟨ti, z, hi, hz, g1, g2, g3⟩ := info_ver'
  refine wpList_append_own w hgd s x _ ho B 30 ti z 8 96 Tryd.underlying22 hi hz g1 g2 g3 (by decide) v n cs hs hown ⟨j, 0, none⟩ 1 1 news hx (by rw [hl]) ?_ h1 (by unfold maxLen; omega) (by omega) hB ?_
  · intro k u hu
    rw [add_none, Nat.zero_add]
    exact hj.cell k u hu
  · intro v' w' ho2 hgr _
    exact h v' w' ho2 hgr
end
end Go.Proofs.YtgdlcoicejgdkaaDoor
