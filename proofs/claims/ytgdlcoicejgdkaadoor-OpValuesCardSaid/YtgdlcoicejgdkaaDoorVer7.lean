/- The cells of versions as lists: what an own slice reads as, piece by piece. By an AI agent. -/
import Derived.Test.YtgdlcoicejgdkaaDoorVer6
namespace Go.Proofs.YtgdlcoicejgdkaaDoor
open Go.RowKit

/-- eight cells that read as a version -/
def CV1 (w : World) (v : VerL) (c : List Value) : Prop := ∃ a n ca, c = [.string v.key, .slice a n ca, .int .i64 v.origin, .int .i64 v.tx, .int .i64 v.act.k, .float .f64 v.act.x, .int .i64 v.act.n, .string v.act.s] ∧ IA w a n v.at_ ∧ v.act.Ok
theorem CV1.len {w : World} {v : VerL} {c : List Value} (h : CV1 w v c) : c.length = 8 := by obtain ⟨a, n, ca, rfl, _⟩ := h; rfl
theorem CV1.keep {w w' : World} {v : VerL} {c : List Value} (h : CV1 w v c) (hb : Bl w w') : CV1 w' v c := by
  obtain ⟨a, n, ca, e, hI, ok⟩ := h
  exact ⟨a, n, ca, e, hI.keep hb, ok⟩
theorem CV1.one {w : World} {v : VerL} {c : List Value} (h : CV1 w v c) : ∀ u ∈ c, u.oneCell' = true := by
  obtain ⟨a, n, ca, rfl, _⟩ := h
  simp [Value.oneCell']
/-- cells that read as versions -/
inductive CL (w : World) : List Value → List VerL → Prop
  | nil : CL w [] []
  | cons {c cs : List Value} {v : VerL} {vs : List VerL} : CV1 w v c → CL w cs vs → CL w (c ++ cs) (v :: vs)
theorem CL.keep {w w' : World} {cs : List Value} {vs : List VerL} (h : CL w cs vs) (hb : Bl w w') : CL w' cs vs := by
  induction h with
  | nil => exact .nil
  | cons h _ ih => exact .cons (h.keep hb) ih
theorem CL.append {w : World} {cs ds : List Value} {vs us : List VerL} (h : CL w cs vs) (k : CL w ds us) : CL w (cs ++ ds) (vs ++ us) := by
  induction h with
  | nil => exact k
  | cons h _ ih => rw [List.append_assoc]; exact .cons h ih
theorem CL.single {w : World} {c : List Value} {v : VerL} (h : CV1 w v c) : CL w c [v] := by
  have := CL.cons h .nil
  rwa [List.append_nil] at this
theorem CL.len {w : World} {cs : List Value} {vs : List VerL} (h : CL w cs vs) : cs.length = vs.length * 8 := by
  induction h with
  | nil => rfl
  | cons h _ ih => rw [List.length_append, h.len, ih, List.length_cons]; omega
theorem CL.one {w : World} {cs : List Value} {vs : List VerL} (h : CL w cs vs) : ∀ u ∈ cs, u.oneCell' = true := by
  induction h with
  | nil => simp
  | cons h _ ih =>
    intro u hu
    rcases List.mem_append.1 hu with hu | hu
    · exact h.one u hu
    · exact ih u hu
theorem CL.at_ {w : World} {cs : List Value} {vs : List VerL} (h : CL w cs vs) : ∀ j, j < vs.length → ∃ c, CV1 w (nthR vs j) c ∧ ∀ r, r < 8 → cs[j * 8 + r]? = c[r]? := by
  induction h with
  | nil => intro j hj; simp at hj
  | @cons c cs v vs h _ ih =>
    intro j hj
    cases j with
    | zero => exact ⟨c, h, fun r hr => by rw [List.getElem?_append_left (by rw [h.len]; omega)]; congr 1; omega⟩
    | succ j =>
      obtain ⟨d, h1, h2⟩ := ih j (by simpa using hj)
      have e : nthR (v :: vs) (j + 1) = nthR vs j := by
        have h1 : j < vs.length := by simpa using hj
        rw [nthR_eq h1, nthR_eq (by simpa using hj)]
        rfl
      refine ⟨d, by rw [e]; exact h1, fun r hr => ?_⟩
      rw [List.getElem?_append_right (by rw [h.len]; omega), h.len, ← h2 r hr]
      congr 1
      omega
theorem VE.of {w : World} {b off : Nat} {v : VerL} {c : List Value} (h : CV1 w v c) (hc : ∀ r, r < 8 → w.cell? ⟨b, off + r, none⟩ = c[r]?) : VE w b off v := by
  obtain ⟨a, n, ca, rfl, hI, ok⟩ := h
  exact ⟨hc 0 (by decide), ⟨a, n, ca, hc 1 (by decide), hI⟩, hc 2 (by decide), hc 3 (by decide), hc 4 (by decide), hc 5 (by decide), hc 6 (by decide), hc 7 (by decide), ok⟩
theorem VE.cv {w : World} {b off : Nat} {v : VerL} (h : VE w b off v) : ∃ c, CV1 w v c ∧ ∀ r, r < 8 → w.cell? ⟨b, off + r, none⟩ = c[r]? := by
  obtain ⟨a, n, ca, h1, hI⟩ := h.at_
  refine ⟨_, ⟨a, n, ca, rfl, hI, h.ok⟩, fun r hr => ?_⟩
  have hc : r = 0 ∨ r = 1 ∨ r = 2 ∨ r = 3 ∨ r = 4 ∨ r = 5 ∨ r = 6 ∨ r = 7 := by omega
  rcases hc with rfl | rfl | rfl | rfl | rfl | rfl | rfl | rfl
  · exact h.c0
  · exact h1
  · exact h.c2
  · exact h.c3
  · exact h.c4
  · exact h.c5
  · exact h.c6
  · exact h.c7
/-- an own slice whose cells read as versions -/
theorem va_of {B : Nat} {w : World} {v : Value} {n : Nat} {cs : List Value} {vs : List VerL} (ho : OVS B w v n cs) (hc : CL w cs vs) (hn : vs.length = n) (hn1 : n ≤ 140737488351232) : ∃ a ca, v = .slice a n ca ∧ VA w a n vs := by
  by_cases h0 : 0 < n
  · obtain ⟨g, ca, rfl, _, _, hcell⟩ := ho.cells h0
    refine ⟨_, ca, rfl, ⟨hn, hn1, fun j0 _ => ⟨g, 0, rfl, fun j hj => ?_⟩⟩⟩
    obtain ⟨c, h1, h2⟩ := hc.at_ j (by omega)
    refine VE.of h1 fun r hr => ?_
    rw [← h2 r hr, show 0 + j * 8 + r = j * 8 + r by omega]
    have hlt : j * 8 + r < cs.length := by rw [hc.len]; omega
    rw [List.getElem?_eq_getElem hlt]
    exact hcell _ _ (List.getElem?_eq_getElem hlt)
  · obtain rfl : n = 0 := by omega
    obtain rfl : vs = [] := List.eq_nil_of_length_eq_zero hn
    obtain ⟨_, ⟨rfl, _⟩ | ⟨g, cap, cur, rfl, _⟩⟩ := ho
    · exact ⟨none, 0, rfl, rfl, by omega, fun j hj => absurd hj (Nat.not_lt_zero _)⟩
    · exact ⟨_, cap, rfl, rfl, by omega, fun j hj => absurd hj (Nat.not_lt_zero _)⟩
/-- a slice of versions has cells that read so -/
theorem cl_src {w : World} {b off : Nat} {vs : List VerL} : ∀ (n o : Nat), (∀ j, j < n → VE w b (off + (o + j) * 8) (nthR vs j)) → vs.length = n → ∃ cs, CL w cs vs ∧ ∀ j u, cs[j]? = some u → w.cell? ⟨b, off + o * 8 + j, none⟩ = some u := by
  induction vs with
  | nil => exact fun n o _ _ => ⟨[], .nil, by simp⟩
  | cons v vs ih =>
    intro n o hv hl
    obtain ⟨c, h1, h2⟩ := (hv 0 (by simp at hl; omega)).cv
    have e0 : nthR (v :: vs) 0 = v := rfl
    rw [e0] at h1
    obtain ⟨cs, h3, h4⟩ := ih (n - 1) (o + 1) (fun j hj => by
      have h5 := hv (j + 1) (by omega)
      have e : nthR (v :: vs) (j + 1) = nthR vs j := by
        have h1 : j < vs.length := by simp at hl; omega
        rw [nthR_eq h1, nthR_eq (by simp; omega)]
        rfl
      rw [e] at h5
      rwa [show o + 1 + j = o + (j + 1) by omega]) (by simp at hl; omega)
    refine ⟨c ++ cs, .cons h1 h3, fun j u hu => ?_⟩
    by_cases hj : j < 8
    · rw [List.getElem?_append_left (by rw [h1.len]; exact hj)] at hu
      have := h2 j hj
      rw [show off + o * 8 + j = off + (o + 0) * 8 + j by omega, this]
      exact hu
    · rw [List.getElem?_append_right (by rw [h1.len]; omega), h1.len] at hu
      have := h4 (j - 8) u hu
      rwa [show off + (o + 1) * 8 + (j - 8) = off + o * 8 + j by omega] at this
/-- the part of a slice from k on, of n elements -/
theorem VA.part {w : World} {b off N : Nat} {vs : List VerL} (h : VA w (some ⟨b, off, none⟩) N vs) (k n : Nat) (hk : k + n ≤ N) : VA w (some ⟨b, off + k * 8, none⟩) n ((vs.drop k).take n) ∧ ∃ cs, SC w (some ⟨b, off + k * 8, none⟩) n cs ∧ CL w cs ((vs.drop k).take n) := by
  have hlen : ((vs.drop k).take n).length = n := by rw [List.length_take, List.length_drop, h.len]; omega
  have hve : ∀ j, j < n → VE w b (off + (k + j) * 8) (nthR ((vs.drop k).take n) j) := fun j hj => by
    obtain ⟨b', off', e, hc⟩ := h.cells (k + j) (by omega)
    simp only [Option.some.injEq, Addr.mk.injEq] at e
    obtain ⟨rfl, rfl, _⟩ := e
    have h1 := hc (k + j) (by omega)
    have e : nthR ((vs.drop k).take n) j = nthR vs (k + j) := by
      rw [nthR_eq (by rw [hlen]; exact hj), nthR_eq (by rw [h.len]; omega)]
      simp
    rwa [e]
  refine ⟨⟨hlen, by have := h.cap; omega, fun j0 _ => ⟨b, off + k * 8, rfl, fun j hj => ?_⟩⟩, ?_⟩
  · have := hve j hj
    rwa [show off + k * 8 + j * 8 = off + (k + j) * 8 by omega]
  · obtain ⟨cs, h1, h2⟩ := cl_src n k hve hlen
    refine ⟨cs, ⟨by rw [h1.len, hlen], fun b' off' e => ?_, (fun e => by cases e), fun b' off' s e _ => ?_, h1.one⟩, h1⟩
    · simp only [Option.some.injEq, Addr.mk.injEq] at e
      obtain ⟨rfl, rfl, _⟩ := e
      exact h2
    · simp only [Option.some.injEq, Addr.mk.injEq] at e
      exact e.2.2.symm
section
variable {ops : Array Oper}
/-- append(v, x...) where v is the call's own and x somewhere else -/
theorem eOp_app4 {i : Nat} {o : Oper} {a : Act} {w : World} {K : Act → World → Prop} (ho' : ops[i]? = some o) (hgd : o.guard = none) (s x : Operand)
    (ho : o.op = .call { callee := .builtin .append, args := #[s, x], argTypes := #[22, 22] }) (B : Nat) (v : Value) (n : Nat) (cs : List Value) (hs : a.eval s = v) (hown : OVS B w v n cs) (hB : B ≤ w.heap.size) (hn : n ≤ 1000)
    (ad : Addr) (m c : Nat) (news : List Value) (hx : a.eval x = .slice (some ad) m c) (hsc : SC w (some ad) m news) (hm : m ≤ 1000)
    (h : ∀ v' w', OVS B w' v' (n + m) (cs ++ news) → w.grownBy w' v.ownBlock → K (a.put o.dst v') w') : eOp Tryd.prog ops i K a w := by
  obtain ⟨ti, z, hi, hz, g1, g2, g3⟩ := info_ver'
  refine eOp_append ho' hgd s x _ ho B 30 ti z 8 96 Tryd.underlying22 hi hz g1 g2 g3 (by decide) v n cs hs hown ad m c news hx hsc.len ?_ hsc.one (by unfold maxLen; omega) (by omega) hB ?_
  · intro k u hu
    by_cases hn0 : 0 < m
    · obtain ⟨b, off, s'⟩ := ad
      have := hsc.plain b off s' rfl hn0
      subst this
      have := hsc.at_ b off rfl k u hu
      rwa [add_none]
    · rw [List.eq_nil_of_length_eq_zero (by rw [hsc.len]; omega : news.length = 0)] at hu
      simp at hu
  · intro v' w' ho2 hgr _
    exact h v' w' ho2 hgr
end
end Go.Proofs.YtgdlcoicejgdkaaDoor
