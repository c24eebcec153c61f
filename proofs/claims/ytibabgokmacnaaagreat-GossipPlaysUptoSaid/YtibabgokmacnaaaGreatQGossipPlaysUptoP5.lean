import Derived.Test.YtibabgokmacnaaaGreatQGossipPlaysUptoP1
import Derived.Laws.AppendOwnNone

/- slices.Clone of a vector. By an AI agent. -/
section
set_option linter.unusedVariables false
set_option linter.unusedSimpArgs false
namespace Go.Proofs.YtibabgokmacnaaaGreat
open Go.RowKit

set_option maxHeartbeats 400000 in
theorem vclone_any (a : Option Addr) (n ca : Nat) (xs : List Int) (w : World) (hx : IA w a n xs) :
    Calls Tryz.prog 59 #[.slice a n ca] w fun e w' => ∃ v, e = .returned v ∧ FI w.heap.size w' v xs ∧ Bl w w' := by
  obtain ⟨i0, hi, hz0, hz1, hz2⟩ := info_parts info_int
  have hx1 := hx.cap
  have hnil := fun (w : World) => Lib.run_eql_slice_nil w 23 3 a n ca 0 0 Tryz.underlying23
  cases a with
  | none =>
    have hn : n = 0 := by
      rcases Nat.eq_zero_or_pos n with h | h
      · exact h
      · obtain ⟨_, _, h', _⟩ := hx.cells 0 h
        simp at h'
    have hxs : xs = [] := List.eq_nil_of_length_eq_zero (hx.len.trans hn)
    subst hn hxs
    go_enter Tryz.func59, Tryz.ntmps59
    go_wp2
    go_ret
    exact ⟨_, rfl, FI.nil _ _, Bl.refl _⟩
  | some ad =>
    have hcells : ∀ j u, (xs.map (Value.int .i64))[j]? = some u → ∀ o, (w.alloc o).cell? (ad.add j) = some u := by
      intro j u hj o
      have hjl : j < n := by
        have := (List.getElem?_eq_some_iff.1 hj).1
        simpa [hx.len] using this
      obtain ⟨b, off, e, hc⟩ := hx.cells j hjl
      obtain rfl := Option.some.inj e
      have h1 := hc j hjl
      rw [← Go.WideShapes.add_plain] at h1
      rw [((Bl.refl w).alloc o).cell h1]
      have hjx : j < xs.length := by rw [hx.len]; exact hjl
      simp [hjx] at hj
      rw [nth_eq hjx, hj]
    have HC := Lib.hid hcells; clear hcells
    have HX := Lib.hid hx
    have HL := Lib.hid hx.len
    clear hx
    go_enter Tryz.func59, Tryz.ntmps59
    go_wp2_with (at_builtin; refine wpList_append_own _ rfl _ _ 23 rfl (w.heap.size) 3 i0 (.int .i64 0) 1 8 Tryz.underlying23 hi hz0 hz1 hz2 rfl (by decide) _ 0 [] rfl (World.ownsRow_lit w #[] 0 (Nat.le_refl _) (by decide) rfl) ad n ca (xs.map (Value.int .i64)) rfl ?c1 ?c2 ?c3 ?c4 ?c5 ?c6 ?_)
    case c1 => simp [HL.out]
    case c2 => intro j u hj; exact HC.out j u hj _
    case c3 => intro u hu; simp at hu; obtain ⟨x, _, rfl⟩ := hu; rfl
    case c4 => unfold maxLen; omega
    case c5 => omega
    case c6 => simp
    intro v' w1 hown' hgrow _
    have hb : Bl w w1 := ((Bl.refl w).alloc _).grown hgrow (by simp) (fun k hk => by simp [Value.ownBlock] at hk; omega)
    have hf : FI w.heap.size w1 v' xs := ⟨by simpa [OI, HL.out] using hown', by rw [HL.out]; exact hx1, HX.out.wf⟩
    clear hown' hgrow
    go_wp2
    go_ret
    exact ⟨_, rfl, hf, hb⟩
end Go.Proofs.YtibabgokmacnaaaGreat
end

/- a list with another number at a place. By an AI agent. -/
section
set_option linter.unusedVariables false
set_option linter.unusedSimpArgs false
namespace Go.Proofs.YtibabgokmacnaaaGreat
open Go.RowKit

/-- a list with another number at a place -/
def withL (xs : List Int) (i t : Int) : List Int := if 0 ≤ i then xs.set i.toNat t else xs

theorem withL_len (xs : List Int) (i t : Int) : (withL xs i t).length = xs.length := by unfold withL; split <;> simp
theorem withL_nth (xs : List Int) (i t : Int) (j : Nat) (hj : j < xs.length) : nth (withL xs i t) j = if (j : Int) = i then t else nth xs j := by
  unfold withL
  split
  · rename_i h0
    rw [nth_eq (by simpa using hj), nth_eq hj, List.getElem_set]
    split <;> split <;> first | rfl | omega
  · rw [if_neg (by omega)]

theorem withL_wf {xs : List Int} {i t : Int} (hx : ∀ x ∈ xs, -9223372036854775808 ≤ x ∧ x ≤ 9223372036854775807) (ht : -9223372036854775808 ≤ t ∧ t ≤ 9223372036854775807) : ∀ x ∈ withL xs i t, -9223372036854775808 ≤ x ∧ x ≤ 9223372036854775807 := by
  intro x h
  unfold withL at h
  split at h
  · rcases List.mem_or_eq_of_mem_set h with h | h
    · exact hx x h
    · rw [h]; exact ht
  · exact hx x h
end Go.Proofs.YtibabgokmacnaaaGreat
end
