import Derived.Test.YtibabgokmacnaaaGreatQGossipPlaysUptoP16
import Derived.Test.YtibabgokmacnaaaGreatQGossipPlaysUptoP8
import Derived.Laws.FloatArith

/- Best of the reference's rows. By an AI agent. -/
section
set_option linter.unusedVariables false
set_option linter.unusedSimpArgs false
namespace Go.Proofs.YtibabgokmacnaaaGreat
open Go.RowKit

theorem each_selfx (xs : List Int) : eachL max xs xs = xs := by
  unfold eachL
  rw [if_pos rfl]
  induction xs with
  | nil => rfl
  | cons x xs ih => rw [List.zipWith_cons_cons, ih]; congr 1; omega
/-- the reference's way of telling what all rows have -/
theorem allmax_tail (rows : List (List Int)) (h : 0 < rows.length) : allL max rows = (rows.drop 1).foldl (eachL max) (nthR rows 0) := by
  cases rows with
  | nil => simp at h
  | cons r rows =>
    show (r :: rows).foldl (eachL max) r = rows.foldl (eachL max) r
    rw [List.foldl_cons, each_selfx]
set_option maxHeartbeats 1600000 in
set_option maxRecDepth 100000 in
theorem rbest_any (B g : Nat) (rows : List (List Int)) (w : World) (hr : RG B w g rows) (hn8 : rows.length ≤ 8) (hk : 0 < rows.length) :
    Calls Tryz.prog 43 #[.pointer (some ⟨g, 0, none⟩)] w fun e w' => ∃ v, e = .returned v ∧ FI w.heap.size w' v (allL max rows) ∧ Bl w w' := by
  obtain ⟨v, hc, hBg, vs, hown, hvl, hrr⟩ := hr
  obtain ⟨h0, cap, rfl, hBh, hcell0, _⟩ := OR.cellAt hown hk
  have HRR := Lib.hid hrr; clear hrr
  obtain ⟨a1, n1, c1, hv1, hI1⟩ := (HRR.out 0).si
  rw [hv1] at hcell0
  have hcc := hc.cell
  go_enter Tryz.func43, Tryz.ntmps43
  go_wp2_with fail
  go_loopw [3, 4] (fun v i wr => ∃ (k : Nat) (acc : List Int) (aa : Option Addr) (na ca : Nat), 1 ≤ k ∧ k ≤ rows.length ∧ i = .int .i64 k ∧ Bl w wr ∧ v = .slice aa na ca ∧ IA wr aa na acc ∧ acc = ((rows.take k).drop 1).foldl (eachL max) (nthR rows 0)) (fun _ i _ => rows.length - (intOf i).toNat)
  case atStart => exact ⟨1, _, _, _, _, Nat.le_refl _, hk, rfl, Bl.refl _, rfl, hI1, by rw [List.drop_eq_nil_of_le (by simp; omega)]; rfl⟩
  case round =>
    clear hcell0 hv1 hI1
    obtain ⟨k, acc, aa, na, ca, hk1, hkl, rfl, hbl, rfl, hIa, hacc⟩ := hrel
    have HACC := Lib.hid hacc; clear hacc
    have hcc2 := hbl.cell hcc
    by_cases hlt : k < rows.length
    · obtain ⟨h0', cap', e1, _, hcell, _⟩ := OR.cellAt hown hlt
      obtain ⟨rfl, rfl⟩ : h0 = h0' ∧ cap = cap' := by simp at e1; exact e1
      clear e1
      obtain ⟨ai, ni, ci, hvk, hIk⟩ := (HRR.out k).si
      rw [hvk] at hcell
      have hcell := hbl.cell hcell
      have hIk := hIk.keep hbl
      clear hvk
      go_wp2_with fail
      refine (rjoin3_any aa ai na ni ca ci acc (nthR rows k) _ hIa hIk).mono ?_
      rintro e w2 ⟨v2, rfl, hf2, hb2⟩
      obtain ⟨a2, n2, c2, rfl, hI2⟩ := hf2.si
      go_wp2_with fail
      go_roundw
      case rel => exact ⟨k + 1, _, _, _, _, by omega, by omega, by go_num, hbl.trans hb2, rfl, hI2, by rw [dropTake_succ hlt hk1, List.foldl_append, ← HACC.out]; rfl⟩
      case measure => simp [intOf]; omega
    · obtain rfl : k = rows.length := by omega
      rw [List.take_length, ← allmax_tail _ hk] at HACC
      rw [HACC.out] at hIa
      go_wp2_with fail
      refine (rcopy3_any aa na ca _ _ hIa).mono ?_
      rintro e w2 ⟨v2, rfl, hf2, hb2⟩
      have hbs := hbl.size
      go_wp2_with fail
      go_ret
      exact ⟨_, rfl, hf2.mono hbs, hbl.trans hb2⟩
end Go.Proofs.YtibabgokmacnaaaGreat
end

/- real.Ratio, math.NaN. By an AI agent. -/
section
namespace Go.Proofs.YtibabgokmacnaaaGreat
open Go.RowKit

theorem nan_tape (t : Nat) : ((t % 2) * 2 ^ 63 + 0x7ff0000000000000 + 1 + (t / 2) % (2 ^ 52 - 1)) < two64 ∧ nanB ((t % 2) * 2 ^ 63 + 0x7ff0000000000000 + 1 + (t / 2) % (2 ^ 52 - 1)) = true := by
  have h1 : (t / 2) % (2 ^ 52 - 1) < 2 ^ 52 - 1 := Nat.mod_lt _ (by decide)
  generalize (t / 2) % (2 ^ 52 - 1) = u at *
  have h2 : t % 2 = 0 ∨ t % 2 = 1 := by omega
  unfold nanB two64 two63 infR
  rcases h2 with h2 | h2 <;> rw [h2]
  · exact ⟨by omega, by simp; omega⟩
  · exact ⟨by omega, by simp; omega⟩

theorem nan_cut (x y t : Nat) : (Question.cut (.nanBits .f64 x y) t) < two64 ∧ nanB (Question.cut (.nanBits .f64 x y) t) = true := nan_tape t

/-- an operation that has no answer gives some NaN -/
theorem run_float_nan (op : BinOp) (hop : op = .quo ∨ op = .sub) (t : TypeId) (x y : Nat) (h : floatBits op .f64 x y = none) (w : World) :
    ∃ r, nanB r = true ∧ r < two64 ∧ (binOp op t (.float .f64 x) (.float .f64 y)).run Tryz.prog w = .ok (.float .f64 r) w.drew := by
  refine ⟨Question.cut (.nanBits .f64 x y) (w.tape w.drawn (.nanBits .f64 x y)), (nan_cut _ _ _).2, (nan_cut _ _ _).1, ?_⟩
  generalize hc : Question.cut (.nanBits .f64 x y) (w.tape w.drawn (.nanBits .f64 x y)) = c
  rcases hop with rfl | rfl
  · have h' : FloatKind.f64.format.div x y = none := h
    simp [binOp, Op.floatArith, h', go_sem, hc]
  · have h' : FloatKind.f64.format.sub x y = none := h
    simp [binOp, Op.floatArith, h', go_sem, hc]
/-- what an operation gives: its answer, or some NaN -/
def FRes (o : Option Nat) (x : Nat) : Prop := x < two64 ∧ ((∃ r, o = some r ∧ x = r) ∨ (o = none ∧ nanB x = true))
theorem run_float (op : BinOp) (hop : op = .quo ∨ op = .sub) (t : TypeId) (x y : Nat) (w : World) :
    ∃ r w', FRes (floatBits op .f64 x y) r ∧ (binOp op t (.float .f64 x) (.float .f64 y)).run Tryz.prog w = .ok (.float .f64 r) w' ∧ Bl w w' := by
  cases h : floatBits op .f64 x y with
  | none =>
    obtain ⟨r, h1, h2, h3⟩ := run_float_nan op hop t x y h w
    exact ⟨r, _, ⟨h2, .inr ⟨rfl, h1⟩⟩, h3, (Bl.refl w).drew⟩
  | some r =>
    have hw := floatBits_wf h
    have hl : r < two64 := by
      simp [Lit.wf] at hw
      exact hw
    exact ⟨r, _, ⟨hl, .inl ⟨r, rfl, rfl⟩⟩, run_float_arith w op t .f64 x y r h, Bl.refl w⟩

theorem ratio_any (a b : Int) (w : World) :
    Calls Tryz.prog 144 #[.int .i64 a, .int .i64 b] w fun e w' => ∃ x, e = .returned (.float .f64 x) ∧ FRes (floatBits .quo .f64 (floatOfInt .f64 a) (floatOfInt .f64 b)) x ∧ Bl w w' := by
  obtain ⟨r, w1, hr, hrun, hb⟩ := run_float .quo (.inl rfl) 69 (floatOfInt .f64 a) (floatOfInt .f64 b) w
  have HR := Lib.hid hr; clear hr
  go_enter Tryz.func144, Tryz.ntmps144
  go_wp2_with fail
  go_ret
  exact ⟨r, rfl, HR.out, hb⟩

theorem nan_any (w : World) :
    Calls Tryz.prog 142 #[] w fun e w' => ∃ x, e = .returned (.float .f64 x) ∧ FRes none x ∧ Bl w w' := by
  have hrb := run_frombits
  have HN := Lib.hid (show FRes none 9221120237041090561 from ⟨by decide, .inr ⟨rfl, by decide⟩⟩)
  go_enter Tryz.func142, Tryz.ntmps142
  go_wp2_with fail
  go_ret
  exact ⟨_, rfl, HN.out, Bl.refl _⟩
end Go.Proofs.YtibabgokmacnaaaGreat
end
