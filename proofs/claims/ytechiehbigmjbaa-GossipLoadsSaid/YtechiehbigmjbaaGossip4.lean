/- gossip.Row, all, Stable, Best. By an AI agent. -/
import Derived.Test.YtechiehbigmjbaaGossip3
namespace Go.Proofs.Ytechiehbigmjbaa
open Go.RowKit

set_option maxHeartbeats 1600000 in
set_option maxRecDepth 100000 in
theorem row_yes (B g k : Nat) (rows : List (List Int)) (w : World) (hr : RG B w g rows) (hk : k < rows.length) :
    Calls Try.prog 23 #[.pointer (some ⟨g, 0, none⟩), .int .i64 k] w fun e w' => ∃ v, e = .returned v ∧ FI w.heap.size w' v (nthR rows k) ∧ Bl w w' := by
  obtain ⟨v, hc, hBg, vs, hown, hvl, hrr⟩ := hr
  obtain ⟨h0, cap, rfl, hBh, hcell, hfz⟩ := OR.cellAt hown hk
  obtain ⟨ai, ni, ci, hvk, hIk⟩ := (hrr k).si
  rw [hvk] at hcell
  have hkn : ((k : Nat) : Int) < (rows.length : Int) := by omega
  clear hrr hvk hown
  go_enter Try.func23, Try.ntmps23
  go_wp2_with fail
  refine (none_any g _ _ _ _ hc).mono ?_
  rintro e w1 ⟨rfl, rfl⟩
  have q0 : decide (rows.length = 0) = false := decide_eq_false (by omega)
  rw [q0]
  have hcc := hc.cell
  have h0k : (0 : Int) ≤ (k : Int) := by omega
  go_wp2_with fail
  refine (vclone_any ai ni ci (nthR rows k) _ hIk).mono ?_
  rintro e w1 ⟨v1, rfl, hf1, hb1⟩
  go_wp2_with fail
  go_ret
  exact ⟨_, rfl, hf1, hb1⟩

/-- a function of two vectors that tells number by number -/
def Tells2 (f : FuncId) (t : Int → Int → Int) : Prop :=
  (∀ (a b : Option Addr) (n m ca cb : Nat) (xs ys : List Int) (w : World), IA w a n xs → IA w b m ys → Calls Try.prog f #[.slice a n ca, .slice b m cb] w fun e w' => ∃ v, e = .returned v ∧ FI w.heap.size w' v (eachL t xs ys) ∧ Bl w w') ∧
  ∀ args w, (callFunc f args).run Try.prog w = .ok (.enter f args) w
theorem tells2_join : Tells2 79 max := ⟨fun a b n m ca cb xs ys w hx hy => join_any a b n m ca cb xs ys w hx hy, fun _ _ => by kernel_rfl⟩
theorem tells2_meet : Tells2 75 min := ⟨fun a b n m ca cb xs ys w hx hy => meet_any a b n m ca cb xs ys w hx hy, fun _ _ => by kernel_rfl⟩

/-- what 'all' tells -/
def allL (t : Int → Int → Int) (rows : List (List Int)) : List Int := rows.foldl (eachL t) (nthR rows 0)
theorem take_nthR {rows : List (List Int)} {k : Nat} (h : k < rows.length) : rows.take (k + 1) = rows.take k ++ [nthR rows k] := by
  rw [List.take_succ_eq_append_getElem h]
  simp [nthR, List.getD, h]

set_option maxHeartbeats 1600000 in
set_option maxRecDepth 100000 in
theorem all_yes (f : FuncId) (t : Int → Int → Int) (ht : Tells2 f t) (B g : Nat) (rows : List (List Int)) (w : World) (hr : RG B w g rows) (hn8 : rows.length ≤ 8) (hk : 0 < rows.length) :
    Calls Try.prog 74 #[.pointer (some ⟨g, 0, none⟩), .func (.func f) #[] #[]] w fun e w' => ∃ v, e = .returned v ∧ FI w.heap.size w' v (allL t rows) ∧ Bl w w' := by
  have hr' := hr
  obtain ⟨v, hc, hBg, vs, hown, hvl, hrr⟩ := hr
  obtain ⟨h0, cap, rfl, hBh, _, _⟩ := OR.cellAt hown hk
  have hcf := ht.2
  have HRR := Lib.hid hrr; clear hrr
  go_enter Try.func74, Try.ntmps74
  go_wp2_with fail
  refine (none_any g _ _ _ _ hc).mono ?_
  rintro e w1 ⟨rfl, rfl⟩
  have q0 : decide (rows.length = 0) = false := decide_eq_false (by omega)
  rw [q0]
  go_wp2_with fail
  refine (row_yes B g 0 rows _ hr' hk).mono ?_
  rintro e w1 ⟨v1, rfl, hf1, hb1⟩
  have hc1 := hc.keep hb1
  have hcc := hc1.cell
  go_wp2_with fail
  go_loopw [5, 17] (fun v i wr => ∃ (k : Nat) (acc : List Int), k ≤ rows.length ∧ i = .int .i64 k ∧ Bl w wr ∧ FI w.heap.size wr v acc ∧ acc = (rows.take k).foldl (eachL t) (nthR rows 0)) (fun _ i _ => rows.length - (intOf i).toNat)
  case atStart => exact ⟨0, _, Nat.zero_le _, rfl, hb1, hf1, rfl⟩
  case round =>
    clear hf1 hc1 hcc hb1
    obtain ⟨k, acc, hkl, rfl, hbl, hfi, hacc⟩ := hrel
    have HACC := Lib.hid hacc; clear hacc
    by_cases hlt : k < rows.length
    · obtain ⟨h0', cap', e1, _, hcell, _⟩ := OR.cellAt hown hlt
      obtain ⟨rfl, rfl⟩ : h0 = h0' ∧ cap = cap' := by simp at e1; exact e1
      clear e1
      obtain ⟨ai, ni, ci, hvk, hIk⟩ := (HRR.out k).si
      rw [hvk] at hcell
      obtain ⟨aa, na, ca, rfl, hIa⟩ := hfi.si
      have hcell := hbl.cell hcell
      have hIk := hIk.keep hbl
      clear hfi hvk
      go_wp2_with fail
      refine (ht.1 aa ai na ni ca ci acc (nthR rows k) _ hIa hIk).mono ?_
      rintro e w2 ⟨v2, rfl, hf2, hb2⟩
      have hbs := hbl.size
      go_wp2_with fail
      go_roundw
      case rel => exact ⟨k + 1, _, by omega, by go_num, hbl.trans hb2, hf2.mono hbs, by rw [take_nthR hlt, List.foldl_append, ← HACC.out]; rfl⟩
      case measure => simp [intOf]; omega
    · obtain rfl : k = rows.length := by omega
      go_wp2_with fail
      go_ret
      refine ⟨_, rfl, ?_, hbl⟩
      rw [HACC.out, List.take_length] at hfi
      exact hfi

theorem stable_yes (B g : Nat) (rows : List (List Int)) (w : World) (hr : RG B w g rows) (hn8 : rows.length ≤ 8) (hk : 0 < rows.length) :
    Calls Try.prog 20 #[.pointer (some ⟨g, 0, none⟩)] w fun e w' => ∃ v, e = .returned v ∧ FI w.heap.size w' v (allL min rows) ∧ Bl w w' := by
  go_enter Try.func20, Try.ntmps20
  go_wp2_with fail
  refine (all_yes _ _ tells2_meet B g rows _ hr hn8 hk).mono ?_
  rintro e w1 ⟨v1, rfl, hf1, hb1⟩
  go_wp2_with fail
  go_ret
  exact ⟨_, rfl, hf1, hb1⟩
theorem best_yes (B g : Nat) (rows : List (List Int)) (w : World) (hr : RG B w g rows) (hn8 : rows.length ≤ 8) (hk : 0 < rows.length) :
    Calls Try.prog 24 #[.pointer (some ⟨g, 0, none⟩)] w fun e w' => ∃ v, e = .returned v ∧ FI w.heap.size w' v (allL max rows) ∧ Bl w w' := by
  go_enter Try.func24, Try.ntmps24
  go_wp2_with fail
  refine (all_yes _ _ tells2_join B g rows _ hr hn8 hk).mono ?_
  rintro e w1 ⟨v1, rfl, hf1, hb1⟩
  go_wp2_with fail
  go_ret
  exact ⟨_, rfl, hf1, hb1⟩
end Go.Proofs.Ytechiehbigmjbaa
