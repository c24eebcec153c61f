/- gossip.Set. By an AI agent. -/
import Derived.Test.YtechiehbigmjbaaGossip2
namespace Go.Proofs.Ytechiehbigmjbaa
open Go.RowKit

/-- a row's own cell -/
theorem OR.cellAt {B n : Nat} {w : World} {v : Value} {vs : List Value} (h : w.ownsRow B 23 1 v n vs) {j : Nat} (hj : j < n) :
    ∃ h0 cap, v = .slice (some ⟨h0, 0, none⟩) n cap ∧ B ≤ h0 ∧ w.cell? ⟨h0, j, none⟩ = some (nthV vs j) ∧ w.frozen? ⟨h0, j, none⟩ = false := by
  have h' := h
  obtain ⟨h1, ⟨_, h2⟩ | ⟨h0, cap, cur, rfl, hB, hh, r⟩⟩ := h
  · omega
  · refine ⟨h0, cap, rfl, hB, ?_, World.ownsRow.frozenAt h' j⟩
    rw [World.ownsRow.cellAt h' j (by omega)]
    have hl : j < vs.length := by omega
    simp [nthV, List.getD, hl]

theorem frozen_keep {w w' : World} (hb : Bl w w') {p : Addr} {v : Value} {b : Bool} (hc : w.cell? p = some v) (h : w.frozen? p = b) : w'.frozen? p = b := by
  rw [World.frozen?_of_block (hb.block _ (World.block_lt_of_cell? _ _ hc))]
  exact h

theorem nthV_set {vs : List Value} {k : Nat} (hk : k < vs.length) (x : Value) (i : Nat) : nthV (vs.set k x) i = if i = k then x else nthV vs i := by
  unfold nthV
  by_cases h : i = k
  · subst h; simp [List.getD, hk]
  · rw [if_neg h]; simp [List.getD, List.getElem?_set_ne (Ne.symm h)]
theorem nthR_set {vs : List (List Int)} {k : Nat} (hk : k < vs.length) (x : List Int) (i : Nat) : nthR (vs.set k x) i = if i = k then x else nthR vs i := by
  unfold nthR
  by_cases h : i = k
  · subst h; simp [List.getD, hk]
  · rw [if_neg h]; simp [List.getD, List.getElem?_set_ne (Ne.symm h)]

theorem RG.store {B g h0 cap k : Nat} {w wz : World} {rows : List (List Int)} {row : List Int} {vs : List Value} {x : Value} (hBg : B ≤ g) (hc : C1 w g (.slice (some ⟨h0, 0, none⟩) rows.length cap))
    (hown : w.ownsRow (g + 1) 23 1 (.slice (some ⟨h0, 0, none⟩) rows.length cap) rows.length vs) (hvl : vs.length = rows.length) (hrr : ∀ i, FI (g + 1) w (nthV vs i) (nthR rows i)) (hBh : g + 1 ≤ h0)
    (hbw : Bl w wz) (hf : FI w.heap.size wz x row) (hk : k < rows.length) : RG B (wz.setCell ⟨h0, k, none⟩ x) g (rows.set k row) ∧ Below B w (wz.setCell ⟨h0, k, none⟩ x) := by
  have hgl := hc.lt
  have hown1 := ownsRow_bl hown hbw
  have hst := World.ownsRow.stored hown1 k x
  have hrow : ∀ j, some h0 = some j → ∃ cur fz, wz.heap[j]? = some (.cells cur 23 fz) := fun j hj => by
    obtain ⟨_, c, f, h⟩ := OR.row hown1 j (by simpa [Value.ownBlock] using hj)
    exact ⟨c, f, h⟩
  refine ⟨⟨_, (hc.keep hbw).grown hst.2 (by simp; omega), hBg, vs.set k x, by simpa using hst.1, by simp [hvl], fun i => ?_⟩, ?_⟩
  · rw [nthV_set (by omega), nthR_set hk]
    split
    · exact (hf.mono (by omega)).grown hst.2 hrow
    · exact ((hrr i).keep hbw).grown hst.2 hrow
  · exact Below.setCell (Below.mono hbw (by omega)) (p := ⟨h0, k, none⟩) (by show B ≤ h0; omega) _

set_option maxHeartbeats 1600000 in
set_option maxRecDepth 100000 in
theorem set_yes (B g n c : Nat) (ad : Option Addr) (k : Nat) (rows : List (List Int)) (xs : List Int) (w : World) (hr : RG B w g rows) (hn : rows.length = n) (hn8 : n ≤ 8) (hk : k < n) (hx : IA w ad n xs) (hv : validL xs = true) :
    Calls Try.prog 22 #[.pointer (some ⟨g, 0, none⟩), .int .i64 k, .slice ad n c] w fun e w' => e = .returned (.int .i64 0) ∧ RG B w' g (rows.set k (joinL (nthR rows k) xs)) ∧ Below B w w' := by
  obtain ⟨v, hc, hBg, vs, hown, hvl, hrr⟩ := hr
  subst hn
  obtain ⟨h0, cap, rfl, hBh, hcell, hfz⟩ := OR.cellAt hown hk
  obtain ⟨ai, ni, ci, hvk, hIk⟩ := (hrr k).si
  rw [hvk] at hcell
  have hkn : ((k : Nat) : Int) < (rows.length : Int) := by omega
  have HRR := Lib.hid hrr; clear hrr
  have HVK := Lib.hid hvk; clear hvk
  go_enter Try.func22, Try.ntmps22
  go_wp2_with fail
  refine (none_any g _ _ _ _ hc).mono ?_
  rintro e w1 ⟨rfl, rfl⟩
  have q0 : decide (rows.length = 0) = false := decide_eq_false (by omega)
  rw [q0]
  have hcc := hc.cell
  go_wp2_with fail
  refine (valid_any ad _ c xs _ hx).mono ?_
  rintro e w1 ⟨rfl, rfl⟩
  rw [hv]
  have q1 : ((rows.length : Int) != (rows.length : Int)) = false := by simp
  have h0k : (0 : Int) ≤ (k : Int) := by omega
  go_wp2_with fail
  go_region_law (go_simp; refine (join_any ai ad ni rows.length ci c (nthR rows k) xs w.drew (hIk.keep (Bl.refl w).drew) (hx.keep (Bl.refl w).drew)).mono ?_; rintro e wz ⟨vz, rfl, hfz2, hbz⟩; obtain ⟨az, nz, cz, rfl, hIz⟩ := hfz2.si; have hbw := Bl.ofDrew hbz; have hzc := hbw.cell hcc; have hzk := hbw.cell hcell; have hzf := frozen_keep hbw hcell hfz; dsimp only)
  all_goals (
    have R := RG.store hBg hc hown hvl HRR.out hBh hbw (hfz2.mono (by show w.heap.size ≤ w.drew.heap.size; exact Nat.le_refl _)) hk
    clear HRR HVK hown hfz2 hIz hIk hzc hzk hzf hcc hcell hfz hc
    go_wp2_with fail
    go_ret
    exact ⟨rfl, R⟩)
end Go.Proofs.Ytechiehbigmjbaa
