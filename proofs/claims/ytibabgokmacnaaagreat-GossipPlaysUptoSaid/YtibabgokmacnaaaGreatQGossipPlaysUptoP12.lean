import Derived.Test.YtibabgokmacnaaaGreatQGossipPlaysUptoP11
import Derived.Test.YtibabgokmacnaaaGreatQGossipPlaysUptoP4

/- gossip.Set. By an AI agent. -/
section
namespace Go.Proofs.YtibabgokmacnaaaGreat
open Go.RowKit

/-- a row's own cell -/
theorem OR.cellAt {B n : Nat} {w : World} {v : Value} {vs : List Value} (h : w.ownsRow B 23 1 v n vs) {j : Nat} (hj : j < n) :
    ∃ h0 cap, v = .slice (some ⟨h0, 0, none⟩) n cap ∧ B ≤ h0 ∧ w.cell? ⟨h0, j, none⟩ = some (nthV vs j) ∧ w.frozen? ⟨h0, j, none⟩ = false := by
  have h' := h
  obtain ⟨h1, ⟨_, h2⟩ | ⟨h0, cap, cur, rfl, hB, hh, r⟩⟩ := h
  · omega
  · refine ⟨h0, cap, rfl, hB, ?_, World.ownsRow.frozenAt h' j⟩
    rw [World.ownsRow.cellAt h' j (by omega)]
    have hl : j < vs.length := by omega
    simp [nthV, List.getD, hl]

theorem frozen_keep {w w' : World} (hb : Bl w w') {p : Addr} {v : Value} {b : Bool} (hc : w.cell? p = some v) (h : w.frozen? p = b) : w'.frozen? p = b := by
  rw [World.frozen?_of_block (hb.block _ (World.block_lt_of_cell? _ _ hc))]
  exact h

theorem nthV_set {vs : List Value} {k : Nat} (hk : k < vs.length) (x : Value) (i : Nat) : nthV (vs.set k x) i = if i = k then x else nthV vs i := by
  unfold nthV
  by_cases h : i = k
  · subst h; simp [List.getD, hk]
  · rw [if_neg h]; simp [List.getD, List.getElem?_set_ne (Ne.symm h)]
theorem nthR_set {vs : List (List Int)} {k : Nat} (hk : k < vs.length) (x : List Int) (i : Nat) : nthR (vs.set k x) i = if i = k then x else nthR vs i := by
  unfold nthR
  by_cases h : i = k
  · subst h; simp [List.getD, hk]
  · rw [if_neg h]; simp [List.getD, List.getElem?_set_ne (Ne.symm h)]

theorem RG.store {B g h0 cap k : Nat} {w wz : World} {rows : List (List Int)} {row : List Int} {vs : List Value} {x : Value} (hBg : B ≤ g) (hc : C1 w g (.slice (some ⟨h0, 0, none⟩) rows.length cap))
    (hown : w.ownsRow (g + 1) 23 1 (.slice (some ⟨h0, 0, none⟩) rows.length cap) rows.length vs) (hvl : vs.length = rows.length) (hrr : ∀ i, FI (g + 1) w (nthV vs i) (nthR rows i)) (hBh : g + 1 ≤ h0)
    (hbw : Bl w wz) (hf : FI w.heap.size wz x row) (hk : k < rows.length) : RG B (wz.setCell ⟨h0, k, none⟩ x) g (rows.set k row) ∧ Below B w (wz.setCell ⟨h0, k, none⟩ x) := by
  have hgl := hc.lt
  have hown1 := ownsRow_bl hown hbw
  have hst := World.ownsRow.stored hown1 k x
  have hrow : ∀ j, some h0 = some j → ∃ cur fz, wz.heap[j]? = some (.cells cur 23 fz) := fun j hj => by
    obtain ⟨_, c, f, h⟩ := OR.row hown1 j (by simpa [Value.ownBlock] using hj)
    exact ⟨c, f, h⟩
  refine ⟨⟨_, (hc.keep hbw).grown hst.2 (by simp; omega), hBg, vs.set k x, by simpa using hst.1, by simp [hvl], fun i => ?_⟩, ?_⟩
  · rw [nthV_set (by omega), nthR_set hk]
    split
    · exact (hf.mono (by omega)).grown hst.2 hrow
    · exact ((hrr i).keep hbw).grown hst.2 hrow
  · exact Below.setCell (Below.mono hbw (by omega)) (p := ⟨h0, k, none⟩) (by show B ≤ h0; omega) _

set_option maxHeartbeats 1600000 in
set_option maxRecDepth 100000 in
theorem set_yes (B g n c : Nat) (ad : Option Addr) (k : Nat) (rows : List (List Int)) (xs : List Int) (w : World) (hr : RG B w g rows) (hn : rows.length = n) (hn8 : n ≤ 8) (hk : k < n) (hx : IA w ad n xs) (hv : validL xs = true) :
    Calls Tryz.prog 38 #[.pointer (some ⟨g, 0, none⟩), .int .i64 k, .slice ad n c] w fun e w' => e = .returned (.int .i64 0) ∧ RG B w' g (rows.set k (joinL (nthR rows k) xs)) ∧ Below B w w' := by
  obtain ⟨v, hc, hBg, vs, hown, hvl, hrr⟩ := hr
  subst hn
  obtain ⟨h0, cap, rfl, hBh, hcell, hfz⟩ := OR.cellAt hown hk
  obtain ⟨ai, ni, ci, hvk, hIk⟩ := (hrr k).si
  rw [hvk] at hcell
  have hkn : ((k : Nat) : Int) < (rows.length : Int) := by omega
  have HRR := Lib.hid hrr; clear hrr
  have HVK := Lib.hid hvk; clear hvk
  go_enter Tryz.func38, Tryz.ntmps38
  go_wp2_with fail
  refine (none_any g _ _ _ _ hc).mono ?_
  rintro e w1 ⟨rfl, rfl⟩
  have q0 : decide (rows.length = 0) = false := decide_eq_false (by omega)
  rw [q0]
  have hcc := hc.cell
  go_wp2_with fail
  refine (valid_any ad _ c xs _ hx).mono ?_
  rintro e w1 ⟨rfl, rfl⟩
  rw [hv]
  have q1 : ((rows.length : Int) != (rows.length : Int)) = false := by simp
  have h0k : (0 : Int) ≤ (k : Int) := by omega
  go_wp2_with fail
  go_region_law (go_simp; refine (join_any ai ad ni rows.length ci c (nthR rows k) xs w.drew (hIk.keep (Bl.refl w).drew) (hx.keep (Bl.refl w).drew)).mono ?_; rintro e wz ⟨vz, rfl, hfz2, hbz⟩; obtain ⟨az, nz, cz, rfl, hIz⟩ := hfz2.si; have hbw := Bl.ofDrew hbz; have hzc := hbw.cell hcc; have hzk := hbw.cell hcell; have hzf := frozen_keep hbw hcell hfz; dsimp only)
  all_goals (
    have R := RG.store hBg hc hown hvl HRR.out hBh hbw (hfz2.mono (by show w.heap.size ≤ w.drew.heap.size; exact Nat.le_refl _)) hk
    clear HRR HVK hown hfz2 hIz hIk hzc hzk hzf hcc hcell hfz hc
    go_wp2_with fail
    go_ret
    exact ⟨rfl, R⟩)
end Go.Proofs.YtibabgokmacnaaaGreat
end

/- gossip.Row, all, Stable, Best. By an AI agent. -/
section
namespace Go.Proofs.YtibabgokmacnaaaGreat
open Go.RowKit

set_option maxHeartbeats 1600000 in
set_option maxRecDepth 100000 in
theorem row_yes (B g k : Nat) (rows : List (List Int)) (w : World) (hr : RG B w g rows) (hk : k < rows.length) :
    Calls Tryz.prog 47 #[.pointer (some ⟨g, 0, none⟩), .int .i64 k] w fun e w' => ∃ v, e = .returned v ∧ FI w.heap.size w' v (nthR rows k) ∧ Bl w w' := by
  obtain ⟨v, hc, hBg, vs, hown, hvl, hrr⟩ := hr
  obtain ⟨h0, cap, rfl, hBh, hcell, hfz⟩ := OR.cellAt hown hk
  obtain ⟨ai, ni, ci, hvk, hIk⟩ := (hrr k).si
  rw [hvk] at hcell
  have hkn : ((k : Nat) : Int) < (rows.length : Int) := by omega
  clear hrr hvk hown
  go_enter Tryz.func47, Tryz.ntmps47
  go_wp2_with fail
  refine (none_any g _ _ _ _ hc).mono ?_
  rintro e w1 ⟨rfl, rfl⟩
  have q0 : decide (rows.length = 0) = false := decide_eq_false (by omega)
  rw [q0]
  have hcc := hc.cell
  have h0k : (0 : Int) ≤ (k : Int) := by omega
  go_wp2_with fail
  refine (vclone_any ai ni ci (nthR rows k) _ hIk).mono ?_
  rintro e w1 ⟨v1, rfl, hf1, hb1⟩
  go_wp2_with fail
  go_ret
  exact ⟨_, rfl, hf1, hb1⟩

/-- a function of two vectors that tells number by number -/
def Tells2 (f : FuncId) (t : Int → Int → Int) : Prop :=
  (∀ (a b : Option Addr) (n m ca cb : Nat) (xs ys : List Int) (w : World), IA w a n xs → IA w b m ys → Calls Tryz.prog f #[.slice a n ca, .slice b m cb] w fun e w' => ∃ v, e = .returned v ∧ FI w.heap.size w' v (eachL t xs ys) ∧ Bl w w') ∧
  ∀ args w, (callFunc f args).run Tryz.prog w = .ok (.enter f args) w
theorem tells2_join : Tells2 9 max := ⟨fun a b n m ca cb xs ys w hx hy => join_any a b n m ca cb xs ys w hx hy, fun _ _ => by kernel_rfl⟩
theorem tells2_meet : Tells2 10 min := ⟨fun a b n m ca cb xs ys w hx hy => meet_any a b n m ca cb xs ys w hx hy, fun _ _ => by kernel_rfl⟩

/-- what 'all' tells -/
def allL (t : Int → Int → Int) (rows : List (List Int)) : List Int := rows.foldl (eachL t) (nthR rows 0)
theorem take_nthR {rows : List (List Int)} {k : Nat} (h : k < rows.length) : rows.take (k + 1) = rows.take k ++ [nthR rows k] := by
  rw [List.take_succ_eq_append_getElem h]
  simp [nthR, List.getD, h]

set_option maxHeartbeats 1600000 in
set_option maxRecDepth 100000 in
theorem all_yes (f : FuncId) (t : Int → Int → Int) (ht : Tells2 f t) (B g : Nat) (rows : List (List Int)) (w : World) (hr : RG B w g rows) (hn8 : rows.length ≤ 8) (hk : 0 < rows.length) :
    Calls Tryz.prog 140 #[.pointer (some ⟨g, 0, none⟩), .func (.func f) #[] #[]] w fun e w' => ∃ v, e = .returned v ∧ FI w.heap.size w' v (allL t rows) ∧ Bl w w' := by
  have hr' := hr
  obtain ⟨v, hc, hBg, vs, hown, hvl, hrr⟩ := hr
  obtain ⟨h0, cap, rfl, hBh, _, _⟩ := OR.cellAt hown hk
  have hcf := ht.2
  have HRR := Lib.hid hrr; clear hrr
  go_enter Tryz.func140, Tryz.ntmps140
  go_wp2_with fail
  refine (none_any g _ _ _ _ hc).mono ?_
  rintro e w1 ⟨rfl, rfl⟩
  have q0 : decide (rows.length = 0) = false := decide_eq_false (by omega)
  rw [q0]
  go_wp2_with fail
  refine (row_yes B g 0 rows _ hr' hk).mono ?_
  rintro e w1 ⟨v1, rfl, hf1, hb1⟩
  have hc1 := hc.keep hb1
  have hcc := hc1.cell
  go_wp2_with fail
  go_loopw [5, 17] (fun v i wr => ∃ (k : Nat) (acc : List Int), k ≤ rows.length ∧ i = .int .i64 k ∧ Bl w wr ∧ FI w.heap.size wr v acc ∧ acc = (rows.take k).foldl (eachL t) (nthR rows 0)) (fun _ i _ => rows.length - (intOf i).toNat)
  case atStart => exact ⟨0, _, Nat.zero_le _, rfl, hb1, hf1, rfl⟩
  case round =>
    clear hf1 hc1 hcc hb1
    obtain ⟨k, acc, hkl, rfl, hbl, hfi, hacc⟩ := hrel
    have HACC := Lib.hid hacc; clear hacc
    by_cases hlt : k < rows.length
    · obtain ⟨h0', cap', e1, _, hcell, _⟩ := OR.cellAt hown hlt
      obtain ⟨rfl, rfl⟩ : h0 = h0' ∧ cap = cap' := by simp at e1; exact e1
      clear e1
      obtain ⟨ai, ni, ci, hvk, hIk⟩ := (HRR.out k).si
      rw [hvk] at hcell
      obtain ⟨aa, na, ca, rfl, hIa⟩ := hfi.si
      have hcell := hbl.cell hcell
      have hIk := hIk.keep hbl
      clear hfi hvk
      go_wp2_with fail
      refine (ht.1 aa ai na ni ca ci acc (nthR rows k) _ hIa hIk).mono ?_
      rintro e w2 ⟨v2, rfl, hf2, hb2⟩
      have hbs := hbl.size
      go_wp2_with fail
      go_roundw
      case rel => exact ⟨k + 1, _, by omega, by go_num, hbl.trans hb2, hf2.mono hbs, by rw [take_nthR hlt, List.foldl_append, ← HACC.out]; rfl⟩
      case measure => simp [intOf]; omega
    · obtain rfl : k = rows.length := by omega
      go_wp2_with fail
      go_ret
      refine ⟨_, rfl, ?_, hbl⟩
      rw [HACC.out, List.take_length] at hfi
      exact hfi

theorem stable_yes (B g : Nat) (rows : List (List Int)) (w : World) (hr : RG B w g rows) (hn8 : rows.length ≤ 8) (hk : 0 < rows.length) :
    Calls Tryz.prog 40 #[.pointer (some ⟨g, 0, none⟩)] w fun e w' => ∃ v, e = .returned v ∧ FI w.heap.size w' v (allL min rows) ∧ Bl w w' := by
  go_enter Tryz.func40, Tryz.ntmps40
  go_wp2_with fail
  refine (all_yes _ _ tells2_meet B g rows _ hr hn8 hk).mono ?_
  rintro e w1 ⟨v1, rfl, hf1, hb1⟩
  go_wp2_with fail
  go_ret
  exact ⟨_, rfl, hf1, hb1⟩
theorem best_yes (B g : Nat) (rows : List (List Int)) (w : World) (hr : RG B w g rows) (hn8 : rows.length ≤ 8) (hk : 0 < rows.length) :
    Calls Tryz.prog 41 #[.pointer (some ⟨g, 0, none⟩)] w fun e w' => ∃ v, e = .returned v ∧ FI w.heap.size w' v (allL max rows) ∧ Bl w w' := by
  go_enter Tryz.func41, Tryz.ntmps41
  go_wp2_with fail
  refine (all_yes _ _ tells2_join B g rows _ hr hn8 hk).mono ?_
  rintro e w1 ⟨v1, rfl, hf1, hb1⟩
  go_wp2_with fail
  go_ret
  exact ⟨_, rfl, hf1, hb1⟩
end Go.Proofs.YtibabgokmacnaaaGreat
end
