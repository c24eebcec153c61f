/- gossip.Set, whatever is set: rows at a place whose slice is known; what else is there stays. By an AI agent. -/
import Derived.Test.YtpfpefapdcdkeaaGossip7
namespace Go.Proofs.Ytpfpefapdcdkeaa
open Go.RowKit

/-- rows at g whose slice lies at h -/
def RH (B : Nat) (w : World) (g h : Nat) (rows : List (List Int)) : Prop :=
  ∃ cap, C1 w g (.slice (some ⟨h, 0, none⟩) rows.length cap) ∧ B ≤ g ∧ OR (g + 1) w (.slice (some ⟨h, 0, none⟩) rows.length cap) rows

theorem RG.rh {B : Nat} {w : World} {g : Nat} {rows : List (List Int)} (r : RG B w g rows) (hp : 0 < rows.length) : ∃ h, RH B w g h rows := by
  obtain ⟨v, hc, hB, hor⟩ := r
  have hor' := hor
  obtain ⟨vs, hown, _, _⟩ := hor
  obtain ⟨h0, cap, rfl, _⟩ := OR.cellAt hown hp
  exact ⟨h0, cap, hc, hB, hor'⟩
theorem RH.rg {B : Nat} {w : World} {g h : Nat} {rows : List (List Int)} (r : RH B w g h rows) : RG B w g rows := by
  obtain ⟨cap, hc, hB, hor⟩ := r
  exact ⟨_, hc, hB, hor⟩
theorem RH.keep {B : Nat} {w w' : World} {g h : Nat} {rows : List (List Int)} (r : RH B w g h rows) (hb : Bl w w') : RH B w' g h rows := by
  obtain ⟨cap, hc, hB, hor⟩ := r
  exact ⟨cap, hc.keep hb, hB, hor.keep hb⟩
theorem RH.block {B : Nat} {w : World} {g h : Nat} {rows : List (List Int)} (r : RH B w g h rows) : g + 1 ≤ h ∧ ∃ cur fz, w.heap[h]? = some (.cells cur 23 fz) := by
  obtain ⟨cap, hc, hB, vs, hown, _, _⟩ := r
  exact OR.row hown h rfl
theorem RH.lt {B : Nat} {w : World} {g h : Nat} {rows : List (List Int)} (r : RH B w g h rows) : h < w.heap.size := by
  obtain ⟨_, cur, fz, hh⟩ := r.block
  exact lt_of_heap hh
theorem RH.ge {B : Nat} {w : World} {g h : Nat} {rows : List (List Int)} (r : RH B w g h rows) : B ≤ g := by
  obtain ⟨cap, hc, hB, hor⟩ := r
  exact hB
/-- where another one's slice is written to, these stay -/
theorem RH.other {B : Nat} {w w' : World} {g h h' : Nat} {rows : List (List Int)} (r : RH B w g h rows) (hg : w.grownBy w' (some h'))
    (hv : ∃ cur fz, w.heap[h']? = some (.cells cur 23 fz)) (n1 : h' ≠ g) (n2 : h' ≠ h) : RH B w' g h rows := by
  obtain ⟨cap, hc, hB, vs, hown, hvl, hrr⟩ := r
  have hrow : ∀ k, some h' = some k → ∃ cur fz, w.heap[k]? = some (.cells cur 23 fz) := fun k hk => by
    obtain rfl : h' = k := by simpa using hk
    exact hv
  refine ⟨cap, hc.grown hg (by simp; omega), hB, vs, World.ownsRow.kept hown hg (.inr (by simp [Value.ownBlock]; omega)), hvl, fun i => (hrr i).grown hg hrow⟩

theorem RH.store {B g h0 cap k : Nat} {w wz : World} {rows : List (List Int)} {row : List Int} {vs : List Value} {x : Value} (hBg : B ≤ g) (hc : C1 w g (.slice (some ⟨h0, 0, none⟩) rows.length cap))
    (hown : w.ownsRow (g + 1) 23 1 (.slice (some ⟨h0, 0, none⟩) rows.length cap) rows.length vs) (hvl : vs.length = rows.length) (hrr : ∀ i, FI (g + 1) w (nthV vs i) (nthR rows i)) (hBh : g + 1 ≤ h0)
    (hbw : Bl w wz) (hf : FI w.heap.size wz x row) (hk : k < rows.length) : wz.grownBy (wz.setCell ⟨h0, k, none⟩ x) (some h0) ∧ RH B (wz.setCell ⟨h0, k, none⟩ x) g h0 (rows.set k row) := by
  have hgl := hc.lt
  have hown1 := ownsRow_bl hown hbw
  have hst := World.ownsRow.stored hown1 k x
  have hrow : ∀ j, some h0 = some j → ∃ cur fz, wz.heap[j]? = some (.cells cur 23 fz) := fun j hj => by
    obtain ⟨_, c, f, h⟩ := OR.row hown1 j (by simpa [Value.ownBlock] using hj)
    exact ⟨c, f, h⟩
  refine ⟨hst.2, cap, by rw [List.length_set]; exact (hc.keep hbw).grown hst.2 (by simp; omega), hBg, vs.set k x, by rw [List.length_set]; exact hst.1, by simp [hvl], fun i => ?_⟩
  rw [nthV_set (by omega), nthR_set hk]
  split
  · exact (hf.mono (by omega)).grown hst.2 hrow
  · exact ((hrr i).keep hbw).grown hst.2 hrow

set_option maxHeartbeats 1600000 in
set_option maxRecDepth 100000 in
theorem set_yes2 (B g h n c : Nat) (ad : Option Addr) (k : Nat) (rows : List (List Int)) (xs : List Int) (w : World) (hr : RH B w g h rows) (hn : rows.length = n) (hn8 : n ≤ 8) (hk : k < n) (hx : IA w ad n xs) (hv : validL xs = true) :
    Calls Try.prog 13 #[.pointer (some ⟨g, 0, none⟩), .int .i64 k, .slice ad n c] w fun e w' => e = .returned (.int .i64 0) ∧ ∃ wz, Bl w wz ∧ wz.grownBy w' (some h) ∧ RH B w' g h (rows.set k (joinL (nthR rows k) xs)) := by
  obtain ⟨cap, hc, hBg, vs, hown, hvl, hrr⟩ := hr
  subst hn
  obtain ⟨h0, cap', e1, hBh, hcell, hfz⟩ := OR.cellAt hown hk
  obtain ⟨rfl, rfl⟩ : h = h0 ∧ cap = cap' := by simp at e1; exact e1
  clear e1
  obtain ⟨ai, ni, ci, hvk, hIk⟩ := (hrr k).si
  rw [hvk] at hcell
  have hkn : ((k : Nat) : Int) < (rows.length : Int) := by omega
  have HRR := Lib.hid hrr; clear hrr
  have HVK := Lib.hid hvk; clear hvk
  go_enter Try.func13, Try.ntmps13
  go_wp2_with fail
  refine (none_any g _ _ _ _ hc).mono ?_
  rintro e w1 ⟨rfl, rfl⟩
  have q0 : decide (rows.length = 0) = false := decide_eq_false (by omega)
  rw [q0]
  have hcc := hc.cell
  go_wp2_with fail
  refine (valid_any ad _ c xs _ hx).mono ?_
  rintro e w1 ⟨rfl, rfl⟩
  rw [hv]
  have q1 : ((rows.length : Int) != (rows.length : Int)) = false := by simp
  have h0k : (0 : Int) ≤ (k : Int) := by omega
  go_wp2_with fail
  go_region_law (go_simp; refine (join_any ai ad ni rows.length ci c (nthR rows k) xs w.drew (hIk.keep (Bl.refl w).drew) (hx.keep (Bl.refl w).drew)).mono ?_; rintro e wz ⟨vz, rfl, hfz2, hbz⟩; obtain ⟨az, nz, cz, rfl, hIz⟩ := hfz2.si; have hbw := Bl.ofDrew hbz; have hzc := hbw.cell hcc; have hzk := hbw.cell hcell; have hzf := frozen_keep hbw hcell hfz; dsimp only)
  all_goals (
    have R := RH.store hBg hc hown hvl HRR.out hBh hbw (hfz2.mono (by show w.heap.size ≤ w.drew.heap.size; exact Nat.le_refl _)) hk
    clear HRR HVK hown hfz2 hIz hIk hzc hzk hzf hcc hcell hfz hc
    go_wp2_with fail
    go_ret
    exact ⟨rfl, _, hbw, R⟩)

/-- what Set tells, and what the rows are behind it -/
def setE (rows : List (List Int)) (i : Int) (xs : List Int) : Int := if i < 0 ∨ (rows.length : Int) ≤ i then 5 else if validL xs = true ∧ xs.length = rows.length then 0 else 1
def setR (rows : List (List Int)) (i : Int) (xs : List Int) : List (List Int) := if i < 0 ∨ (rows.length : Int) ≤ i then rows else if validL xs = true ∧ xs.length = rows.length then rows.set i.toNat (joinL (nthR rows i.toNat) xs) else rows
theorem setR_len (rows : List (List Int)) (i : Int) (xs : List Int) : (setR rows i xs).length = rows.length := by
  unfold setR; split
  · rfl
  · split <;> simp

theorem grown_self (w : World) (r : Option Nat) : w.grownBy w r := ⟨rfl, rfl, rfl, Nat.le_refl _, fun _ _ _ => rfl⟩

theorem set_step (B g h m c : Nat) (ad : Option Addr) (i : Int) (rows : List (List Int)) (xs : List Int) (w : World) (hr : RH B w g h rows) (h1 : 1 ≤ rows.length) (hn8 : rows.length ≤ 8) (hx : IA w ad m xs) :
    Calls Try.prog 13 #[.pointer (some ⟨g, 0, none⟩), .int .i64 i, .slice ad m c] w fun e w' => e = .returned (.int .i64 (setE rows i xs)) ∧ ∃ wz, Bl w wz ∧ wz.grownBy w' (some h) ∧ RH B w' g h (setR rows i xs) := by
  unfold setE setR
  by_cases hi : i < 0 ∨ (rows.length : Int) ≤ i
  · rw [if_pos hi, if_pos hi]
    refine (set_index B g m c ad i rows w hr.rg h1 hn8 hi).mono ?_
    rintro e w' ⟨rfl, rfl⟩
    exact ⟨rfl, _, Bl.refl _, grown_self _ _, hr⟩
  · rw [if_neg hi, if_neg hi]
    obtain ⟨k, rfl⟩ : ∃ k : Nat, i = k := ⟨i.toNat, by omega⟩
    by_cases hv : validL xs = true ∧ xs.length = rows.length
    · rw [if_pos hv, if_pos hv]
      obtain rfl : m = rows.length := by rw [← hx.len]; exact hv.2
      exact set_yes2 B g h _ c ad k rows xs w hr rfl hn8 (by omega) hx hv.1
    · rw [if_neg hv, if_neg hv]
      refine (set_arg B g m c k ad rows xs w hr.rg h1 hn8 (by omega) hx ?_).mono ?_
      · rw [← hx.len]
        cases h2 : validL xs
        · exact .inl rfl
        · exact .inr fun e => hv ⟨h2, e⟩
      · rintro e w' ⟨rfl, rfl⟩
        exact ⟨rfl, _, Bl.refl _, grown_self _ _, hr⟩
end Go.Proofs.Ytpfpefapdcdkeaa
