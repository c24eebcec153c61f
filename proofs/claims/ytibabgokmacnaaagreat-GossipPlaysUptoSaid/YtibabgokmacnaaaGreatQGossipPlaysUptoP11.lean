import Derived.Test.YtibabgokmacnaaaGreatQGossipPlaysUptoP6
import Derived.Test.YtibabgokmacnaaaGreatQGossipPlaysUptoP9
import Derived.Test.YtibabgokmacnaaaGreatQGossipPlaysUptoP10
import Derived.Deep.RegionHeld3
import Derived.Deep.AppendLies
import Derived.Deep.RegionLaw

/- vec.Zero; gossip.New, none: what they make. By an AI agent. -/
section
namespace Go.Proofs.YtibabgokmacnaaaGreat
open Go.RowKit

/-! ### rows: a list of lists -/
def nthV (vs : List Value) (i : Nat) : Value := vs.getD i (.slice none 0 0)
def nthR (rows : List (List Int)) (i : Nat) : List Int := rows.getD i []
/-- a slice of vectors, made by the call itself, reads as rows -/
def OR (B : Nat) (w : World) (v : Value) (rows : List (List Int)) : Prop :=
  ∃ vs : List Value, w.ownsRow B 23 1 v rows.length vs ∧ vs.length = rows.length ∧ ∀ i, FI B w (nthV vs i) (nthR rows i)
/-- rows at g read as .. -/
def RG (B : Nat) (w : World) (g : Nat) (rows : List (List Int)) : Prop := ∃ v, C1 w g v ∧ B ≤ g ∧ OR (g + 1) w v rows

theorem OR.nil (B : Nat) (w : World) : OR B w (.slice none 0 0) [] := ⟨[], World.ownsRow_nil _ _ _ _, rfl, fun i => by simp [nthV, nthR]; exact FI.nil _ _⟩
theorem OR.keep {B : Nat} {w w' : World} {v : Value} {rows : List (List Int)} (h : OR B w v rows) (hb : Bl w w') : OR B w' v rows := by
  obtain ⟨vs, h1, h2, h3⟩ := h
  exact ⟨vs, ownsRow_bl h1 hb, h2, fun i => (h3 i).keep hb⟩
theorem RG.keep {B : Nat} {w w' : World} {g : Nat} {rows : List (List Int)} (h : RG B w g rows) (hb : Bl w w') : RG B w' g rows := by
  obtain ⟨v, h1, h2, h3⟩ := h
  exact ⟨v, h1.keep hb, h2, h3.keep hb⟩

theorem none_nil (w : World) : Calls Tryz.prog 139 #[.pointer none] w fun e w' => e = .returned (.bool true) ∧ w = w' := by
  go_enter Tryz.func139, Tryz.ntmps139
  go_wp2
  go_ret
  exact ⟨rfl, rfl⟩

theorem OR.slice {B : Nat} {w : World} {v : Value} {rows : List (List Int)} (h : OR B w v rows) : ∃ a c, v = .slice a rows.length c := by
  obtain ⟨vs, hown, _, _⟩ := h
  rcases hown.2 with ⟨rfl, e⟩ | ⟨g, cap, cur, rfl, _⟩
  · exact ⟨_, _, by rw [e]⟩
  · exact ⟨_, _, rfl⟩

theorem none_any (g n c : Nat) (a : Option Addr) (w : World) (h : C1 w g (.slice a n c)) : Calls Tryz.prog 139 #[.pointer (some ⟨g, 0, none⟩)] w fun e w' => e = .returned (.bool (decide (n = 0))) ∧ w = w' := by
  have hc := h.cell
  by_cases h0 : n = 0
  · have q : ((n : Int) == 0) = true := by simp [h0]
    have HN := Lib.hid h0; clear h0
    go_enter Tryz.func139, Tryz.ntmps139
    go_wp2
    go_ret
    exact ⟨ret_bool (by simp [HN.out]), rfl⟩
  · have q : ((n : Int) == 0) = false := by simp; omega
    have HN := Lib.hid h0; clear h0
    go_enter Tryz.func139, Tryz.ntmps139
    go_wp2
    go_ret
    exact ⟨ret_bool (by simp [HN.out]), rfl⟩
end Go.Proofs.YtibabgokmacnaaaGreat
end

/- gossip.New. By an AI agent. -/
section
namespace Go.Proofs.YtibabgokmacnaaaGreat
open Go.RowKit

theorem FI.mono {B B' : Nat} {w : World} {v : Value} {xs : List Int} (h : FI B w v xs) (hB : B' ≤ B) : FI B' w v xs := ⟨World.ownsRow.mono h.own hB, h.cap, h.wf⟩
theorem FI.grown {B : Nat} {w w' : World} {v : Value} {xs : List Int} {row : Option Nat} (h : FI B w v xs) (hg : w.grownBy w' row)
    (hrow : ∀ k, row = some k → ∃ cur fz, w.heap[k]? = some (.cells cur 23 fz)) : FI B w' v xs := by
  refine ⟨?_, h.cap, h.wf⟩
  obtain ⟨h1, h2 | ⟨g, cap, cur, hv, hB, hh, r⟩⟩ := h.own
  · exact ⟨h1, .inl h2⟩
  · refine ⟨h1, .inr ⟨g, cap, cur, hv, hB, ?_, r⟩⟩
    rw [hg.block g (lt_of_heap hh) ?_]
    · exact hh
    · intro e
      obtain ⟨c2, fz, h3⟩ := hrow g e.symm
      rw [hh] at h3
      simp at h3
theorem OR.row {B : Nat} {w : World} {v : Value} {n : Nat} {vs : List Value} (h : w.ownsRow B 23 1 v n vs) : ∀ k, v.ownBlock = some k → B ≤ k ∧ ∃ cur fz, w.heap[k]? = some (.cells cur 23 fz) := by
  intro k hk
  obtain ⟨h1, ⟨rfl, _⟩ | ⟨g, cap, cur, rfl, hB, hh, r⟩⟩ := h
  · simp [Value.ownBlock] at hk
  · simp [Value.ownBlock] at hk
    subst hk
    exact ⟨hB, _, _, hh⟩
theorem nthV_push (vs : List Value) (x : Value) (i : Nat) : nthV (vs ++ [x]) i = if i = vs.length then x else nthV vs i := by
  unfold nthV
  by_cases h : i < vs.length
  · rw [if_neg (by omega)]; simp [List.getD, List.getElem?_append_left h]
  · by_cases h2 : i = vs.length
    · subst h2; simp [List.getD]
    · rw [if_neg h2]; simp [List.getD, List.getElem?_eq_none (by omega : vs.length ≤ i)]; rw [List.getElem?_eq_none (by simp; omega)]; rfl
theorem nthR_push (vs : List (List Int)) (x : List Int) (i : Nat) : nthR (vs ++ [x]) i = if i = vs.length then x else nthR vs i := by
  unfold nthR
  by_cases h : i < vs.length
  · rw [if_neg (by omega)]; simp [List.getD, List.getElem?_append_left h]
  · by_cases h2 : i = vs.length
    · subst h2; simp [List.getD]
    · rw [if_neg h2]; simp [List.getD, List.getElem?_eq_none (by omega : vs.length ≤ i)]; rw [List.getElem?_eq_none (by simp; omega)]; rfl

/-- behind 'append(l, x)' -/
theorem OR.push {B : Nat} {w w1 : World} {v v' x : Value} {rows : List (List Int)} {row : List Int} {vs : List Value} {o : Obj} (hown : w.ownsRow B 23 1 v rows.length vs) (hl : vs.length = rows.length) (hr : ∀ i, FI B w (nthV vs i) (nthR rows i)) (hx : FI B w x row)
    (hown' : w1.ownsRow B 23 1 v' (rows.length + 1) (vs ++ [x])) (hg : (w.alloc o).grownBy w1 v.ownBlock) : OR B w1 v' (rows ++ [row]) := by
  have hb := (Bl.refl w).alloc o
  have hrow : ∀ k, v.ownBlock = some k → ∃ cur fz, (w.alloc o).heap[k]? = some (.cells cur 23 fz) := fun k hk => by
    obtain ⟨_, c, f, h⟩ := OR.row hown k hk
    exact ⟨c, f, hb.heap h⟩
  refine ⟨vs ++ [x], by simpa using hown', by simp [hl], fun i => ?_⟩
  rw [nthV_push, nthR_push, hl]
  split
  · exact (hx.keep hb).grown hg hrow
  · exact ((hr i).keep hb).grown hg hrow

theorem OR.below {B : Nat} {w : World} {v : Value} {rows : List (List Int)} (h : OR B w v rows) {p : Addr} (hp : p.block < B) (u : Value) : OR B (w.setCell p u) v rows := by
  obtain ⟨vs, h1, h2, h3⟩ := h
  exact ⟨vs, ownsRow_setCell_below h1 hp _, h2, fun i => ⟨ownsRow_setCell_below (h3 i).own hp _, (h3 i).cap, (h3 i).wf⟩⟩
theorem OR.app {B0 g : Nat} {w0 wr wz w2 : World} {v v' x : Value} {rows : List (List Int)} {row : List Int} {vs : List Value} {o : Obj} (hb : Below B0 w0 wr) (hB : B0 ≤ g) (hsz : g + 1 ≤ wr.heap.size)
    (hown : wr.ownsRow (g + 1) 23 1 v rows.length vs) (hl : vs.length = rows.length) (hr : ∀ i, FI (g + 1) wr (nthV vs i) (nthR rows i)) (hbz : Bl wr wz) (hx : FI wr.heap.size wz x row)
    (hown' : w2.ownsRow (g + 1) 23 1 v' (rows.length + 1) (vs ++ [x])) (hg : (wz.alloc o).grownBy w2 v.ownBlock) (u : Value) :
    OR (g + 1) (w2.setCell ⟨g, 0, none⟩ u) v' (rows ++ [row]) ∧ Below B0 w0 (w2.setCell ⟨g, 0, none⟩ u) ∧ g + 1 ≤ (w2.setCell ⟨g, 0, none⟩ u).heap.size := by
  have hz := hbz.size
  have hs2 := hg.size
  simp at hs2
  refine ⟨OR.below (OR.push (ownsRow_bl hown hbz) hl (fun i => (hr i).keep hbz) (hx.mono hsz) hown' hg) (Nat.lt_succ_self _) _, ?_, by simp [World.setCell]; omega⟩
  exact Below.setCell (Below.grown (Below.alloc (Below.trans hb (Below.mono hbz (by omega))) (by omega) _) hg (by simp; omega) (fun k hk => by have := (World.ownsRow.lt hown k hk).1; omega)) (p := ⟨g, 0, none⟩) hB _

set_option maxHeartbeats 1600000 in
set_option maxRecDepth 100000 in
theorem new_yes (n : Nat) (w : World) (h1 : 1 ≤ n) (h8 : n ≤ 8) :
    Calls Tryz.prog 33 #[.int .i64 n] w fun e w' => ∃ g, e = .returned (.pointer (some ⟨g, 0, none⟩)) ∧ RG w.heap.size w' g (List.replicate n (zeroL n)) ∧ Bl w w' := by
  obtain ⟨i0, hi, hz0, hz1, hz2⟩ := info_parts info_vec
  go_enter Tryz.func33, Tryz.ntmps33
  go_wp2_with fail
  go_loopw [13] (fun i wr => ∃ (k : Nat) (v : Value), k ≤ n ∧ i = .int .i64 k ∧ C1 wr w.heap.size v ∧ OR (w.heap.size + 1) wr v (List.replicate k (zeroL n)) ∧ Below w.heap.size w wr ∧ w.heap.size + 1 ≤ wr.heap.size) (fun i _ => n - (intOf i).toNat)
  case atStart => exact ⟨0, _, Nat.zero_le _, rfl, C1.new w _ rfl _ _, OR.nil _ _, (Bl.refl w).alloc _, by simp⟩
  case round =>
    obtain ⟨k, v, hk, rfl, hc, hor, hb, hsz⟩ := hrel
    by_cases hlt : k < n
    · go_wp2_with fail
      have hkc := hc.cell
      have hkf := hc.frozen
      obtain ⟨vs, hown, hvl, hrr⟩ := hor
      have hown' := hown
      have HOWN := Lib.hid (And.intro hown (And.intro hvl hrr))
      clear hrr hvl hown
      rw [List.length_replicate] at hown'
      go_region_law (first
        | (refine step_append_lies _ rfl _ _ 71 rfl (w.heap.size + 1) 23 i0 (.slice none 0 0) 1 24 Tryz.underlying71 hi hz0 hz1 hz2 rfl (by decide) v k vs rfl (by exact ownsRow_bl hown' ((Bl.ofDrew hbz).alloc _)) ⟨wz.heap.size, 0, none⟩ 1 1 [.slice az nz cz] rfl rfl (by exact World.news_of_block (heap_alloc_new wz _)) (by intro u hu; simp at hu; subst hu; rfl) (by decide) (by unfold maxLen; omega) (by omega) (by have := (Bl.ofDrew hbz).size; simp; omega) _ rfl ?_; intro g2 cap2 w2 hown2 hg2 hgb2 hlt2; have hd2 := (hd1.alloc _).grown hg2 (fun e => by have := (OR.row hown' _ e.symm).1; omega); have hd2c := hd2.cell; have hd2f := hd2.frozen)
        | (go_simp; refine (zero_yes n _ h1 h8).mono ?_; rintro e wz ⟨vz, rfl, hfz, hbz⟩; obtain ⟨az, nz, cz, rfl, hIz⟩ := hfz.si; have hd1 := hc.keep (Bl.ofDrew hbz); have hd1c := hd1.cell; have hd1a := (fun o => (hd1.alloc o).cell); dsimp only))
      all_goals (
        obtain ⟨ho1, ho2, ho3⟩ := HOWN.out
        have R := OR.app hb (Nat.le_refl _) hsz ho1 ho2 ho3 (Bl.ofDrew hbz) hfz (by rw [List.length_replicate]; exact hown2) hg2 (.slice (some ⟨g2, 0, none⟩) (k + 1) cap2)
        have hd3 := hd2.set (.slice (some ⟨g2, 0, none⟩) (k + 1) cap2)
        rw [← List.replicate_succ'] at R
        clear ho1 ho2 ho3 hown' hown2 hg2 hgb2 hlt2 hd1c hd1a hd2c hd2f hkc hkf HOWN hfz hIz
        go_wp2_with fail
        go_roundw
        case rel => exact ⟨k + 1, _, by omega, by go_num, hd3, R.1, R.2.1, R.2.2⟩
        case measure => simp [intOf]; omega)
    · go_wp2_with fail
      go_ret
      obtain rfl : k = n := by omega
      exact ⟨_, rfl, ⟨_, hc, Nat.le_refl _, hor⟩, hb⟩
end Go.Proofs.YtibabgokmacnaaaGreat
end
