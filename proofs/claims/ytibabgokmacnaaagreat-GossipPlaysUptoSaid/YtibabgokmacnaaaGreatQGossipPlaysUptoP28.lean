import Derived.Test.YtibabgokmacnaaaGreatQGossipPlaysUptoP21
import Derived.Test.YtibabgokmacnaaaGreatQGossipPlaysUptoP27

/- rows all of whose blocks are known: what else may turn. By an AI agent. -/
section
set_option linter.unusedVariables false
set_option linter.unusedSimpArgs false
namespace Go.Proofs.YtibabgokmacnaaaGreat
open Go.RowKit

/-- rows at g, their slice at h, all their blocks in T -/
def RT (T : Nat → Prop) (B : Nat) (w : World) (g h : Nat) (rows : List (List Int)) : Prop :=
  ∃ cap vs, C1 w g (.slice (some ⟨h, 0, none⟩) rows.length cap) ∧ B ≤ g ∧ w.ownsRow (g + 1) 23 1 (.slice (some ⟨h, 0, none⟩) rows.length cap) rows.length vs ∧ vs.length = rows.length ∧
    (∀ i, FI (g + 1) w (nthV vs i) (nthR rows i)) ∧ T g ∧ T h ∧ ∀ i b, (nthV vs i).ownBlock = some b → T b
theorem RT.rh {T : Nat → Prop} {B : Nat} {w : World} {g h : Nat} {rows : List (List Int)} (r : RT T B w g h rows) : RH B w g h rows := by
  obtain ⟨cap, vs, h1, h2, h3, h4, h5, -⟩ := r
  exact ⟨cap, h1, h2, vs, h3, h4, h5⟩
theorem RT.rg {T : Nat → Prop} {B : Nat} {w : World} {g h : Nat} {rows : List (List Int)} (r : RT T B w g h rows) : RG B w g rows := r.rh.rg
theorem RH.rt {T : Nat → Prop} {B : Nat} {w : World} {g h : Nat} {rows : List (List Int)} (r : RH B w g h rows) (ht : ∀ b, B ≤ b → b < w.heap.size → T b) : RT T B w g h rows := by
  have hl := r.lt
  have hg := r.block.1
  obtain ⟨cap, h1, h2, vs, h3, h4, h5⟩ := r
  refine ⟨cap, vs, h1, h2, h3, h4, h5, ht g h2 h1.lt, ht h (by omega) hl, fun i b e => ?_⟩
  have := World.ownsRow.lt (h5 i).own b e
  exact ht b (by omega) this.2
theorem RG.rt {T : Nat → Prop} {B : Nat} {w : World} {g : Nat} {rows : List (List Int)} (r : RG B w g rows) (hp : 0 < rows.length) (ht : ∀ b, B ≤ b → b < w.heap.size → T b) : ∃ h, RT T B w g h rows := by
  obtain ⟨h, hr⟩ := r.rh hp
  exact ⟨h, hr.rt ht⟩
theorem RT.mono {T T' : Nat → Prop} {B B' : Nat} {w : World} {g h : Nat} {rows : List (List Int)} (r : RT T B w g h rows) (ht : ∀ b, T b → T' b) (hB : B' ≤ B) : RT T' B' w g h rows := by
  obtain ⟨cap, vs, h1, h2, h3, h4, h5, h6, h7, h8⟩ := r
  exact ⟨cap, vs, h1, Nat.le_trans hB h2, h3, h4, h5, ht _ h6, ht _ h7, fun i b e => ht _ (h8 i b e)⟩
theorem RT.keep {T : Nat → Prop} {B : Nat} {w w' : World} {g h : Nat} {rows : List (List Int)} (r : RT T B w g h rows) (hb : Bl w w') : RT T B w' g h rows := by
  obtain ⟨cap, vs, h1, h2, h3, h4, h5, h6⟩ := r
  exact ⟨cap, vs, h1.keep hb, h2, ownsRow_bl h3 hb, h4, fun i => (h5 i).keep hb, h6⟩
theorem C1.fr {S : Nat → Prop} {w w' : World} {g : Nat} {v : Value} (h : C1 w g v) (hf : Fr S w w') (hs : ¬ S g) : C1 w' g v := by
  obtain ⟨t, h⟩ := h
  exact ⟨t, by rw [hf.block g (lt_of_heap h) hs]; exact h⟩
theorem RT.fr {S T : Nat → Prop} {B : Nat} {w w' : World} {g h : Nat} {rows : List (List Int)} (r : RT T B w g h rows) (hf : Fr S w w') (hs : ∀ b, T b → ¬ S b) : RT T B w' g h rows := by
  obtain ⟨cap, vs, h1, h2, h3, h4, h5, h6, h7, h8⟩ := r
  exact ⟨cap, vs, h1.fr hf (hs _ h6), h2, hf.own h3 (fun b e => hs _ (by simp [Value.ownBlock] at e; subst e; exact h7)), h4, fun i => (h5 i).fr hf (fun b e => hs _ (h8 i b e)), h6, h7, h8⟩
theorem RT.hT {T : Nat → Prop} {B : Nat} {w : World} {g h : Nat} {rows : List (List Int)} (r : RT T B w g h rows) : T g ∧ T h := by
  obtain ⟨cap, vs, h1, h2, h3, h4, h5, h6, h7, h8⟩ := r
  exact ⟨h6, h7⟩

/-- an own slice of ints lies in a block of ints -/
theorem FI.typed {B : Nat} {w : World} {v : Value} {xs : List Int} (f : FI B w v xs) {b : Nat} (e : v.ownBlock = some b) : ∃ cur fz, w.heap[b]? = some (.cells cur 3 fz) := by
  have ho := f.own
  unfold OI at ho
  obtain ⟨h1, ⟨rfl, _⟩ | ⟨g, cap, cur, rfl, hB, hg, r⟩⟩ := ho
  · cases e
  · obtain rfl : g = b := by simpa [Value.ownBlock] using e
    exact ⟨_, _, hg⟩
/-- where a block that is known, and holds no ints, is written on, the book and its vectors stay -/
theorem BP.frameT {B : Nat} {W W' : World} {g : Nat} {ps : List (Value × List Int)} {T : Nat → Prop} (h : BP B W g ps T) {b : Nat} (hf : Fr (fun k => k = b) W W') (hb : T b)
    (ht : ∃ cur t fz, W.heap[b]? = some (.cells cur t fz) ∧ t ≠ 3) : BP B W' g ps T := by
  obtain ⟨n, vv, wv, vs, us, xs, h⟩ := h
  have hbs := (h.t b hb).2
  have hfi : ∀ {B : Nat} {v : Value} {xs : List Int}, FI B W v xs → FI B W' v xs := fun f => f.fr hf (fun k e q => by
    subst q
    obtain ⟨cur, t, fz, h1, h2⟩ := ht
    obtain ⟨cur2, fz2, h3⟩ := f.typed e
    rw [h1] at h3
    simp only [Option.some.injEq, Obj.cells.injEq] at h3
    exact h2 h3.2.1)
  obtain ⟨t, hbox⟩ := h.bo.box
  refine ⟨n, vv, wv, vs, us, xs, ⟨h.bo.few, h.bo.base, ⟨t, by rw [hf.block g (lt_of_heap hbox) (fun e => hbs (.inl e.symm))]; exact hbox⟩, hf.own h.bo.rv (fun k e q => hbs (.inr (.inl (q ▸ e)))), hf.own h.bo.ru (fun k e q => hbs (.inr (.inr (q ▸ e)))), fun j hj => hfi (h.bo.fv j hj), fun j hj => hfi (h.bo.fu j hj), h.bo.small, h.bo.gv, h.bo.gu, h.bo.vu, h.bo.avg, h.bo.aug, h.bo.avv⟩, fun p hp => ⟨hfi (h.fi p hp).1, (h.fi p hp).2⟩, h.ap, h.av, h.pw, fun k hk => ⟨Nat.lt_of_lt_of_le (h.t k hk).1 hf.size, (h.t k hk).2⟩⟩
end Go.Proofs.YtibabgokmacnaaaGreat
end

/- gossip.Set: which blocks turn. By an AI agent. -/
section
set_option linter.unusedVariables false
set_option linter.unusedSimpArgs false
namespace Go.Proofs.YtibabgokmacnaaaGreat
open Go.RowKit

/-- with the blocks that a call has made -/
def TN (T : Nat → Prop) (w w' : World) (b : Nat) : Prop := T b ∨ w.heap.size ≤ b ∧ b < w'.heap.size
theorem RT.store {T : Nat → Prop} {B g h0 cap k : Nat} {w wz : World} {rows : List (List Int)} {row : List Int} {vs : List Value} {x : Value} (hBg : B ≤ g) (hc : C1 w g (.slice (some ⟨h0, 0, none⟩) rows.length cap))
    (hown : w.ownsRow (g + 1) 23 1 (.slice (some ⟨h0, 0, none⟩) rows.length cap) rows.length vs) (hvl : vs.length = rows.length) (hrr : ∀ i, FI (g + 1) w (nthV vs i) (nthR rows i)) (hBh : g + 1 ≤ h0)
    (hT : T g ∧ T h0 ∧ ∀ i b, (nthV vs i).ownBlock = some b → T b)
    (hbw : Bl w wz) (hf : FI w.heap.size wz x row) (hk : k < rows.length) : Fr (fun b => b = h0) w (wz.setCell ⟨h0, k, none⟩ x) ∧ RT (TN T w (wz.setCell ⟨h0, k, none⟩ x)) B (wz.setCell ⟨h0, k, none⟩ x) g h0 (rows.set k row) := by
  have hgl := hc.lt
  have hown1 := ownsRow_bl hown hbw
  have hst := World.ownsRow.stored hown1 k x
  have hrow : ∀ j, some h0 = some j → ∃ cur fz, wz.heap[j]? = some (.cells cur 23 fz) := fun j hj => by
    obtain ⟨_, c, f, h⟩ := OR.row hown1 j (by simpa [Value.ownBlock] using hj)
    exact ⟨c, f, h⟩
  have hsz : (wz.setCell ⟨h0, k, none⟩ x).heap.size = wz.heap.size := by simp
  refine ⟨((Fr.refl _ w).bl hbw).grown hst.2 (fun i e => (Option.some.inj e).symm), cap, vs.set k x, by rw [List.length_set]; exact (hc.keep hbw).grown hst.2 (by simp; omega), hBg, by rw [List.length_set]; exact hst.1, by simp [hvl], fun i => ?_, .inl hT.1, .inl hT.2.1, fun i b e => ?_⟩
  · rw [nthV_set (by omega), nthR_set hk]
    split
    · exact (hf.mono (by omega)).grown hst.2 hrow
    · exact ((hrr i).keep hbw).grown hst.2 hrow
  · rw [nthV_set (by omega)] at e
    split at e
    · have := World.ownsRow.lt hf.own b e
      exact .inr ⟨this.1, by rw [hsz]; exact this.2⟩
    · exact .inl (hT.2.2 i b e)

set_option maxHeartbeats 1600000 in
set_option maxRecDepth 100000 in
theorem gset_yes (T : Nat → Prop) (B g h n c : Nat) (ad : Option Addr) (k : Nat) (rows : List (List Int)) (xs : List Int) (w : World) (hr : RT T B w g h rows) (hn : rows.length = n) (hn8 : n ≤ 8) (hk : k < n) (hx : IA w ad n xs) (hv : validL xs = true) :
    Calls Tryz.prog 38 #[.pointer (some ⟨g, 0, none⟩), .int .i64 k, .slice ad n c] w fun e w' => e = .returned (.int .i64 0) ∧ Fr (fun b => b = h) w w' ∧ RT (TN T w w') B w' g h (rows.set k (joinL (nthR rows k) xs)) := by
  obtain ⟨cap, vs, hc, hBg, hown, hvl, hrr, hT⟩ := hr
  subst hn
  obtain ⟨h0, cap', e1, hBh, hcell, hfz⟩ := OR.cellAt hown hk
  obtain ⟨rfl, rfl⟩ : h = h0 ∧ cap = cap' := by simp at e1; exact e1
  clear e1
  obtain ⟨ai, ni, ci, hvk, hIk⟩ := (hrr k).si
  rw [hvk] at hcell
  have hkn : ((k : Nat) : Int) < (rows.length : Int) := by omega
  have HRR := Lib.hid hrr; clear hrr
  have HVK := Lib.hid hvk; clear hvk
  have HT := Lib.hid hT; clear hT
  go_enter Tryz.func38, Tryz.ntmps38
  go_wp2_with fail
  refine (none_any g _ _ _ _ hc).mono ?_
  rintro e w1 ⟨rfl, rfl⟩
  have q0 : decide (rows.length = 0) = false := decide_eq_false (by omega)
  rw [q0]
  have hcc := hc.cell
  go_wp2_with fail
  refine (valid_any ad _ c xs _ hx).mono ?_
  rintro e w1 ⟨rfl, rfl⟩
  rw [hv]
  have q1 : ((rows.length : Int) != (rows.length : Int)) = false := by simp
  have h0k : (0 : Int) ≤ (k : Int) := by omega
  go_wp2_with fail
  go_region_law (go_simp; refine (join_any ai ad ni rows.length ci c (nthR rows k) xs w.drew (hIk.keep (Bl.refl w).drew) (hx.keep (Bl.refl w).drew)).mono ?_; rintro e wz ⟨vz, rfl, hfz2, hbz⟩; obtain ⟨az, nz, cz, rfl, hIz⟩ := hfz2.si; have hbw := Bl.ofDrew hbz; have hzc := hbw.cell hcc; have hzk := hbw.cell hcell; have hzf := frozen_keep hbw hcell hfz; dsimp only)
  all_goals (
    have R := RT.store hBg hc hown hvl HRR.out hBh HT.out hbw (hfz2.mono (by show w.heap.size ≤ w.drew.heap.size; exact Nat.le_refl _)) hk
    clear HRR HVK HT hown hfz2 hIz hIk hzc hzk hzf hcc hcell hfz hc
    go_wp2_with fail
    go_ret
    exact ⟨rfl, R⟩)
theorem gset_any (T : Nat → Prop) (B g h m c : Nat) (ad : Option Addr) (i : Int) (rows : List (List Int)) (xs : List Int) (w : World) (hr : RT T B w g h rows) (h1 : 1 ≤ rows.length) (hn8 : rows.length ≤ 8) (hx : IA w ad m xs) :
    Calls Tryz.prog 38 #[.pointer (some ⟨g, 0, none⟩), .int .i64 i, .slice ad m c] w fun e w' => e = .returned (.int .i64 (setE rows i xs)) ∧ Fr (fun b => b = h) w w' ∧ RT (TN T w w') B w' g h (setR rows i xs) := by
  unfold setE setR
  by_cases hi : i < 0 ∨ (rows.length : Int) ≤ i
  · rw [if_pos hi, if_pos hi]
    refine (set_index B g m c ad i rows w hr.rg h1 hn8 hi).mono ?_
    rintro e w' ⟨rfl, rfl⟩
    exact ⟨rfl, Fr.refl _ _, hr.mono (fun _ q => .inl q) (Nat.le_refl _)⟩
  · rw [if_neg hi, if_neg hi]
    obtain ⟨k, rfl⟩ : ∃ k : Nat, i = k := ⟨i.toNat, by omega⟩
    by_cases hv : validL xs = true ∧ xs.length = rows.length
    · rw [if_pos hv, if_pos hv]
      obtain rfl : m = rows.length := by rw [← hx.len]; exact hv.2
      exact gset_yes T B g h _ c ad k rows xs w hr rfl hn8 (by omega) hx hv.1
    · rw [if_neg hv, if_neg hv]
      refine (set_arg B g m c k ad rows xs w hr.rg h1 hn8 (by omega) hx ?_).mono ?_
      · rw [← hx.len]
        cases h2 : validL xs
        · exact .inl rfl
        · exact .inr fun e => hv ⟨h2, e⟩
      · rintro e w' ⟨rfl, rfl⟩
        exact ⟨rfl, Fr.refl _ _, hr.mono (fun _ q => .inl q) (Nat.le_refl _)⟩
end Go.Proofs.YtibabgokmacnaaaGreat
end
