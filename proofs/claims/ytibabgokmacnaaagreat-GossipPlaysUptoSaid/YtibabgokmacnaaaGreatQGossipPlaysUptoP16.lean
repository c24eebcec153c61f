import Derived.Test.YtibabgokmacnaaaGreatQGossipPlaysUptoP12
import Derived.Test.YtibabgokmacnaaaGreatQGossipPlaysUptoP13
import Derived.Test.YtibabgokmacnaaaGreatQGossipPlaysUptoP15
import Derived.Test.YtibabgokmacnaaaGreatQGossipPlaysUptoP14
import Derived.Test.YtibabgokmacnaaaGreatQGossipPlaysUptoP3

/- The reference's Stable of rows. By an AI agent. -/
section
set_option linter.unusedVariables false
set_option linter.unusedSimpArgs false
namespace Go.Proofs.YtibabgokmacnaaaGreat
open Go.RowKit

theorem each_self (xs : List Int) : eachL min xs xs = xs := by
  unfold eachL
  rw [if_pos rfl]
  induction xs with
  | nil => rfl
  | cons x xs ih => rw [List.zipWith_cons_cons, ih]; congr 1; omega
/-- the reference's way of telling what all rows have -/
theorem allmin_tail (rows : List (List Int)) (h : 0 < rows.length) : allL min rows = (rows.drop 1).foldl (eachL min) (nthR rows 0) := by
  cases rows with
  | nil => simp at h
  | cons r rows =>
    show (r :: rows).foldl (eachL min) r = rows.foldl (eachL min) r
    rw [List.foldl_cons, each_self]
theorem dropTake_succ {rows : List (List Int)} {k : Nat} (h : k < rows.length) (h1 : 1 ≤ k) : (rows.take (k + 1)).drop 1 = (rows.take k).drop 1 ++ [nthR rows k] := by
  rw [take_nthR h, List.drop_append_of_le_length]
  rw [List.length_take]; omega

set_option maxHeartbeats 1600000 in
set_option maxRecDepth 100000 in
theorem rstable_any (B g : Nat) (rows : List (List Int)) (w : World) (hr : RG B w g rows) (hn8 : rows.length ≤ 8) (hk : 0 < rows.length) :
    Calls Tryz.prog 42 #[.pointer (some ⟨g, 0, none⟩)] w fun e w' => ∃ v, e = .returned v ∧ FI w.heap.size w' v (allL min rows) ∧ Bl w w' := by
  obtain ⟨v, hc, hBg, vs, hown, hvl, hrr⟩ := hr
  obtain ⟨h0, cap, rfl, hBh, hcell0, _⟩ := OR.cellAt hown hk
  have HRR := Lib.hid hrr; clear hrr
  obtain ⟨a1, n1, c1, hv1, hI1⟩ := (HRR.out 0).si
  rw [hv1] at hcell0
  have hcc := hc.cell
  go_enter Tryz.func42, Tryz.ntmps42
  go_wp2_with fail
  go_loopw [3, 4] (fun v i wr => ∃ (k : Nat) (acc : List Int) (aa : Option Addr) (na ca : Nat), 1 ≤ k ∧ k ≤ rows.length ∧ i = .int .i64 k ∧ Bl w wr ∧ v = .slice aa na ca ∧ IA wr aa na acc ∧ acc = ((rows.take k).drop 1).foldl (eachL min) (nthR rows 0)) (fun _ i _ => rows.length - (intOf i).toNat)
  case atStart => exact ⟨1, _, _, _, _, Nat.le_refl _, hk, rfl, Bl.refl _, rfl, hI1, by rw [List.drop_eq_nil_of_le (by simp; omega)]; rfl⟩
  case round =>
    clear hcell0 hv1 hI1
    obtain ⟨k, acc, aa, na, ca, hk1, hkl, rfl, hbl, rfl, hIa, hacc⟩ := hrel
    have HACC := Lib.hid hacc; clear hacc
    have hcc2 := hbl.cell hcc
    by_cases hlt : k < rows.length
    · obtain ⟨h0', cap', e1, _, hcell, _⟩ := OR.cellAt hown hlt
      obtain ⟨rfl, rfl⟩ : h0 = h0' ∧ cap = cap' := by simp at e1; exact e1
      clear e1
      obtain ⟨ai, ni, ci, hvk, hIk⟩ := (HRR.out k).si
      rw [hvk] at hcell
      have hcell := hbl.cell hcell
      have hIk := hIk.keep hbl
      clear hvk
      go_wp2_with fail
      refine (rmeet3_any aa ai na ni ca ci acc (nthR rows k) _ hIa hIk).mono ?_
      rintro e w2 ⟨v2, rfl, hf2, hb2⟩
      obtain ⟨a2, n2, c2, rfl, hI2⟩ := hf2.si
      go_wp2_with fail
      go_roundw
      case rel => exact ⟨k + 1, _, _, _, _, by omega, by omega, by go_num, hbl.trans hb2, rfl, hI2, by rw [dropTake_succ hlt hk1, List.foldl_append, ← HACC.out]; rfl⟩
      case measure => simp [intOf]; omega
    · obtain rfl : k = rows.length := by omega
      rw [List.take_length, ← allmin_tail _ hk] at HACC
      rw [HACC.out] at hIa
      go_wp2_with fail
      refine (rcopy3_any aa na ca _ _ hIa).mono ?_
      rintro e w2 ⟨v2, rfl, hf2, hb2⟩
      have hbs := hbl.size
      go_wp2_with fail
      go_ret
      exact ⟨_, rfl, hf2.mono hbs, hbl.trans hb2⟩
end Go.Proofs.YtibabgokmacnaaaGreat
end

/- bedrockref3.Join. By an AI agent. -/
section
set_option linter.unusedVariables false
set_option linter.unusedSimpArgs false
namespace Go.Proofs.YtibabgokmacnaaaGreat
open Go.RowKit

theorem eachmax_step {xs ys : List Int} (h : xs.length = ys.length) {k : Nat} (hk : k < xs.length) {x : Int} (hx : x = max (nth xs k) (nth ys k)) :
    (List.zipWith max xs ys).take (k + 1) = (List.zipWith max xs ys).take k ++ [x] := by
  rw [zip_take h hk, hx]
set_option maxHeartbeats 1600000 in
set_option maxRecDepth 100000 in
theorem rjoin3_any (a b : Option Addr) (n m ca cb : Nat) (xs ys : List Int) (w : World) (hx : IA w a n xs) (hy : IA w b m ys) :
    Calls Tryz.prog 18 #[.slice a n ca, .slice b m cb] w fun e w' => ∃ v, e = .returned v ∧ FI w.heap.size w' v (eachL max xs ys) ∧ Bl w w' := by
  have hx1 := hx.cap
  have hy1 := hy.cap
  by_cases hl : n = m
  · subst hl
    have HLL := Lib.hid (hx.len.trans hy.len.symm)
    have HX := Lib.hid hx.len
    have h2 : ((n : Int) != (n : Int)) = false := by simp
    have HZL : ∀ k, k ≤ n → ((List.zipWith max xs ys).take k).length = k := fun k hk => by
      have h1 := HLL.out; have h2 := HX.out
      simp; omega
    have HZ := Lib.hid HZL; clear HZL
    go_enter Tryz.func18, Tryz.ntmps18
    go_wp2_with fail
    go_loopw [5, 6] (fun v i wr => ∃ (k : Nat) (acc : List Int), k ≤ n ∧ i = .int .i64 k ∧ Bl w wr ∧ OI w.heap.size wr v acc ∧ acc = (List.zipWith max xs ys).take k) (fun _ i _ => n - (intOf i).toNat)
    case atStart => exact ⟨0, [], Nat.zero_le _, rfl, Bl.refl _, OI.nil _ _, rfl⟩
    case round =>
      obtain ⟨k, acc, hk, rfl, hbl, hown, hacc⟩ := hrel
      have hal : acc.length = k := by rw [hacc, HZ.out k hk]
      have HACC := Lib.hid hacc; clear hacc
      have HO := Lib.hid hown
      have HB := Lib.hid hbl
      by_cases hlt : k < n
      · obtain ⟨ba, oa, rfl, hca⟩ := hx.cells k hlt
        obtain ⟨bb, ob, rfl, hcb⟩ := hy.cells k hlt
        have ha := fun W (h : Bl wr W) => h.cell (hbl.cell (hca k hlt))
        have hb := fun W (h : Bl wr W) => h.cell (hbl.cell (hcb k hlt))
        have HA := Lib.hid ha
        have HBB := Lib.hid hb
        clear hca hcb ha hb hown hbl
        have hsz2 := HB.out.size
        have hlt2 : k < xs.length := by rw [HX.out]; exact hlt
        by_cases hgt : nth ys k < nth xs k
        · have HS := Lib.hid (eachmax_step (ys := ys) HLL.out hlt2 (x := nth xs k) (by omega))
          have ha2 := fun j => HA.out (wr.drewN j) ((Bl.refl wr).drewN j)
          have hb2 := fun j => HBB.out (wr.drewN j) ((Bl.refl wr).drewN j)
          have ha3 := fun j o => HA.out ((wr.drewN j).alloc o) (((Bl.refl wr).drewN j).alloc o)
          have ha0 := HA.out wr (Bl.refl wr)
          have hb0 := HBB.out wr (Bl.refl wr)
          go_wp2
          go_quiet (fail)
          go_wp2_with (at_builtin; refine wpList_appG rfl _ _ _ rfl el_vc w.heap.size _ acc.length _ rfl (ownsRow_bl HO.out (((Bl.refl wr).drewN _).alloc _)) ?c1 _ 1 1 [.int .i64 (nth xs k)] rfl (SG.lit (heap_alloc_new _ _) rfl (by simp [Value.oneCell'])) ?c2 ?c3 ?_)
          case c1 => simp; omega
          case c2 => unfold maxLen; omega
          case c3 => omega
          intro v' w2 ho2 hg2
          have hb2 := Lib.hid (Bl.ownRow ((HB.out.drewN _).alloc (.cells #[.int .i64 (nth xs k)] 3)) (ownsRow_bl HO.out (((Bl.refl wr).drewN _).alloc _)) (Nat.le_refl _) hg2)
          have HO2 : Hid (OI w.heap.size w2 v' (acc ++ [nth xs k])) := Lib.hid (by
            unfold OI
            rw [List.length_append, List.map_append, hal]
            exact ho2)
          clear ho2 hg2
          go_wp2_with fail
          go_roundw
          case rel => exact ⟨k + 1, acc ++ [nth xs k], by omega, by go_num, hb2.out, HO2.out, by rw [HS.out, HACC.out]⟩
          case measure => simp [intOf]; omega
        · have HS := Lib.hid (eachmax_step (ys := ys) HLL.out hlt2 (x := nth ys k) (by omega))
          have ha2 := fun j => HA.out (wr.drewN j) ((Bl.refl wr).drewN j)
          have hb2 := fun j => HBB.out (wr.drewN j) ((Bl.refl wr).drewN j)
          have ha3 := fun j o => HA.out ((wr.drewN j).alloc o) (((Bl.refl wr).drewN j).alloc o)
          have ha0 := HA.out wr (Bl.refl wr)
          have hb0 := HBB.out wr (Bl.refl wr)
          go_wp2
          go_quiet (fail)
          go_wp2_with (at_builtin; refine wpList_appG rfl _ _ _ rfl el_vc w.heap.size _ acc.length _ rfl (ownsRow_bl HO.out (((Bl.refl wr).drewN _).alloc _)) ?c1 _ 1 1 [.int .i64 (nth ys k)] rfl (SG.lit (heap_alloc_new _ _) rfl (by simp [Value.oneCell'])) ?c2 ?c3 ?_)
          case c1 => simp; omega
          case c2 => unfold maxLen; omega
          case c3 => omega
          intro v' w2 ho2 hg2
          have hb2 := Lib.hid (Bl.ownRow ((HB.out.drewN _).alloc (.cells #[.int .i64 (nth ys k)] 3)) (ownsRow_bl HO.out (((Bl.refl wr).drewN _).alloc _)) (Nat.le_refl _) hg2)
          have HO2 : Hid (OI w.heap.size w2 v' (acc ++ [nth ys k])) := Lib.hid (by
            unfold OI
            rw [List.length_append, List.map_append, hal]
            exact ho2)
          clear ho2 hg2
          go_wp2_with fail
          go_roundw
          case rel => exact ⟨k + 1, acc ++ [nth ys k], by omega, by go_num, hb2.out, HO2.out, by rw [HS.out, HACC.out]⟩
          case measure => simp [intOf]; omega
      · go_wp2_with fail
        go_ret
        have e1 : k = n := by omega
        subst e1
        refine ⟨_, rfl, ?_, hbl⟩
        have e2 : (List.zipWith max xs ys).take k = eachL max xs ys := by
          rw [eachL, if_pos HLL.out, List.take_of_length_le]
          have h1 := HLL.out; have h2 := HX.out
          simp; omega
        rw [HACC.out, e2] at hown
        refine ⟨hown, ?_, ?_⟩
        · rw [eachL, if_pos HLL.out]
          have h1 := HLL.out; have h2 := HX.out
          simp; omega
        · rw [eachL, if_pos HLL.out]
          exact zip_wf (fun x y => by omega) hx.wf hy.wf
  · have h2 : ((n : Int) != (m : Int)) = true := by simp; omega
    go_enter Tryz.func18, Tryz.ntmps18
    go_wp2_with fail
    go_ret
    refine ⟨_, rfl, ?_, Bl.refl _⟩
    rw [eachL, if_neg (by rw [hx.len, hy.len]; exact hl)]
    exact FI.nil _ _
end Go.Proofs.YtibabgokmacnaaaGreat
end
