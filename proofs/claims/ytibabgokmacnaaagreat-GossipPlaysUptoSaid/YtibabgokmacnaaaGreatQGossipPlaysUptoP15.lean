import Derived.Test.YtibabgokmacnaaaGreatQGossipPlaysUptoP14
import Derived.Test.YtibabgokmacnaaaGreatQGossipPlaysUptoP3

/- bedrockref3.Copy. By an AI agent. -/
section
set_option linter.unusedVariables false
set_option linter.unusedSimpArgs false
namespace Go.Proofs.YtibabgokmacnaaaGreat
open Go.RowKit

set_option maxRecDepth 100000 in
theorem rcopy3_any (a : Option Addr) (n ca : Nat) (xs : List Int) (w : World) (hx : IA w a n xs) :
    Calls Tryz.prog 69 #[.slice a n ca] w fun e w' => ∃ v, e = .returned v ∧ FI w.heap.size w' v xs ∧ Bl w w' := by
  have HX := Lib.hid hx
  have hcap := hx.cap
  have HS := Lib.hid (sg_ints hx)
  clear hx
  go_enter Tryz.func69, Tryz.ntmps69
  go_wp2_with (at_builtin; refine wpList_appG rfl _ _ _ rfl el_vc w.heap.size _ 0 [] rfl (World.ownsRow_nil _ _ _ _) (Nat.le_refl _) _ _ _ _ rfl HS.out ?c1 ?c2 ?_)
  case c1 => unfold maxLen; omega
  case c2 => omega
  intro v1 w1 ho1 hg1
  have HB := Lib.hid ((Bl.refl w).ownRow (World.ownsRow_nil w w.heap.size 3 1) (Nat.le_refl _) hg1)
  have HO : Hid (FI w.heap.size w1 v1 xs) := Lib.hid ⟨by
    have hl := HX.out.len
    unfold OI
    rw [hl]
    exact ho1, by have hl := HX.out.len; omega, HX.out.wf⟩
  clear ho1 hg1
  go_wp2_with fail
  go_ret
  exact ⟨_, rfl, HO.out, HB.out⟩
end Go.Proofs.YtibabgokmacnaaaGreat
end

/- bedrockref3.Meet. By an AI agent. -/
section
set_option linter.unusedVariables false
set_option linter.unusedSimpArgs false
namespace Go.Proofs.YtibabgokmacnaaaGreat
open Go.RowKit

theorem eachmin_step {xs ys : List Int} (h : xs.length = ys.length) {k : Nat} (hk : k < xs.length) {x : Int} (hx : x = min (nth xs k) (nth ys k)) :
    (List.zipWith min xs ys).take (k + 1) = (List.zipWith min xs ys).take k ++ [x] := by
  rw [zip_take h hk, hx]
set_option maxHeartbeats 1600000 in
set_option maxRecDepth 100000 in
theorem rmeet3_any (a b : Option Addr) (n m ca cb : Nat) (xs ys : List Int) (w : World) (hx : IA w a n xs) (hy : IA w b m ys) :
    Calls Tryz.prog 19 #[.slice a n ca, .slice b m cb] w fun e w' => ∃ v, e = .returned v ∧ FI w.heap.size w' v (eachL min xs ys) ∧ Bl w w' := by
  have hx1 := hx.cap
  have hy1 := hy.cap
  by_cases hl : n = m
  · subst hl
    have HLL := Lib.hid (hx.len.trans hy.len.symm)
    have HX := Lib.hid hx.len
    have h2 : ((n : Int) != (n : Int)) = false := by simp
    have HZL : ∀ k, k ≤ n → ((List.zipWith min xs ys).take k).length = k := fun k hk => by
      have h1 := HLL.out; have h2 := HX.out
      simp; omega
    have HZ := Lib.hid HZL; clear HZL
    go_enter Tryz.func19, Tryz.ntmps19
    go_wp2_with fail
    go_loopw [5, 6] (fun v i wr => ∃ (k : Nat) (acc : List Int), k ≤ n ∧ i = .int .i64 k ∧ Bl w wr ∧ OI w.heap.size wr v acc ∧ acc = (List.zipWith min xs ys).take k) (fun _ i _ => n - (intOf i).toNat)
    case atStart => exact ⟨0, [], Nat.zero_le _, rfl, Bl.refl _, OI.nil _ _, rfl⟩
    case round =>
      obtain ⟨k, acc, hk, rfl, hbl, hown, hacc⟩ := hrel
      have hal : acc.length = k := by rw [hacc, HZ.out k hk]
      have HACC := Lib.hid hacc; clear hacc
      have HO := Lib.hid hown
      have HB := Lib.hid hbl
      by_cases hlt : k < n
      · obtain ⟨ba, oa, rfl, hca⟩ := hx.cells k hlt
        obtain ⟨bb, ob, rfl, hcb⟩ := hy.cells k hlt
        have ha := fun W (h : Bl wr W) => h.cell (hbl.cell (hca k hlt))
        have hb := fun W (h : Bl wr W) => h.cell (hbl.cell (hcb k hlt))
        have HA := Lib.hid ha
        have HBB := Lib.hid hb
        clear hca hcb ha hb hown hbl
        have hsz2 := HB.out.size
        have hlt2 : k < xs.length := by rw [HX.out]; exact hlt
        by_cases hgt : nth xs k < nth ys k
        · have HS := Lib.hid (eachmin_step (ys := ys) HLL.out hlt2 (x := nth xs k) (by omega))
          have ha2 := fun j => HA.out (wr.drewN j) ((Bl.refl wr).drewN j)
          have hb2 := fun j => HBB.out (wr.drewN j) ((Bl.refl wr).drewN j)
          have ha3 := fun j o => HA.out ((wr.drewN j).alloc o) (((Bl.refl wr).drewN j).alloc o)
          have ha0 := HA.out wr (Bl.refl wr)
          have hb0 := HBB.out wr (Bl.refl wr)
          go_wp2
          go_quiet (fail)
          go_wp2_with (at_builtin; refine wpList_appG rfl _ _ _ rfl el_vc w.heap.size _ acc.length _ rfl (ownsRow_bl HO.out (((Bl.refl wr).drewN _).alloc _)) ?c1 _ 1 1 [.int .i64 (nth xs k)] rfl (SG.lit (heap_alloc_new _ _) rfl (by simp [Value.oneCell'])) ?c2 ?c3 ?_)
          case c1 => simp; omega
          case c2 => unfold maxLen; omega
          case c3 => omega
          intro v' w2 ho2 hg2
          have hb2 := Lib.hid (Bl.ownRow ((HB.out.drewN _).alloc (.cells #[.int .i64 (nth xs k)] 3)) (ownsRow_bl HO.out (((Bl.refl wr).drewN _).alloc _)) (Nat.le_refl _) hg2)
          have HO2 : Hid (OI w.heap.size w2 v' (acc ++ [nth xs k])) := Lib.hid (by
            unfold OI
            rw [List.length_append, List.map_append, hal]
            exact ho2)
          clear ho2 hg2
          go_wp2_with fail
          go_roundw
          case rel => exact ⟨k + 1, acc ++ [nth xs k], by omega, by go_num, hb2.out, HO2.out, by rw [HS.out, HACC.out]⟩
          case measure => simp [intOf]; omega
        · have HS := Lib.hid (eachmin_step (ys := ys) HLL.out hlt2 (x := nth ys k) (by omega))
          have ha2 := fun j => HA.out (wr.drewN j) ((Bl.refl wr).drewN j)
          have hb2 := fun j => HBB.out (wr.drewN j) ((Bl.refl wr).drewN j)
          have ha3 := fun j o => HA.out ((wr.drewN j).alloc o) (((Bl.refl wr).drewN j).alloc o)
          have ha0 := HA.out wr (Bl.refl wr)
          have hb0 := HBB.out wr (Bl.refl wr)
          go_wp2
          go_quiet (fail)
          go_wp2_with (at_builtin; refine wpList_appG rfl _ _ _ rfl el_vc w.heap.size _ acc.length _ rfl (ownsRow_bl HO.out (((Bl.refl wr).drewN _).alloc _)) ?c1 _ 1 1 [.int .i64 (nth ys k)] rfl (SG.lit (heap_alloc_new _ _) rfl (by simp [Value.oneCell'])) ?c2 ?c3 ?_)
          case c1 => simp; omega
          case c2 => unfold maxLen; omega
          case c3 => omega
          intro v' w2 ho2 hg2
          have hb2 := Lib.hid (Bl.ownRow ((HB.out.drewN _).alloc (.cells #[.int .i64 (nth ys k)] 3)) (ownsRow_bl HO.out (((Bl.refl wr).drewN _).alloc _)) (Nat.le_refl _) hg2)
          have HO2 : Hid (OI w.heap.size w2 v' (acc ++ [nth ys k])) := Lib.hid (by
            unfold OI
            rw [List.length_append, List.map_append, hal]
            exact ho2)
          clear ho2 hg2
          go_wp2_with fail
          go_roundw
          case rel => exact ⟨k + 1, acc ++ [nth ys k], by omega, by go_num, hb2.out, HO2.out, by rw [HS.out, HACC.out]⟩
          case measure => simp [intOf]; omega
      · go_wp2_with fail
        go_ret
        have e1 : k = n := by omega
        subst e1
        refine ⟨_, rfl, ?_, hbl⟩
        have e2 : (List.zipWith min xs ys).take k = eachL min xs ys := by
          rw [eachL, if_pos HLL.out, List.take_of_length_le]
          have h1 := HLL.out; have h2 := HX.out
          simp; omega
        rw [HACC.out, e2] at hown
        refine ⟨hown, ?_, ?_⟩
        · rw [eachL, if_pos HLL.out]
          have h1 := HLL.out; have h2 := HX.out
          simp; omega
        · rw [eachL, if_pos HLL.out]
          exact zip_wf (fun x y => by omega) hx.wf hy.wf
  · have h2 : ((n : Int) != (m : Int)) = true := by simp; omega
    go_enter Tryz.func19, Tryz.ntmps19
    go_wp2_with fail
    go_ret
    refine ⟨_, rfl, ?_, Bl.refl _⟩
    rw [eachL, if_neg (by rw [hx.len, hy.len]; exact hl)]
    exact FI.nil _ _
end Go.Proofs.YtibabgokmacnaaaGreat
end
