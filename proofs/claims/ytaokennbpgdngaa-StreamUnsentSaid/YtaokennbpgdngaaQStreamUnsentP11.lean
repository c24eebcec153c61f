import Derived.Test.YtaokennbpgdngaaQStreamUnsentP10
import Derived.Test.YtaokennbpgdngaaCore3
import Derived.Test.YtaokennbpgdngaaQStreamUnsentP7
import Derived.Test.YtaokennbpgdngaaCore24

/- bedrocklaw22.light: are transactions few and short enough? By an AI agent. -/
section
set_option linter.unusedVariables false
set_option linter.unusedSimpArgs false
namespace Go.Proofs.Ytaokennbpgdngaa
open Go.RowKit
attribute [local go_sem] eOp eOper eUpon

def smallT (t : TxnL) : Bool := lightB t.ws && (decide (t.at_.length + t.deps.length ≤ 40) && decide (t.ws.length ≤ 30))
def lightT (ts : List TxnL) : Bool := (List.range ts.length).all (fun i => smallT (nthT ts i)) && decide (ts.length ≤ 30)
theorem lightT_no {ts : List TxnL} {k : Nat} (hk : k < ts.length) (h : smallT (nthT ts k) = false) : lightT ts = false := by
  unfold lightT
  rw [Bool.and_eq_false_iff]
  left
  rw [List.all_eq_false]
  exact ⟨k, List.mem_range.2 hk, by rw [h]; simp⟩
theorem lightT_end {ts : List TxnL} (h : ∀ j, j < ts.length → smallT (nthT ts j) = true) : lightT ts = decide (ts.length ≤ 30) := by
  unfold lightT
  rw [List.all_eq_true.2 (fun j hj => h j (List.mem_range.1 hj)), Bool.true_and]
theorem lightT_parts {ts : List TxnL} (h : lightT ts = true) : ts.length ≤ 30 ∧ ∀ j, j < ts.length → smallT (nthT ts j) = true := by
  simp only [lightT, Bool.and_eq_true, decide_eq_true_eq, List.all_eq_true, List.mem_range] at h
  exact ⟨h.2, h.1⟩
set_option maxHeartbeats 6400000 in
set_option maxRecDepth 100000 in
theorem light22_any (ta : Option Addr) (tn tc : Nat) (ts : List TxnL) (f : Nat → TxAt) (w : World) (hp : TS w ta tn ts f) :
    Calls Try.prog 9 #[.slice ta tn tc] w fun e w' => e = .returned (.bool (lightT ts)) ∧ Bl w w' := by
  have hcap := hp.cap
  have HP := Lib.hid hp
  have HL := Lib.hid hp.len
  clear hp
  go_enter Try.func9, Try.ntmps9
  go_wp2_with fail
  go_loopw [3] (fun i wr => ∃ k : Nat, k ≤ tn ∧ i = .int .i64 k ∧ Bl w wr ∧ ∀ j, j < k → smallT (nthT ts j) = true) (fun i _ => tn - (intOf i).toNat)
  case atStart => exact ⟨0, Nat.zero_le _, rfl, Bl.refl _, fun j hj => absurd hj (Nat.not_lt_zero _)⟩
  case round =>
    obtain ⟨k, hk, rfl, hbl, hok⟩ := hrel
    have HBL := Lib.hid hbl
    have HOK := Lib.hid hok
    clear hbl hok
    by_cases hlt : k < tn
    · have hkl : k < ts.length := by rw [HL.out]; exact hlt
      obtain ⟨ba, oa, rfl, _⟩ := HP.out.cells k hlt
      have HTX := Lib.hid ((HP.out.tx k hlt).keep (HBL.out.drew))
      have HTC := Lib.hid (HP.out.get (HBL.out.drew) hlt)
      have HSM : Hid (smallT (nthT ts k) = (lightB (nthT ts k).ws && (decide ((nthT ts k).at_.length + (nthT ts k).deps.length ≤ 40) && decide ((nthT ts k).ws.length ≤ 30)))) := Lib.hid rfl
      have HNO := Lib.hid (fun h => lightT_no hkl h)
      have HYES : Hid (smallT (nthT ts k) = true → ∀ j, j < k + 1 → smallT (nthT ts j) = true) := Lib.hid (fun h j hj => by
        rcases Nat.lt_or_ge j k with h' | h'
        · exact HOK.out j h'
        · obtain rfl : j = k := by omega
          exact h)
      clear hkl
      generalize smallT (nthT ts k) = sk at *
      generalize nthT ts k = t at *
      generalize f k = s at *
      obtain ⟨o, num, prev, ds, xs, ws⟩ := t
      obtain ⟨da, dn, dc, aa, an, ac, wa, wn, wc⟩ := s
      have hdl := HTX.out.deps.len
      have hal := HTX.out.at_.len
      have hwl := HTX.out.ws.len
      have hdc := HTX.out.deps.cap
      have hac := HTX.out.at_.cap
      have hwc := HTX.out.ws.cap
      dsimp only at HSM hdl hal hwl hdc hac hwc
      have hwr : IntKind.i64.wrap ((an : Int) + (dn : Int)) = ((an + dn : Nat) : Int) := by rw [IntKind.wrap_i64]; omega
      go_upto_region 4 with fail
      have HBZ := Lib.hid (HBL.out.drew)

      have HLT := Lib.hid (fun q : Ext wr.drew => light21_any wa wn wc ws q.at (HTX.out.ws.keep q.bl))
      have e3 : ∀ q : Ext wr.drew, _ := fun q => (HTC.out.keep q.bl).c3
      have e4 : ∀ q : Ext wr.drew, _ := fun q => (HTC.out.keep q.bl).c4
      have e5 : ∀ q : Ext wr.drew, _ := fun q => (HTC.out.keep q.bl).c5
      dsimp only at e3 e4 e5
      have hadl : xs.length + ds.length = an + dn := by omega
      generalize an + dn = ad at *
      cases hlb : lightB ws
      case false =>
        have HF : Hid (lightT ts = false) := Lib.hid (HNO.out (by rw [HSM.out, hlb]; rfl))
        rw [hlb] at HLT
        clear hlb
        refine wp_region_allS (by kernel_rfl) (by kernel_rfl) ?_
        repeat (refine wpS_step (fun K hK => ?_); go_simp; first | (refine hK _ ?_; clear hK K) | (apply Exists.intro; refine ⟨fun q => ?_, hK _ ?_⟩; (with_reducible exact HLT.out q); clear hK K))
        refine wpS_nil ?_
        intro q1
        have HBN := Lib.hid (HBZ.out.trans q1.bl)
        clear e3 e4 e5
        generalize ExtC.at q1 = Y at *
        go_wp2_with fail
        go_ret
        exact ⟨ret_bool HF.out.symm, HBN.out⟩
      by_cases h40 : ad ≤ 40
      case neg =>
        have HF : Hid (lightT ts = false) := Lib.hid (HNO.out (by rw [HSM.out, hlb, decide_eq_false (by omega)]; rfl))
        rw [hlb] at HLT
        clear hlb
        have d1 : decide ((40 : Int) < (ad : Int)) = true := decide_eq_true (by omega)
        have d2 : decide (40 < ad) = true := decide_eq_true (by omega)
        refine wp_region_allS (by kernel_rfl) (by kernel_rfl) ?_
        repeat (refine wpS_step (fun K hK => ?_); go_simp; first | (refine hK _ ?_; clear hK K) | (apply Exists.intro; refine ⟨fun q => ?_, hK _ ?_⟩; (with_reducible exact HLT.out q); clear hK K))
        refine wpS_nil ?_
        intro q1
        have HBN := Lib.hid (HBZ.out.trans q1.bl)
        clear e3 e4 e5
        generalize ExtC.at q1 = Y at *
        go_wp2_with fail
        go_ret
        exact ⟨ret_bool HF.out.symm, HBN.out⟩
      have d1 : decide ((40 : Int) < (ad : Int)) = false := decide_eq_false (by omega)
      have d2 : decide (40 < ad) = false := decide_eq_false (by omega)
      by_cases h30 : wn ≤ 30
      case neg =>
        have HF : Hid (lightT ts = false) := Lib.hid (HNO.out (by rw [HSM.out, hwl, decide_eq_false h30, Bool.and_false, Bool.and_false]))
        rw [hlb] at HLT
        clear hlb
        have d3 : decide ((30 : Int) < (wn : Int)) = true := decide_eq_true (by omega)
        have d4 : decide (30 < wn) = true := decide_eq_true (by omega)
        refine wp_region_allS (by kernel_rfl) (by kernel_rfl) ?_
        repeat (refine wpS_step (fun K hK => ?_); go_simp; first | (refine hK _ ?_; clear hK K) | (apply Exists.intro; refine ⟨fun q => ?_, hK _ ?_⟩; (with_reducible exact HLT.out q); clear hK K))
        refine wpS_nil ?_
        intro q1
        have HBN := Lib.hid (HBZ.out.trans q1.bl)
        clear e3 e4 e5
        generalize ExtC.at q1 = Y at *
        go_wp2_with fail
        go_ret
        exact ⟨ret_bool HF.out.symm, HBN.out⟩
      have d3 : decide ((30 : Int) < (wn : Int)) = false := decide_eq_false (by omega)
      have d4 : decide (30 < wn) = false := decide_eq_false (by omega)
      have HY := Lib.hid (HYES.out (by rw [HSM.out, hlb, decide_eq_true (by omega), hwl, decide_eq_true h30]; rfl))
      rw [hlb] at HLT
      clear hlb
      refine wp_region_allS (by kernel_rfl) (by kernel_rfl) ?_
      repeat (refine wpS_step (fun K hK => ?_); go_simp; first | (refine hK _ ?_; clear hK K) | (apply Exists.intro; refine ⟨fun q => ?_, hK _ ?_⟩; (with_reducible exact HLT.out q); clear hK K))
      refine wpS_nil ?_
      intro q1
      have HBN := Lib.hid (HBZ.out.trans q1.bl)
      clear e3 e4 e5
      generalize ExtC.at q1 = Y at *
      go_wp2_with fail
      go_roundw
      case rel => exact ⟨k + 1, by omega, by go_num, HBN.out, HY.out⟩
      case measure => simp [intOf]; omega
    · have hkp : k = tn := by omega
      subst hkp
      have HF : Hid (lightT ts = decide ((k : Int) ≤ 30)) := Lib.hid (by
        rw [lightT_end (fun j hj => HOK.out j (by rw [← HL.out]; exact hj)), HL.out, decide_eq_decide]
        omega)
      go_wp2_with fail
      go_ret
      exact ⟨ret_bool (by rw [HF.out]), HBL.out⟩
end Go.Proofs.Ytaokennbpgdngaa
end

/- bedrockref3.Join. By an AI agent. -/
section
set_option linter.unusedVariables false
set_option linter.unusedSimpArgs false
namespace Go.Proofs.Ytaokennbpgdngaa
open Go.RowKit

theorem eachmax_step {xs ys : List Int} (h : xs.length = ys.length) {k : Nat} (hk : k < xs.length) {x : Int} (hx : x = max (nth xs k) (nth ys k)) :
    (List.zipWith max xs ys).take (k + 1) = (List.zipWith max xs ys).take k ++ [x] := by
  rw [zip_take h hk, hx]
set_option maxHeartbeats 1600000 in
set_option maxRecDepth 100000 in
theorem rjoin3_any (a b : Option Addr) (n m ca cb : Nat) (xs ys : List Int) (w : World) (hx : IA w a n xs) (hy : IA w b m ys) :
    Calls Try.prog 14 #[.slice a n ca, .slice b m cb] w fun e w' => ∃ v, e = .returned v ∧ FI w.heap.size w' v (eachL max xs ys) ∧ Bl w w' := by
  have hx1 := hx.cap
  have hy1 := hy.cap
  by_cases hl : n = m
  · subst hl
    have HLL := Lib.hid (hx.len.trans hy.len.symm)
    have HX := Lib.hid hx.len
    have h2 : ((n : Int) != (n : Int)) = false := by simp
    have HZL : ∀ k, k ≤ n → ((List.zipWith max xs ys).take k).length = k := fun k hk => by
      have h1 := HLL.out; have h2 := HX.out
      simp; omega
    have HZ := Lib.hid HZL; clear HZL
    go_enter Try.func14, Try.ntmps14
    go_wp2_with fail
    go_loopw [5, 6] (fun v i wr => ∃ (k : Nat) (acc : List Int), k ≤ n ∧ i = .int .i64 k ∧ Bl w wr ∧ OI w.heap.size wr v acc ∧ acc = (List.zipWith max xs ys).take k) (fun _ i _ => n - (intOf i).toNat)
    case atStart => exact ⟨0, [], Nat.zero_le _, rfl, Bl.refl _, OI.nil _ _, rfl⟩
    case round =>
      obtain ⟨k, acc, hk, rfl, hbl, hown, hacc⟩ := hrel
      have hal : acc.length = k := by rw [hacc, HZ.out k hk]
      have HACC := Lib.hid hacc; clear hacc
      have HO := Lib.hid hown
      have HB := Lib.hid hbl
      by_cases hlt : k < n
      · obtain ⟨ba, oa, rfl, hca⟩ := hx.cells k hlt
        obtain ⟨bb, ob, rfl, hcb⟩ := hy.cells k hlt
        have ha := fun W (h : Bl wr W) => h.cell (hbl.cell (hca k hlt))
        have hb := fun W (h : Bl wr W) => h.cell (hbl.cell (hcb k hlt))
        have HA := Lib.hid ha
        have HBB := Lib.hid hb
        clear hca hcb ha hb hown hbl
        have hsz2 := HB.out.size
        have hlt2 : k < xs.length := by rw [HX.out]; exact hlt
        by_cases hgt : nth ys k < nth xs k
        · have HS := Lib.hid (eachmax_step (ys := ys) HLL.out hlt2 (x := nth xs k) (by omega))
          have ha2 := fun j => HA.out (wr.drewN j) ((Bl.refl wr).drewN j)
          have hb2 := fun j => HBB.out (wr.drewN j) ((Bl.refl wr).drewN j)
          have ha3 := fun j o => HA.out ((wr.drewN j).alloc o) (((Bl.refl wr).drewN j).alloc o)
          have ha0 := HA.out wr (Bl.refl wr)
          have hb0 := HBB.out wr (Bl.refl wr)
          go_wp2
          go_quiet (fail)
          go_wp2_with (at_builtin; refine wpList_appG rfl _ _ _ rfl el_vc w.heap.size _ acc.length _ rfl (ownsRow_bl HO.out (((Bl.refl wr).drewN _).alloc _)) ?c1 _ 1 1 [.int .i64 (nth xs k)] rfl (SG.lit (heap_alloc_new _ _) rfl (by simp [Value.oneCell'])) ?c2 ?c3 ?_)
          case c1 => simp; omega
          case c2 => unfold maxLen; omega
          case c3 => omega
          intro v' w2 ho2 hg2
          have hb2 := Lib.hid (Bl.ownRow ((HB.out.drewN _).alloc (.cells #[.int .i64 (nth xs k)] 3)) (ownsRow_bl HO.out (((Bl.refl wr).drewN _).alloc _)) (Nat.le_refl _) hg2)
          have HO2 : Hid (OI w.heap.size w2 v' (acc ++ [nth xs k])) := Lib.hid (by
            unfold OI
            rw [List.length_append, List.map_append, hal]
            exact ho2)
          clear ho2 hg2
          go_wp2_with fail
          go_roundw
          case rel => exact ⟨k + 1, acc ++ [nth xs k], by omega, by go_num, hb2.out, HO2.out, by rw [HS.out, HACC.out]⟩
          case measure => simp [intOf]; omega
        · have HS := Lib.hid (eachmax_step (ys := ys) HLL.out hlt2 (x := nth ys k) (by omega))
          have ha2 := fun j => HA.out (wr.drewN j) ((Bl.refl wr).drewN j)
          have hb2 := fun j => HBB.out (wr.drewN j) ((Bl.refl wr).drewN j)
          have ha3 := fun j o => HA.out ((wr.drewN j).alloc o) (((Bl.refl wr).drewN j).alloc o)
          have ha0 := HA.out wr (Bl.refl wr)
          have hb0 := HBB.out wr (Bl.refl wr)
          go_wp2
          go_quiet (fail)
          go_wp2_with (at_builtin; refine wpList_appG rfl _ _ _ rfl el_vc w.heap.size _ acc.length _ rfl (ownsRow_bl HO.out (((Bl.refl wr).drewN _).alloc _)) ?c1 _ 1 1 [.int .i64 (nth ys k)] rfl (SG.lit (heap_alloc_new _ _) rfl (by simp [Value.oneCell'])) ?c2 ?c3 ?_)
          case c1 => simp; omega
          case c2 => unfold maxLen; omega
          case c3 => omega
          intro v' w2 ho2 hg2
          have hb2 := Lib.hid (Bl.ownRow ((HB.out.drewN _).alloc (.cells #[.int .i64 (nth ys k)] 3)) (ownsRow_bl HO.out (((Bl.refl wr).drewN _).alloc _)) (Nat.le_refl _) hg2)
          have HO2 : Hid (OI w.heap.size w2 v' (acc ++ [nth ys k])) := Lib.hid (by
            unfold OI
            rw [List.length_append, List.map_append, hal]
            exact ho2)
          clear ho2 hg2
          go_wp2_with fail
          go_roundw
          case rel => exact ⟨k + 1, acc ++ [nth ys k], by omega, by go_num, hb2.out, HO2.out, by rw [HS.out, HACC.out]⟩
          case measure => simp [intOf]; omega
      · go_wp2_with fail
        go_ret
        have e1 : k = n := by omega
        subst e1
        refine ⟨_, rfl, ?_, hbl⟩
        have e2 : (List.zipWith max xs ys).take k = eachL max xs ys := by
          rw [eachL, if_pos HLL.out, List.take_of_length_le]
          have h1 := HLL.out; have h2 := HX.out
          simp; omega
        rw [HACC.out, e2] at hown
        refine ⟨hown, ?_, ?_⟩
        · rw [eachL, if_pos HLL.out]
          have h1 := HLL.out; have h2 := HX.out
          simp; omega
        · rw [eachL, if_pos HLL.out]
          exact zip_wf (fun x y => by omega) hx.wf hy.wf
  · have h2 : ((n : Int) != (m : Int)) = true := by simp; omega
    go_enter Try.func14, Try.ntmps14
    go_wp2_with fail
    go_ret
    refine ⟨_, rfl, ?_, Bl.refl _⟩
    rw [eachL, if_neg (by rw [hx.len, hy.len]; exact hl)]
    exact FI.nil _ _
end Go.Proofs.Ytaokennbpgdngaa
end
