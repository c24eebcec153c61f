/- bedrocklaw6.OpShuffled. By an AI agent. -/
import Derived.Test.YtgdlcoicejgdkaaDoorShuf1
import Derived.Test.YtgdlcoicejgdkaaDoorVer7
import Derived.StillTailTactics
import Derived.Deep.DeepCutAuto
namespace Go.Proofs.YtgdlcoicejgdkaaDoor
open Go.RowKit
attribute [local go_sem] eOp eOper eUpon

/-- the versions ahead of i are apart from each other -/
def ApartTo (vs : List VerL) (i : Nat) : Prop := ∀ j, j < i → ∀ q, q < j → Apart (nthR vs q) (nthR vs j)
def ApartOf (vs : List VerL) (i k : Nat) : Prop := ∀ q, q < k → Apart (nthR vs q) (nthR vs i)
theorem apart_next {vs : List VerL} {i : Nat} (h : ApartTo vs i) (k : ApartOf vs i i) : ApartTo vs (i + 1) := by
  intro j hj q hq
  by_cases hji : j < i
  · exact h j hji q hq
  · obtain rfl : j = i := by omega
    exact k q hq
theorem apart_of_next {vs : List VerL} {i k : Nat} (h : ApartOf vs i k) (h2 : Apart (nthR vs k) (nthR vs i)) : ApartOf vs i (k + 1) := by
  intro q hq
  by_cases hqk : q < k
  · exact h q hqk
  · obtain rfl : q = k := by omega
    exact h2
theorem apart_all {vs : List VerL} (h : ApartTo vs vs.length) : vs.Pairwise Apart := by
  rw [List.pairwise_iff_getElem]
  intro i j hi hj hij
  have := h j hj i hij
  rwa [nthR_eq hi, nthR_eq hj] at this

theorem valueL_ok {key : ByteArray} {vs : List VerL} (h : ∀ v ∈ vs, v.act.Ok) : (valueL key vs).Ok := by
  unfold valueL
  split
  · cases hl : lastL key vs with
    | none => exact noVal_ok
    | some u => exact after_ok noVal_ok (h u (last_mem hl))
  · exact outL_ok h
set_option linter.unusedSimpArgs false in
set_option maxHeartbeats 6400000 in
set_option maxRecDepth 100000 in
theorem shuffled_any (key : ByteArray) (a : Option Addr) (n ca : Nat) (vs : List VerL) (by_ : Int) (w : World) (hkey : key.size ≤ 140737488351232) (hv : VA w a n vs) (hca : n ≤ ca) (_hby : -9223372036854775808 ≤ by_ ∧ by_ ≤ 9223372036854775807) (hT : Tab w) :
    Calls Tryd.prog 4 #[.string key, .slice a n ca, .int .i64 by_] w fun e w' => e = .returned (.bool true) ∧ Bl w w' := by
  have hsf := store_float
  have HL := Lib.hid hv.len
  by_cases hn60 : n ≤ 60
  · have hk0 : decide (60 < (n : Int)) = false := by simp; omega
    by_cases hn0 : n = 0
    · subst hn0
      go_enter Tryd.func4, Tryd.ntmps4
      go_wp2_with fail
      refine (alive6_any _ hT).mono ?_
      rintro e w1 ⟨rfl, hb1⟩
      go_wp2_with fail
      go_ret
      exact ⟨rfl, hb1⟩
    · have hk1 : ((n : Int) == 0) = false := by simp; omega
      obtain ⟨b, off, rfl, _⟩ := hv.cells 0 (by omega)
      go_enter Tryd.func4, Tryd.ntmps4
      go_wp2_with fail
      go_loopw [7, 8] (fun i _ wr => ∃ k : Nat, k ≤ n ∧ i = .int .i64 k ∧ Bl w wr ∧ Hid (ApartTo vs k)) (fun i _ _ => n - (intOf i).toNat)
      case atStart => exact ⟨0, Nat.zero_le _, rfl, Bl.refl _, Lib.hid (fun j hj => absurd hj (Nat.not_lt_zero _))⟩
      case round =>
        obtain ⟨k, hk, rfl, G, HA⟩ := hrel
        by_cases hlt : k < n
        · go_wp2_with fail
          go_loopw [8] (fun i wr => ∃ q : Nat, q ≤ k ∧ i = .int .i64 q ∧ Bl w wr ∧ Hid (ApartOf vs k q)) (fun i _ => k - (intOf i).toNat)
          case atStart => exact ⟨0, Nat.zero_le _, rfl, G, Lib.hid (fun j hj => absurd hj (Nat.not_lt_zero _))⟩
          case round =>
            clear G
            obtain ⟨q, hq, rfl, G, HB⟩ := hrel
            by_cases hlt2 : q < k
            · go_upto_region 9 with fail
              obtain ⟨b', off', e', hc⟩ := hv.cells k hlt
              simp only [Option.some.injEq, Addr.mk.injEq] at e'
              obtain ⟨rfl, rfl, _⟩ := e'
              have hqn : q < n := by omega
              have E1 := (hc k hlt).keep G
              have E2 := (hc q hqn).keep G
              clear hc
              obtain ⟨V1, hV1⟩ : ∃ V, nthR vs k = V := ⟨_, rfl⟩
              obtain ⟨V2, hV2⟩ : ∃ V, nthR vs q = V := ⟨_, rfl⟩
              rw [hV1] at E1
              rw [hV2] at E2
              replace hV1 := Lib.hid hV1
              replace hV2 := Lib.hid hV2
              refine wp_region_allS (by kernel_rfl) (by kernel_rfl) ?_
              replace E1 := E1.keep ((Bl.refl wr).drew)
              replace E2 := E2.keep ((Bl.refl wr).drew)
              replace G := G.trans ((Bl.refl wr).drew)
              generalize wr.drew = W at *
              obtain ⟨va, vn, vc, v1, vI⟩ := E1.at_
              obtain ⟨ua, un, uc, u1, uI⟩ := E2.at_
              obtain ⟨p0, p1, p2, p3, p4, p5, p6, p7⟩ := E1.all v1
              obtain ⟨r0, r1, r2, r3, r4, r5, r6, r7⟩ := E2.all u1
              clear E1 E2 v1 u1
              obtain ⟨T1, hT1⟩ : ∃ T, timeL V1 = T := ⟨_, rfl⟩
              obtain ⟨T2, hT2⟩ : ∃ T, timeL V2 = T := ⟨_, rfl⟩
              have HT1 := Lib.hid (fun m : Ext W => ltime_any V1.key va vn vc V1.at_ V1.origin V1.tx V1.act.k V1.act.x V1.act.n V1.act.s T1 m.at (vI.keep m.bl) (Lib.hid hT1))
              have HT2 := Lib.hid (fun m : Ext W => ltime_any V2.key ua un uc V2.at_ V2.origin V2.tx V2.act.k V2.act.x V2.act.n V2.act.s T2 m.at (uI.keep m.bl) (Lib.hid hT2))
              replace hT1 := Lib.hid hT1
              replace hT2 := Lib.hid hT2
              clear vI uI
              by_cases ht : T1 = T2
              · subst ht
                by_cases ho : V1.origin = V2.origin
                · have d2 : (V1.origin == V2.origin) = true := by simp [ho]
                  by_cases hx : V1.tx = V2.tx
                  · have d3 : (V1.tx == V2.tx) = true := by simp [hx]
                    replace ho := Lib.hid ho
                    replace hx := Lib.hid hx
                    repeat (refine wpS_step (fun K hK => ?_); go_simp; first | (refine hK _ ?_; clear hK K) | (apply Exists.intro; refine ⟨fun m => ?_, hK _ ?_⟩; (first | with_reducible exact HT1.out m | with_reducible exact HT2.out m | fail); clear hK K))
                    refine wpS_nil ?_
                    intro m
                    replace G := G.trans m.bl
                    clear p0 p1 p2 p3 p4 p5 p6 p7 r0 r1 r2 r3 r4 r5 r6 r7 HT1 HT2
                    generalize ExtC.at m = W9 at *
                    go_wp2_with (first | (refine (alive6_any _ (hT.keep G)).mono ?_; rintro e w1 ⟨rfl, hb1⟩) | fail)
                    go_ret
                    exact ⟨rfl, G.trans hb1⟩
                  · have d3 : (V1.tx == V2.tx) = false := by simp [hx]
                    replace ho := Lib.hid ho
                    replace hx := Lib.hid hx
                    repeat (refine wpS_step (fun K hK => ?_); go_simp; first | (refine hK _ ?_; clear hK K) | (apply Exists.intro; refine ⟨fun m => ?_, hK _ ?_⟩; (first | with_reducible exact HT1.out m | with_reducible exact HT2.out m | fail); clear hK K))
                    refine wpS_nil ?_
                    intro m
                    replace G := G.trans m.bl
                    clear p0 p1 p2 p3 p4 p5 p6 p7 r0 r1 r2 r3 r4 r5 r6 r7 HT1 HT2
                    generalize ExtC.at m = W9 at *
                    have HC := Lib.hid (apart_of_next HB.out (by rw [hV1.out, hV2.out]; exact .inr (.inr (Ne.symm hx.out))))
                    go_wp2_with fail
                    go_roundw
                    case rel => exact ⟨q + 1, by omega, by go_num, G, HC⟩
                    case measure => simp [intOf]; omega
                · have d2 : (V1.origin == V2.origin) = false := by simp [ho]
                  replace ho := Lib.hid ho
                  repeat (refine wpS_step (fun K hK => ?_); go_simp; first | (refine hK _ ?_; clear hK K) | (apply Exists.intro; refine ⟨fun m => ?_, hK _ ?_⟩; (first | with_reducible exact HT1.out m | with_reducible exact HT2.out m | fail); clear hK K))
                  refine wpS_nil ?_
                  intro m
                  replace G := G.trans m.bl
                  clear p0 p1 p2 p3 p4 p5 p6 p7 r0 r1 r2 r3 r4 r5 r6 r7 HT1 HT2
                  generalize ExtC.at m = W9 at *
                  have HC := Lib.hid (apart_of_next HB.out (by rw [hV1.out, hV2.out]; exact .inr (.inl (Ne.symm ho.out))))
                  go_wp2_with fail
                  go_roundw
                  case rel => exact ⟨q + 1, by omega, by go_num, G, HC⟩
                  case measure => simp [intOf]; omega
              · have d1 : (T1 == T2) = false := by simp [ht]
                replace ht := Lib.hid ht
                repeat (refine wpS_step (fun K hK => ?_); go_simp; first | (refine hK _ ?_; clear hK K) | (apply Exists.intro; refine ⟨fun m => ?_, hK _ ?_⟩; (first | with_reducible exact HT1.out m | with_reducible exact HT2.out m | fail); clear hK K))
                refine wpS_nil ?_
                intro m
                replace G := G.trans m.bl
                clear p0 p1 p2 p3 p4 p5 p6 p7 r0 r1 r2 r3 r4 r5 r6 r7 HT1 HT2
                generalize ExtC.at m = W9 at *
                have HC := Lib.hid (apart_of_next HB.out (by rw [hV1.out, hV2.out]; exact .inl (by rw [hT1.out, hT2.out]; exact Ne.symm ht.out)))
                go_wp2_with fail
                go_roundw
                case rel => exact ⟨q + 1, by omega, by go_num, G, HC⟩
                case measure => simp [intOf]; omega
            · have HC : Hid (ApartOf vs k k) := Lib.hid (by obtain rfl : q = k := (by omega); exact HB.out)
              obtain ⟨b', off', e', hc⟩ := hv.cells k hlt
              simp only [Option.some.injEq, Addr.mk.injEq] at e'
              obtain ⟨rfl, rfl, _⟩ := e'
              have E := (hc k hlt).keep G
              clear hc
              generalize hV : nthR vs k = V at E
              clear hV
              obtain ⟨va, vn, vc, v1, vI⟩ := E.at_
              have e7 := E.c7
              clear E
              by_cases hs : V.act.s.size ≤ 2000
              · have d1 : decide (2000 < (V.act.s.size : Int)) = false := by simp; omega
                by_cases hat : vn ≤ 8
                · have ha1 : decide (8 < (vn : Int)) = false := by simp; omega
                  go_wp2_with fail
                  go_roundw
                  case rel => exact ⟨k + 1, by omega, by go_num, G, Lib.hid (apart_next HA.out HC.out)⟩
                  case measure => simp [intOf]; omega
                · have ha1 : decide (8 < (vn : Int)) = true := by simp; omega
                  go_wp2_with (first | (refine (alive6_any _ (hT.keep G)).mono ?_; rintro e w1 ⟨rfl, hb1⟩) | fail)
                  go_ret
                  exact ⟨rfl, G.trans hb1⟩
              · have d1 : decide (2000 < (V.act.s.size : Int)) = true := by simp; omega
                go_wp2_with (first | (refine (alive6_any _ (hT.keep G)).mono ?_; rintro e w1 ⟨rfl, hb1⟩) | fail)
                go_ret
                exact ⟨rfl, G.trans hb1⟩
        · have HP : Hid (vs.Pairwise Apart) := Lib.hid (apart_all (by obtain rfl : k = n := (by omega); rw [HL.out]; exact HA.out))
          clear HA
          obtain ⟨K, hK⟩ : ∃ K, by_.tmod n = K := ⟨_, rfl⟩
          go_upto_region 14 with fail
          by_cases hK0 : K < 0
          · have d0 : decide (K < 0) = true := by simp; omega
            have hKn : -(n : Int) < K := by rw [← hK]; exact Int.lt_tmod_of_pos _ (by omega)
            replace hK := Lib.hid hK
            obtain ⟨J, hJe⟩ : ∃ J : Nat, K + (n : Int) = (J : Int) := ⟨(K + n).toNat, by omega⟩
            have hJ : J < n := by omega
            clear hK0 hKn
            go_upto_region 16 with fail
            clear d0 hJe
            go_cut [10] (fun s10 W => ∃ a2 c2, s10 = .slice a2 n c2 ∧ Bl w W ∧ VA W a2 n (vs.drop J ++ vs.take J))
            case first =>
              refine wp_region_idx [0, 1, 2, 4, 5, 6] 3 (Bl wr.drew) (fun _ _ h k => h.trans k) (Bl.refl _) (by kernel_rfl) rfl (by kernel_rfl) (by kernel_rfl) ?_
              have GD := G.trans ((Bl.refl wr).drew)
              clear G
              generalize wr.drew = W at *
              clear hK
              have h1 : (0 : Int) ≤ (J : Int) := by omega
              have h2 : (J : Int) ≤ (n : Int) := by omega
              have h3 : (J : Int) ≤ (ca : Int) := by omega
              have h4 : J ≤ n := by omega
              have h5 : J ≤ ca := by omega
              have h6 : (ca = J) = False := by simp; omega
              repeat (refine wpI_step rfl (fun K hK => ?_); go_simp; refine hK _ ?_; clear hK K)
              refine wpI_nil ?_
              have VA0 := hv.keep GD
              obtain ⟨_, cs1, SC1, CL1⟩ := VA0.part J (n - J) (by omega)
              obtain ⟨_, cs2, SC2, CL2⟩ := VA0.part 0 J (by omega)
              rw [show off + 0 * 8 = off by omega, List.drop_zero] at *
              rw [List.take_of_length_le (by rw [List.length_drop, VA0.len]; omega)] at CL1
              refine wpAnyE_one (i := 3) (by kernel_rfl) ?_
              intro Y1 hb1
              refine eOp_app1 rfl rfl _ _ rfl rfl _ _ _ cs1 rfl (SC1.keep hb1) (by omega) ?_
              intro v1 Y2 ho1 hbm
              have hB1 : W.heap.size ≤ Y1.heap.size := hb1.size
              have hB1b : Y1.heap.size ≤ Y2.heap.size := hbm.size
              replace hb1 := hb1.trans hbm
              refine ⟨hb1, ?_⟩
              simp only [Act.put, List.setIfInBounds_toArray]
              refine wpAnyE_one (i := 7) (by kernel_rfl) ?_
              intro Y3 hb3
              refine eOp_app4 rfl rfl _ _ rfl _ v1 _ cs1 rfl (ho1.keep hb3) (Nat.le_trans hB1b hb3.size) (by omega) _ _ _ cs2 rfl (SC2.keep (hb1.trans hb3)) (by omega) ?_
              intro v2 Y4 ho2 hgr
              have hb4 : Bl W Y4 := Bl.grownRow (hb1.trans hb3) (ho1.keep hb3) hB1 hgr
              obtain ⟨a2, c2, rfl, VA2⟩ := va_of ho2 ((CL1.keep hb4).append (CL2.keep hb4)) (by rw [List.length_append, List.length_drop, List.length_take, VA0.len]; omega) (by omega)
              rw [show n - J + J = n by omega] at VA2 ⊢
              clear ho1 ho2 hgr CL1 CL2 SC1 SC2
              refine ⟨hb4, ?_⟩
              simp only [Act.put, List.setIfInBounds_toArray]
              refine wpAnyE_one (i := 8) (by kernel_rfl) ?_
              intro Y5 hb5
              go_simp
              refine ⟨hb4.trans hb5, ?_⟩
              refine wpAnyE_done (by kernel_rfl) ?_
              intro Y6 hb6
              go_step
              go_meet
              case rel => exact ⟨a2, c2, rfl, GD.trans (hb4.trans (hb5.trans hb6)), VA2.keep (hb5.trans hb6)⟩
            case rest =>
              obtain ⟨ta, tc, rfl, G, VT⟩ := hcut
              go_wp2_with fail
              go_loopw [11, 12] (fun v i wr => ∃ q : Nat, q ≤ n ∧ i = .int .i64 ((n : Int) - 1 - q) ∧ Bl wc wr ∧ Hid (∃ cs, OVS wc.heap.size wr v q cs ∧ CL wc cs ((vs.drop (n - q)).reverse))) (fun _ i _ => (intOf i + 1).toNat)
              case atStart => exact ⟨0, Nat.zero_le _, by go_num, Bl.refl _, Lib.hid ⟨[], World.ownsRow_nil _ _ _ _, by rw [List.drop_of_length_le (by rw [HL.out]; omega)]; exact .nil⟩⟩
              case round =>
                obtain ⟨q, hq, rfl, G2, HC⟩ := hrel
                by_cases hlt3 : q < n
                · obtain ⟨p, hp⟩ : ∃ p : Nat, (n : Int) - 1 - q = (p : Int) := ⟨n - 1 - q, by omega⟩
                  rw [hp]
                  have hpn : p < n := by omega
                  have hdrop : vs.drop (n - (q + 1)) = nthR vs p :: vs.drop (n - q) := by
                    have e1 : n - (q + 1) = p := by omega
                    have e2 : n - q = p + 1 := by omega
                    have e3 : p < vs.length := by rw [HL.out]; exact hpn
                    rw [e1, e2, nthR_eq e3]
                    exact List.drop_eq_getElem_cons e3
                  replace hdrop := Lib.hid hdrop
                  obtain ⟨b', off', e', hc⟩ := hv.cells p hpn
                  simp only [Option.some.injEq, Addr.mk.injEq] at e'
                  obtain ⟨rfl, rfl, _⟩ := e'
                  have E := (hc p hpn).keep G
                  clear hc
                  obtain ⟨V, hV⟩ : ∃ V, nthR vs p = V := ⟨_, rfl⟩
                  rw [hV] at E hdrop
                  clear hV
                  obtain ⟨va, vn, vc, v1, vI⟩ := E.at_
                  have hcv : CV1 wc V [.string V.key, .slice va vn vc, .int .i64 V.origin, .int .i64 V.tx, .int .i64 V.act.k, .float .f64 V.act.x, .int .i64 V.act.n, .string V.act.s] := ⟨va, vn, vc, rfl, vI, E.ok⟩
                  obtain ⟨p0, p1, p2, p3, p4, p5, p6, p7⟩ : _ ∧ _ ∧ _ ∧ _ ∧ _ ∧ _ ∧ _ ∧ _ := ⟨G2.cell E.c0, G2.cell v1, G2.cell E.c2, G2.cell E.c3, G2.cell E.c4, G2.cell E.c5, G2.cell E.c6, G2.cell E.c7⟩
                  obtain ⟨cs, ho, hcl⟩ := HC.out
                  replace hp := Lib.hid hp
                  clear E v1 vI HC
                  have hoa := ho.keep ((Bl.refl wr).alloc (.cells #[.string V.key, .slice va vn vc, .int .i64 V.origin, .int .i64 V.tx, .int .i64 V.act.k, .float .f64 V.act.x, .int .i64 V.act.n, .string V.act.s] 30))
                  have cj := AC.new wr wr.heap.size rfl [.string V.key, .slice va vn vc, .int .i64 V.origin, .int .i64 V.tx, .int .i64 V.act.k, .float .f64 V.act.x, .int .i64 V.act.n, .string V.act.s] 30
                  have dp : decide ((0 : Int) ≤ (p : Int)) = true := by simp
                  go_wp2_with (at_builtin; refine wpList_app2 rfl _ _ rfl _ u11 q cs rfl hoa ?c1 (by omega) _ [.string V.key, .slice va vn vc, .int .i64 V.origin, .int .i64 V.tx, .int .i64 V.act.k, .float .f64 V.act.x, .int .i64 V.act.n, .string V.act.s] rfl cj rfl ?c2 ?_)
                  case c1 => have := G2.size; simp; omega
                  case c2 => simp [Value.oneCell']
                  intro v2 W7 ho2 hgr
                  have G7 : Bl wc W7 := Bl.grownRow (G2.alloc _) hoa (Nat.le_refl _) hgr
                  have HC2 : Hid (∃ cs, OVS wc.heap.size W7 v2 (q + 1) cs ∧ CL wc cs ((vs.drop (n - (q + 1))).reverse)) := Lib.hid ⟨_, ho2, by rw [hdrop.out, List.reverse_cons]; exact hcl.append (CL.single hcv)⟩
                  clear ho ho2 hgr hoa cj hcl hcv p0 p1 p2 p3 p4 p5 p6 p7
                  go_wp2_with fail
                  have hp2 : (p : Int) - 1 = (n : Int) - 1 - ((q + 1 : Nat) : Int) := by have := hp.out; omega
                  go_roundw
                  case rel => exact ⟨q + 1, by omega, congrArg (Value.int .i64) hp2, G7, HC2⟩
                  case measure => have := hp.out; simp [intOf]
                · have hq1 : q = n := by omega
                  subst hq1
                  rw [show ((q : Int) - 1 - (q : Int)) = -1 by omega]
                  obtain ⟨cs, ho, hcl⟩ := HC.out
                  rw [Nat.sub_self, List.drop_zero] at hcl
                  obtain ⟨a3, c3, rfl, VB⟩ := va_of ho (hcl.keep G2) (by rw [List.length_reverse]; exact HL.out) (by omega)
                  clear ho hcl HC
                  have VT := VT.keep G2
                  replace G := G.trans G2
                  have VA0 := hv.keep G
                  have hoks := hv.oks
                  have hoks1 : ∀ v ∈ vs.drop J ++ vs.take J, v.act.Ok := fun v h => hoks v ((perm_turned vs J).mem_iff.2 h)
                  have hoks2 : ∀ v ∈ vs.reverse, v.act.Ok := fun v h => hoks v ((perm_back vs).mem_iff.2 h)
                  have S1 := value_perm (key := key) (perm_turned vs J) HP.out hoks
                  have S2 := value_perm (key := key) (perm_back vs) HP.out hoks
                  have O0 := valueL_ok (key := key) hoks
                  have O1 := valueL_ok (key := key) hoks1
                  have O2 := valueL_ok (key := key) hoks2
                  obtain ⟨zb, zx, zn, zs, hz⟩ : ∃ zb zx zn zs, valueL key vs = ⟨zb, zx, zn, zs⟩ := ⟨_, _, _, _, rfl⟩
                  obtain ⟨yb, yx, yn, ys, hy⟩ : ∃ zb zx zn zs, valueL key (vs.drop J ++ vs.take J) = ⟨zb, zx, zn, zs⟩ := ⟨_, _, _, _, rfl⟩
                  obtain ⟨xb, xx, xn, xs, hx⟩ : ∃ zb zx zn zs, valueL key vs.reverse = ⟨zb, zx, zn, zs⟩ := ⟨_, _, _, _, rfl⟩
                  rw [hz, hy] at S1
                  rw [hz, hx] at S2
                  rw [hz] at O0
                  rw [hy] at O1
                  rw [hx] at O2
                  replace hz := Lib.hid hz
                  replace hy := Lib.hid hy
                  replace hx := Lib.hid hx
                  replace S1 := Lib.hid S1
                  replace S2 := Lib.hid S2
                  replace O0 := Lib.hid O0
                  replace O1 := Lib.hid O1
                  replace O2 := Lib.hid O2
                  clear hoks hoks1 hoks2
                  go_wp2_with fail
                  refine (value_agg key _ _ _ _ _ _ _ _ _ hz hkey VA0).mono ?_
                  rintro e W8 ⟨rfl, hb8⟩
                  replace G := G.trans hb8
                  replace VT := VT.keep hb8
                  replace VB := VB.keep hb8
                  go_upto_region 23 with fail
                  have cz := AC.new W8 W8.heap.size rfl [.bool zb, .float .f64 zx, .int .i64 zn, .string zs] 34
                  have hb9 : Bl W8 (W8.alloc (.cells #[.bool zb, .float .f64 zx, .int .i64 zn, .string zs] 34)) := (Bl.refl W8).alloc _
                  replace G := G.trans hb9
                  replace VT := VT.keep hb9
                  replace VB := VB.keep hb9
                  clear hb8 hb9
                  generalize W8.alloc (.cells #[.bool zb, .float .f64 zx, .int .i64 zn, .string zs] 34) = W9 at *
                  generalize W8.heap.size = gz at *
                  refine wp_region_extall (by kernel_rfl) (by kernel_rfl) ?_
                  have GD : Bl W9 W9.drew := (Bl.refl W9).drew
                  replace G := G.trans GD
                  replace VT := VT.keep GD
                  replace VB := VB.keep GD
                  replace cz := cz.keep GD
                  clear GD
                  generalize W9.drew = W at *
                  have z0 : ∀ m : Ext W, _ := fun m => (cz.keep m.bl).cell 0 _ rfl
                  have z1 : ∀ m : Ext W, _ := fun m => (cz.keep m.bl).cell 1 _ rfl
                  have z2 : ∀ m : Ext W, _ := fun m => (cz.keep m.bl).cell 2 _ rfl
                  have z3 : ∀ m : Ext W, _ := fun m => (cz.keep m.bl).cell 3 _ rfl
                  have HA1 := Lib.hid (fun m : Ext W => alive6_any m.at (hT.keep (G.trans m.bl)))
                  have HV1 := Lib.hid (fun m : Ext W => value_agg key _ _ tc _ m.at _ _ _ _ hy hkey (VT.keep m.bl))
                  have HV2 := Lib.hid (fun m : Ext W => value_agg key _ _ c3 _ m.at _ _ _ _ hx hkey (VB.keep m.bl))
                  have HS1 := Lib.hid (fun m : Ext W => same_agg zb zx zn zs yb yx yn ys true m.at S1 O0 O1)
                  have HS2 := Lib.hid (fun m : Ext W => same_agg zb zx zn zs xb xx xn xs true m.at S2 O0 O2)
                  repeat (refine wpE_step (fun K hK => ?_); go_simp; first | (refine hK _ ?_; clear hK K) | (apply Exists.intro; refine ⟨fun m => ?_, hK _ ?_⟩; (first | with_reducible exact HA1.out m | with_reducible exact HV1.out m | with_reducible exact HV2.out m | with_reducible exact HS1.out m | with_reducible exact HS2.out m | fail); clear hK K))
                  refine wpE_nil ?_
                  intro m
                  replace G := G.trans m.bl
                  clear z0 z1 z2 z3
                  generalize ExtC.at m = W10 at *
                  go_wp2_with fail
                  go_ret
                  exact ⟨rfl, G⟩
          · have d0 : decide (K < 0) = false := by simp; omega
            have hKn : K < n := by rw [← hK]; exact Int.tmod_lt_of_pos _ (by omega)
            replace hK := Lib.hid hK
            obtain ⟨J, rfl⟩ : ∃ J : Nat, K = (J : Int) := ⟨K.toNat, by omega⟩
            have hJ : J < n := by omega
            clear hK0 hKn d0
            have d0 : decide ((J : Int) < 0) = false := by simp
            go_upto_region 16 with fail
            clear d0
            go_cut [10] (fun s10 W => ∃ a2 c2, s10 = .slice a2 n c2 ∧ Bl w W ∧ VA W a2 n (vs.drop J ++ vs.take J))
            case first =>
              refine wp_region_idx [0, 1, 2, 4, 5, 6] 3 (Bl wr.drew) (fun _ _ h k => h.trans k) (Bl.refl _) (by kernel_rfl) rfl (by kernel_rfl) (by kernel_rfl) ?_
              have GD := G.trans ((Bl.refl wr).drew)
              clear G
              generalize wr.drew = W at *
              clear hK
              have h1 : (0 : Int) ≤ (J : Int) := by omega
              have h2 : (J : Int) ≤ (n : Int) := by omega
              have h3 : (J : Int) ≤ (ca : Int) := by omega
              have h4 : J ≤ n := by omega
              have h5 : J ≤ ca := by omega
              have h6 : (ca = J) = False := by simp; omega
              repeat (refine wpI_step rfl (fun K hK => ?_); go_simp; refine hK _ ?_; clear hK K)
              refine wpI_nil ?_
              have VA0 := hv.keep GD
              obtain ⟨_, cs1, SC1, CL1⟩ := VA0.part J (n - J) (by omega)
              obtain ⟨_, cs2, SC2, CL2⟩ := VA0.part 0 J (by omega)
              rw [show off + 0 * 8 = off by omega, List.drop_zero] at *
              rw [List.take_of_length_le (by rw [List.length_drop, VA0.len]; omega)] at CL1
              refine wpAnyE_one (i := 3) (by kernel_rfl) ?_
              intro Y1 hb1
              refine eOp_app1 rfl rfl _ _ rfl rfl _ _ _ cs1 rfl (SC1.keep hb1) (by omega) ?_
              intro v1 Y2 ho1 hbm
              have hB1 : W.heap.size ≤ Y1.heap.size := hb1.size
              have hB1b : Y1.heap.size ≤ Y2.heap.size := hbm.size
              replace hb1 := hb1.trans hbm
              refine ⟨hb1, ?_⟩
              simp only [Act.put, List.setIfInBounds_toArray]
              refine wpAnyE_one (i := 7) (by kernel_rfl) ?_
              intro Y3 hb3
              refine eOp_app4 rfl rfl _ _ rfl _ v1 _ cs1 rfl (ho1.keep hb3) (Nat.le_trans hB1b hb3.size) (by omega) _ _ _ cs2 rfl (SC2.keep (hb1.trans hb3)) (by omega) ?_
              intro v2 Y4 ho2 hgr
              have hb4 : Bl W Y4 := Bl.grownRow (hb1.trans hb3) (ho1.keep hb3) hB1 hgr
              obtain ⟨a2, c2, rfl, VA2⟩ := va_of ho2 ((CL1.keep hb4).append (CL2.keep hb4)) (by rw [List.length_append, List.length_drop, List.length_take, VA0.len]; omega) (by omega)
              rw [show n - J + J = n by omega] at VA2 ⊢
              clear ho1 ho2 hgr CL1 CL2 SC1 SC2
              refine ⟨hb4, ?_⟩
              simp only [Act.put, List.setIfInBounds_toArray]
              refine wpAnyE_one (i := 8) (by kernel_rfl) ?_
              intro Y5 hb5
              go_simp
              refine ⟨hb4.trans hb5, ?_⟩
              refine wpAnyE_done (by kernel_rfl) ?_
              intro Y6 hb6
              go_step
              go_meet
              case rel => exact ⟨a2, c2, rfl, GD.trans (hb4.trans (hb5.trans hb6)), VA2.keep (hb5.trans hb6)⟩
            case rest =>
              obtain ⟨ta, tc, rfl, G, VT⟩ := hcut
              go_wp2_with fail
              go_loopw [11, 12] (fun v i wr => ∃ q : Nat, q ≤ n ∧ i = .int .i64 ((n : Int) - 1 - q) ∧ Bl wc wr ∧ Hid (∃ cs, OVS wc.heap.size wr v q cs ∧ CL wc cs ((vs.drop (n - q)).reverse))) (fun _ i _ => (intOf i + 1).toNat)
              case atStart => exact ⟨0, Nat.zero_le _, by go_num, Bl.refl _, Lib.hid ⟨[], World.ownsRow_nil _ _ _ _, by rw [List.drop_of_length_le (by rw [HL.out]; omega)]; exact .nil⟩⟩
              case round =>
                obtain ⟨q, hq, rfl, G2, HC⟩ := hrel
                by_cases hlt3 : q < n
                · obtain ⟨p, hp⟩ : ∃ p : Nat, (n : Int) - 1 - q = (p : Int) := ⟨n - 1 - q, by omega⟩
                  rw [hp]
                  have hpn : p < n := by omega
                  have hdrop : vs.drop (n - (q + 1)) = nthR vs p :: vs.drop (n - q) := by
                    have e1 : n - (q + 1) = p := by omega
                    have e2 : n - q = p + 1 := by omega
                    have e3 : p < vs.length := by rw [HL.out]; exact hpn
                    rw [e1, e2, nthR_eq e3]
                    exact List.drop_eq_getElem_cons e3
                  replace hdrop := Lib.hid hdrop
                  obtain ⟨b', off', e', hc⟩ := hv.cells p hpn
                  simp only [Option.some.injEq, Addr.mk.injEq] at e'
                  obtain ⟨rfl, rfl, _⟩ := e'
                  have E := (hc p hpn).keep G
                  clear hc
                  obtain ⟨V, hV⟩ : ∃ V, nthR vs p = V := ⟨_, rfl⟩
                  rw [hV] at E hdrop
                  clear hV
                  obtain ⟨va, vn, vc, v1, vI⟩ := E.at_
                  have hcv : CV1 wc V [.string V.key, .slice va vn vc, .int .i64 V.origin, .int .i64 V.tx, .int .i64 V.act.k, .float .f64 V.act.x, .int .i64 V.act.n, .string V.act.s] := ⟨va, vn, vc, rfl, vI, E.ok⟩
                  obtain ⟨p0, p1, p2, p3, p4, p5, p6, p7⟩ : _ ∧ _ ∧ _ ∧ _ ∧ _ ∧ _ ∧ _ ∧ _ := ⟨G2.cell E.c0, G2.cell v1, G2.cell E.c2, G2.cell E.c3, G2.cell E.c4, G2.cell E.c5, G2.cell E.c6, G2.cell E.c7⟩
                  obtain ⟨cs, ho, hcl⟩ := HC.out
                  replace hp := Lib.hid hp
                  clear E v1 vI HC
                  have hoa := ho.keep ((Bl.refl wr).alloc (.cells #[.string V.key, .slice va vn vc, .int .i64 V.origin, .int .i64 V.tx, .int .i64 V.act.k, .float .f64 V.act.x, .int .i64 V.act.n, .string V.act.s] 30))
                  have cj := AC.new wr wr.heap.size rfl [.string V.key, .slice va vn vc, .int .i64 V.origin, .int .i64 V.tx, .int .i64 V.act.k, .float .f64 V.act.x, .int .i64 V.act.n, .string V.act.s] 30
                  have dp : decide ((0 : Int) ≤ (p : Int)) = true := by simp
                  go_wp2_with (at_builtin; refine wpList_app2 rfl _ _ rfl _ u11 q cs rfl hoa ?c1 (by omega) _ [.string V.key, .slice va vn vc, .int .i64 V.origin, .int .i64 V.tx, .int .i64 V.act.k, .float .f64 V.act.x, .int .i64 V.act.n, .string V.act.s] rfl cj rfl ?c2 ?_)
                  case c1 => have := G2.size; simp; omega
                  case c2 => simp [Value.oneCell']
                  intro v2 W7 ho2 hgr
                  have G7 : Bl wc W7 := Bl.grownRow (G2.alloc _) hoa (Nat.le_refl _) hgr
                  have HC2 : Hid (∃ cs, OVS wc.heap.size W7 v2 (q + 1) cs ∧ CL wc cs ((vs.drop (n - (q + 1))).reverse)) := Lib.hid ⟨_, ho2, by rw [hdrop.out, List.reverse_cons]; exact hcl.append (CL.single hcv)⟩
                  clear ho ho2 hgr hoa cj hcl hcv p0 p1 p2 p3 p4 p5 p6 p7
                  go_wp2_with fail
                  have hp2 : (p : Int) - 1 = (n : Int) - 1 - ((q + 1 : Nat) : Int) := by have := hp.out; omega
                  go_roundw
                  case rel => exact ⟨q + 1, by omega, congrArg (Value.int .i64) hp2, G7, HC2⟩
                  case measure => have := hp.out; simp [intOf]
                · have hq1 : q = n := by omega
                  subst hq1
                  rw [show ((q : Int) - 1 - (q : Int)) = -1 by omega]
                  obtain ⟨cs, ho, hcl⟩ := HC.out
                  rw [Nat.sub_self, List.drop_zero] at hcl
                  obtain ⟨a3, c3, rfl, VB⟩ := va_of ho (hcl.keep G2) (by rw [List.length_reverse]; exact HL.out) (by omega)
                  clear ho hcl HC
                  have VT := VT.keep G2
                  replace G := G.trans G2
                  have VA0 := hv.keep G
                  have hoks := hv.oks
                  have hoks1 : ∀ v ∈ vs.drop J ++ vs.take J, v.act.Ok := fun v h => hoks v ((perm_turned vs J).mem_iff.2 h)
                  have hoks2 : ∀ v ∈ vs.reverse, v.act.Ok := fun v h => hoks v ((perm_back vs).mem_iff.2 h)
                  have S1 := value_perm (key := key) (perm_turned vs J) HP.out hoks
                  have S2 := value_perm (key := key) (perm_back vs) HP.out hoks
                  have O0 := valueL_ok (key := key) hoks
                  have O1 := valueL_ok (key := key) hoks1
                  have O2 := valueL_ok (key := key) hoks2
                  obtain ⟨zb, zx, zn, zs, hz⟩ : ∃ zb zx zn zs, valueL key vs = ⟨zb, zx, zn, zs⟩ := ⟨_, _, _, _, rfl⟩
                  obtain ⟨yb, yx, yn, ys, hy⟩ : ∃ zb zx zn zs, valueL key (vs.drop J ++ vs.take J) = ⟨zb, zx, zn, zs⟩ := ⟨_, _, _, _, rfl⟩
                  obtain ⟨xb, xx, xn, xs, hx⟩ : ∃ zb zx zn zs, valueL key vs.reverse = ⟨zb, zx, zn, zs⟩ := ⟨_, _, _, _, rfl⟩
                  rw [hz, hy] at S1
                  rw [hz, hx] at S2
                  rw [hz] at O0
                  rw [hy] at O1
                  rw [hx] at O2
                  replace hz := Lib.hid hz
                  replace hy := Lib.hid hy
                  replace hx := Lib.hid hx
                  replace S1 := Lib.hid S1
                  replace S2 := Lib.hid S2
                  replace O0 := Lib.hid O0
                  replace O1 := Lib.hid O1
                  replace O2 := Lib.hid O2
                  clear hoks hoks1 hoks2
                  go_wp2_with fail
                  refine (value_agg key _ _ _ _ _ _ _ _ _ hz hkey VA0).mono ?_
                  rintro e W8 ⟨rfl, hb8⟩
                  replace G := G.trans hb8
                  replace VT := VT.keep hb8
                  replace VB := VB.keep hb8
                  go_upto_region 23 with fail
                  have cz := AC.new W8 W8.heap.size rfl [.bool zb, .float .f64 zx, .int .i64 zn, .string zs] 34
                  have hb9 : Bl W8 (W8.alloc (.cells #[.bool zb, .float .f64 zx, .int .i64 zn, .string zs] 34)) := (Bl.refl W8).alloc _
                  replace G := G.trans hb9
                  replace VT := VT.keep hb9
                  replace VB := VB.keep hb9
                  clear hb8 hb9
                  generalize W8.alloc (.cells #[.bool zb, .float .f64 zx, .int .i64 zn, .string zs] 34) = W9 at *
                  generalize W8.heap.size = gz at *
                  refine wp_region_extall (by kernel_rfl) (by kernel_rfl) ?_
                  have GD : Bl W9 W9.drew := (Bl.refl W9).drew
                  replace G := G.trans GD
                  replace VT := VT.keep GD
                  replace VB := VB.keep GD
                  replace cz := cz.keep GD
                  clear GD
                  generalize W9.drew = W at *
                  have z0 : ∀ m : Ext W, _ := fun m => (cz.keep m.bl).cell 0 _ rfl
                  have z1 : ∀ m : Ext W, _ := fun m => (cz.keep m.bl).cell 1 _ rfl
                  have z2 : ∀ m : Ext W, _ := fun m => (cz.keep m.bl).cell 2 _ rfl
                  have z3 : ∀ m : Ext W, _ := fun m => (cz.keep m.bl).cell 3 _ rfl
                  have HA1 := Lib.hid (fun m : Ext W => alive6_any m.at (hT.keep (G.trans m.bl)))
                  have HV1 := Lib.hid (fun m : Ext W => value_agg key _ _ tc _ m.at _ _ _ _ hy hkey (VT.keep m.bl))
                  have HV2 := Lib.hid (fun m : Ext W => value_agg key _ _ c3 _ m.at _ _ _ _ hx hkey (VB.keep m.bl))
                  have HS1 := Lib.hid (fun m : Ext W => same_agg zb zx zn zs yb yx yn ys true m.at S1 O0 O1)
                  have HS2 := Lib.hid (fun m : Ext W => same_agg zb zx zn zs xb xx xn xs true m.at S2 O0 O2)
                  repeat (refine wpE_step (fun K hK => ?_); go_simp; first | (refine hK _ ?_; clear hK K) | (apply Exists.intro; refine ⟨fun m => ?_, hK _ ?_⟩; (first | with_reducible exact HA1.out m | with_reducible exact HV1.out m | with_reducible exact HV2.out m | with_reducible exact HS1.out m | with_reducible exact HS2.out m | fail); clear hK K))
                  refine wpE_nil ?_
                  intro m
                  replace G := G.trans m.bl
                  clear z0 z1 z2 z3
                  generalize ExtC.at m = W10 at *
                  go_wp2_with fail
                  go_ret
                  exact ⟨rfl, G⟩
  · have hk0 : decide (60 < (n : Int)) = true := by simp; omega
    go_enter Tryd.func4, Tryd.ntmps4
    go_wp2_with fail
    refine (alive6_any _ hT).mono ?_
    rintro e w1 ⟨rfl, hb1⟩
    go_wp2_with fail
    go_ret
    exact ⟨rfl, hb1⟩
end Go.Proofs.YtgdlcoicejgdkaaDoor
