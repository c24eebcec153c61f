/- bedrockref5.Value. By an AI agent. -/
import Derived.Test.YtgdlcoicejgdkaaDoorLater
import Derived.Test.YtgdlcoicejgdkaaDoorRefO5
import Derived.Test.YtgdlcoicejgdkaaDoorVer4
namespace Go.Proofs.YtgdlcoicejgdkaaDoor
open Go.RowKit
attribute [local go_sem] eOp eOper eUpon

theorem key_num {key : ByteArray} {A : ActL} (hf : fitsB key A = true) (hr : regB key = false) : ∃ hp : 0 < key.size, ((key[0].toNat : Int) != 114) = true ∧ ((key[0].toNat : Int) != 116) = true := by
  have hp := key_pos (fits_key hf).1
  refine ⟨hp, ?_⟩
  have h := hd_get hp
  have h2 : hd key ≠ 114 ∧ hd key ≠ 116 := by simpa [regB] using hr
  rw [h]
  constructor <;> (simp; omega)

set_option maxHeartbeats 3200000 in
set_option maxRecDepth 100000 in
theorem rvalue_num (key : ByteArray) (a : Option Addr) (n ca : Nat) (vs : List VerL) (w : World) (hkey : key.size ≤ 140737488351232) (hreg : regB key = false) (hv : VA w a n vs) :
    Calls Tryd.prog 16 #[.string key, .slice a n ca] w fun e w' => e = .returned (ValL.v (outL key vs)) ∧ Bl w w' := by
  have hsf := store_float
  have HL := Lib.hid hv.len
  have HOK := Lib.hid hv.oks
  have hcap := hv.cap
  have HR := Lib.hid hreg
  clear hreg
  go_enter Tryd.func16, Tryd.ntmps16
  go_wp2_with fail
  have G0 := OV.new w 34 34
  go_loopw [6, 7] (fun p i wr => ∃ k : Nat, k ≤ n ∧ p = .int .i64 (-1) ∧ i = .int .i64 k ∧ OV w wr (outL key (vs.take k)).there (outL key (vs.take k)).x (outL key (vs.take k)).n (outL key (vs.take k)).s) (fun _ i _ => n - (intOf i).toNat)
  case atStart => exact ⟨0, Nat.zero_le _, rfl, rfl, G0⟩
  case round =>
    clear G0
    obtain ⟨k, hk, rfl, rfl, G⟩ := hrel
    by_cases hlt : k < n
    · obtain ⟨b, off, rfl, hc⟩ := hv.cells k hlt
      have E := (hc k hlt).keep G.bl
      clear hc
      have HS := Lib.hid (take_nthR (vs := vs) (k := k) (by rw [HL.out]; exact hlt))
      have HA := Lib.hid E.ok
      have HO := Lib.hid (outL_ok (key := key) (vs := vs.take k) (fun v hv => HOK.out v (List.mem_of_mem_take hv)))
      generalize hV : nthR vs k = V at *
      obtain ⟨O, hQ⟩ : ∃ O, outL key (vs.take k) = O := ⟨_, rfl⟩
      rw [hQ] at G HO
      have HQ := Lib.hid hQ
      clear hQ
      have e4 := E.c4
      have e5 := E.c5
      have e6 := E.c6
      have e7 := E.c7
      clear E
      obtain ⟨vk, va, vo, vt, ⟨k1, x1, n1, s1⟩⟩ := V
      obtain ⟨ob, ox, on, oz⟩ := O
      simp only at e4 e5 e6 e7
      obtain ⟨f, hf⟩ : ∃ f, fitsB key ⟨k1, x1, n1, s1⟩ = f := ⟨_, rfl⟩
      have HF := Lib.hid hf
      clear hf
      go_wp2_with fail
      refine (refFits_agg key k1 x1 n1 s1 f _ HF hkey HA).mono ?_
      rintro e w2 ⟨rfl, hb2⟩
      have G := G.keep hb2
      replace e4 := hb2.cell e4
      replace e5 := hb2.cell e5
      replace e6 := hb2.cell e6
      replace e7 := hb2.cell e7
      clear hb2
      cases f
      · have HN : Hid (afterL key ⟨ob, ox, on, oz⟩ ⟨k1, x1, n1, s1⟩ = ⟨ob, ox, on, oz⟩) := Lib.hid (by unfold afterL; rw [HF.out]; rfl)
        go_wp2_with fail
        go_roundw
        case rel => exact ⟨k + 1, by omega, rfl, by go_num, by rw [HS.out, outL_snoc]; show OV w w2 _ _ _ _; rw [HQ.out, HN.out]; exact G⟩
        case measure => simp [intOf]; omega
      · obtain ⟨hp, p1, p2⟩ := key_num HF.out HR.out
        obtain ⟨o0, o1, o2, o3⟩ := G.o.val
        go_wp2_with fail
        obtain ⟨wd, hwd⟩ : ∃ wd, wd = w2.drew := ⟨_, rfl⟩
        have G := G.keep (show Bl w2 wd by rw [hwd]; exact (Bl.refl w2).drew)
        go_still_tail 7, (by kernel_rfl)
        change wpList _ _ _ _ _ w2.drew
        rw [← hwd]
        clear hwd o0 o1 o2 o3 e4 e5 e6 e7
        obtain ⟨R, hR⟩ : ∃ R, afterL key ⟨ob, ox, on, oz⟩ ⟨k1, x1, n1, s1⟩ = R := ⟨_, rfl⟩
        obtain ⟨rb, rx, rn, rz⟩ := R
        have HRR := Lib.hid hR
        clear hR
        go_wp2_with fail
        refine (refAfter_agg key ob ox on oz k1 x1 n1 s1 rb rx rn rz _ HRR hkey HO HA).mono ?_
        rintro e w4 ⟨rfl, hb4⟩
        have G := G.keep hb4
        obtain ⟨o0, o1, o2, o3⟩ := G.o.val
        have f0 := G.o.frozen
        go_wp2_with fail
        go_roundw
        case rel => exact ⟨k + 1, by omega, rfl, by go_num, by rw [HS.out, outL_snoc]; show OV w _ _ _ _ _; rw [HQ.out, HRR.out]; exact G.set _ _ _ _⟩
        case measure => simp [intOf]; omega
    · have hE : vs.take k = vs := List.take_of_length_le (by have := HL.out; omega)
      rw [hE] at G
      have HO := Lib.hid (outL_ok (key := key) HOK.out)
      obtain ⟨O, hQ⟩ : ∃ O, outL key vs = O := ⟨_, rfl⟩
      rw [hQ] at G HO
      have HQ := Lib.hid hQ
      clear hQ
      obtain ⟨ob, ox, on, oz⟩ := O
      simp only at G
      obtain ⟨o0, o1, o2, o3⟩ := G.o.val
      obtain ⟨r0, r1, r2, r3⟩ := G.r.val
      have fr := G.r.frozen
      clear hE
      go_wp2_with fail
      have R := G.r.set4 (.bool ob) (.float .f64 ox) (.int .i64 on) (.string oz)
      obtain ⟨d0, d1, d2, d3⟩ := R.val
      refine bodyPost_ret (v := .agg #[.bool ob, .float .f64 ox, .int .i64 on, .string oz]) (by simp [results, Tryd.results16, go_sem, d0, d1, d2, d3]) rfl ⟨by rw [HQ.out]; rfl, G.bl.store4 (Nat.le_refl _) _ _ _ _⟩
/-- the place of the last version -/
def PI (n : Nat) (vs : List VerL) (last : Option VerL) (p : Value) : Prop :=
  match last with
  | none => p = .int .i64 (-1)
  | some u => ∃ j : Nat, j < n ∧ p = .int .i64 j ∧ nthR vs j = u
set_option maxHeartbeats 6400000 in
set_option maxRecDepth 100000 in
theorem rvalue_r (key : ByteArray) (a : Option Addr) (n ca : Nat) (vs : List VerL) (w : World) (hkey : key.size ≤ 140737488351232) (hreg : hd key = 114) (hv : VA w a n vs) :
    Calls Tryd.prog 16 #[.string key, .slice a n ca] w fun e w' => e = .returned (ValL.v (ofLast key (lastL key vs))) ∧ Bl w w' := by
  have hsf := store_float
  have HL := Lib.hid hv.len
  have hcap := hv.cap
  have HR := Lib.hid hreg
  clear hreg
  go_enter Tryd.func16, Tryd.ntmps16
  go_wp2_with fail
  have G0 := OV.new w 34 34
  go_loopw [6, 7] (fun p i wr => ∃ k : Nat, k ≤ n ∧ PI n vs (lastL key (vs.take k)) p ∧ i = .int .i64 k ∧ OV w wr false 0 0 ⟨#[]⟩) (fun _ i _ => n - (intOf i).toNat)
  case atStart => exact ⟨0, Nat.zero_le _, rfl, rfl, G0⟩
  case round =>
    clear G0
    obtain ⟨k, hk, hp, rfl, G⟩ := hrel
    obtain ⟨last, hQ⟩ : ∃ last, lastL key (vs.take k) = last := ⟨_, rfl⟩
    rw [hQ] at hp
    have HQ := Lib.hid hQ
    clear hQ
    by_cases hlt : k < n
    · obtain ⟨b, off, rfl, hc⟩ := hv.cells k hlt
      have E := (hc k hlt).keep G.bl
      have HC := Lib.hid hc
      clear hc
      have HS := Lib.hid (take_nthR (vs := vs) (k := k) (by rw [HL.out]; exact hlt))
      have HA := Lib.hid E.ok
      obtain ⟨V, hV⟩ : ∃ V, nthR vs k = V := ⟨_, rfl⟩
      rw [hV] at E HS HA
      have HV := Lib.hid hV
      clear hV
      have e4 := E.c4
      have e5 := E.c5
      have e6 := E.c6
      have e7 := E.c7
      obtain ⟨f, hf⟩ : ∃ f, fitsB key ⟨V.act.k, V.act.x, V.act.n, V.act.s⟩ = f := ⟨_, rfl⟩
      have HF := Lib.hid hf
      clear hf
      go_wp2_with fail
      refine (refFits_agg key V.act.k V.act.x V.act.n V.act.s f _ HF hkey HA).mono ?_
      rintro e w2 ⟨rfl, hb2⟩
      have G := G.keep hb2
      have E := E.keep hb2
      clear hb2 e4 e5 e6 e7
      cases f
      · have HN : Hid (stepL key last V = last) := Lib.hid (by unfold stepL; rw [show fitsB key V.act = false from HF.out]; rfl)
        go_wp2_with fail
        go_roundw
        case rel => exact ⟨k + 1, by omega, by rw [HS.out, lastL_snoc, HQ.out, HN.out]; exact hp, by go_num, G⟩
        case measure => simp [intOf]; omega
      · have hp0 := key_pos (fits_key HF.out).1
        have HH := hd_get hp0
        have z1 : ((key[0].toNat : Int) != 114) = false := by rw [HH, HR.out]; rfl
        clear HH
        cases last with
        | none =>
          have hp0 : u6 = .int .i64 (-1) := hp
          subst hp0
          have HN : Hid (stepL key none V = some V) := Lib.hid (by unfold stepL; rw [show fitsB key V.act = true from HF.out]; rfl)
          go_wp2_with fail
          refine wp_region_allS (by kernel_rfl) (by kernel_rfl) ?_
          have G1 := G.keep ((Bl.refl w2).drew)
          clear G E
          generalize w2.drew = W at *
          repeat (refine wpS_step (fun K hK => ?_); go_simp; refine hK _ ?_; clear hK K)
          refine wpS_nil ?_
          intro m
          have G2 := G1.keep m.bl
          generalize ExtC.at m = W9 at *
          go_wp2_with fail
          go_roundw
          case rel => exact ⟨k + 1, by omega, by rw [HS.out, lastL_snoc, HQ.out, HN.out]; exact ⟨k, hlt, rfl, HV.out⟩, by go_num, G2⟩
          case measure => simp [intOf]; omega
        | some U =>
          obtain ⟨j, hj, rfl, hU⟩ := hp
          have E2 := (HC.out j hj).keep G.bl
          rw [hU] at E2
          go_wp2_with fail
          refine wp_region_allS (by kernel_rfl) (by kernel_rfl) ?_
          have G1 := G.keep ((Bl.refl w2).drew)
          have E := E.keep ((Bl.refl w2).drew)
          have E2 := E2.keep ((Bl.refl w2).drew)
          clear G
          generalize w2.drew = W at *
          obtain ⟨va, vn, vc, v1, vI⟩ := E.at_
          obtain ⟨ua, un, uc, u1', uI⟩ := E2.at_
          obtain ⟨p0, p1, p2, p3, p4, p5, p6, p7⟩ := E.all v1
          obtain ⟨q0, q1, q2, q3, q4, q5, q6, q7⟩ := E2.all u1'
          clear E E2 v1 u1'
          by_cases hlt0 : orderL V U < 0
          · have HN : Hid (stepL key (some U) V = some V) := Lib.hid (by unfold stepL; rw [show fitsB key V.act = true from HF.out]; show (if orderL V U < 0 then _ else _) = _; rw [if_pos hlt0])
            have HO := Lib.hid (fun m : Ext W => later_any V U va ua vn un vc uc true m.at (vI.keep m.bl) (uI.keep m.bl) (Lib.hid (decide_eq_true hlt0)))
            repeat (refine wpS_step (fun K hK => ?_); go_simp; first | (refine hK _ ?_; clear hK K) | (apply Exists.intro; refine ⟨fun m => ?_, hK _ ?_⟩; (with_reducible exact HO.out m); clear hK K))
            clear p0 p1 p2 p3 p4 p5 p6 p7 q0 q1 q2 q3 q4 q5 q6 q7
            refine wpS_nil ?_
            intro m
            have G2 := G1.keep m.bl
            generalize ExtC.at m = W9 at *
            go_wp2_with fail
            go_roundw
            case rel => exact ⟨k + 1, by omega, by rw [HS.out, lastL_snoc, HQ.out, HN.out]; exact ⟨k, hlt, rfl, HV.out⟩, by go_num, G2⟩
            case measure => simp [intOf]; omega
          · have HN : Hid (stepL key (some U) V = some U) := Lib.hid (by unfold stepL; rw [show fitsB key V.act = true from HF.out]; show (if orderL V U < 0 then _ else _) = _; rw [if_neg hlt0])
            have HO := Lib.hid (fun m : Ext W => later_any V U va ua vn un vc uc false m.at (vI.keep m.bl) (uI.keep m.bl) (Lib.hid (decide_eq_false hlt0)))
            repeat (refine wpS_step (fun K hK => ?_); go_simp; first | (refine hK _ ?_; clear hK K) | (apply Exists.intro; refine ⟨fun m => ?_, hK _ ?_⟩; (with_reducible exact HO.out m); clear hK K))
            clear p0 p1 p2 p3 p4 p5 p6 p7 q0 q1 q2 q3 q4 q5 q6 q7
            refine wpS_nil ?_
            intro m
            have G2 := G1.keep m.bl
            generalize ExtC.at m = W9 at *
            go_wp2_with fail
            go_roundw
            case rel => exact ⟨k + 1, by omega, by rw [HS.out, lastL_snoc, HQ.out, HN.out]; exact ⟨j, hj, rfl, hU⟩, by go_num, G2⟩
            case measure => simp [intOf]; omega
    · have hE : vs.take k = vs := List.take_of_length_le (by have := HL.out; omega)
      rw [hE] at HQ
      clear hE
      cases last with
      | none =>
        have hp0 : u6 = .int .i64 (-1) := hp
        subst hp0
        obtain ⟨o0, o1, o2, o3⟩ := G.o.val
        obtain ⟨r0, r1, r2, r3⟩ := G.r.val
        have fr := G.r.frozen
        go_wp2_with fail
        have R := G.r.set4 (.bool false) (.float .f64 0) (.int .i64 0) (.string ⟨#[]⟩)
        obtain ⟨d0, d1, d2, d3⟩ := R.val
        refine bodyPost_ret (v := .agg #[.bool false, .float .f64 0, .int .i64 0, .string ⟨#[]⟩]) (by simp [results, Tryd.results16, go_sem, d0, d1, d2, d3]) rfl ⟨by rw [HQ.out]; rfl, G.bl.store4 (Nat.le_refl _) _ _ _ _⟩
      | some U =>
        obtain ⟨j, hj, rfl, hU⟩ := hp
        obtain ⟨b, off, rfl, hc⟩ := hv.cells j hj
        have E := (hc j hj).keep G.bl
        rw [hU] at E
        clear hc
        have HA := Lib.hid E.ok
        have e4 := E.c4
        have e5 := E.c5
        have e6 := E.c6
        have e7 := E.c7
        obtain ⟨R, hR⟩ : ∃ R, afterL key noVal U.act = R := ⟨_, rfl⟩
        obtain ⟨rb, rx, rn, rz⟩ := R
        have HRR : Hid (afterL key ⟨false, 0, 0, nilS⟩ ⟨U.act.k, U.act.x, U.act.n, U.act.s⟩ = ⟨rb, rx, rn, rz⟩) := Lib.hid hR
        clear hR
        go_wp2_with fail
        refine (refAfter_agg key false 0 0 nilS U.act.k U.act.x U.act.n U.act.s rb rx rn rz _ HRR hkey (Lib.hid noVal_ok) HA).mono ?_
        rintro e w4 ⟨rfl, hb4⟩
        have G := G.keep hb4
        clear e4 e5 e6 e7
        obtain ⟨r0, r1, r2, r3⟩ := G.r.val
        have fr := G.r.frozen
        go_wp2_with fail
        have R := G.r.set4 (.bool rb) (.float .f64 rx) (.int .i64 rn) (.string rz)
        obtain ⟨d0, d1, d2, d3⟩ := R.val
        refine bodyPost_ret (v := .agg #[.bool rb, .float .f64 rx, .int .i64 rn, .string rz]) (by simp [results, Tryd.results16, go_sem, d0, d1, d2, d3]) rfl ⟨by rw [HQ.out]; show _ = Ending.returned (ValL.v (afterL key noVal U.act)); rw [show afterL key noVal U.act = ⟨rb, rx, rn, rz⟩ from HRR.out]; rfl, G.bl.store4 (Nat.le_refl _) _ _ _ _⟩
set_option maxHeartbeats 6400000 in
set_option maxRecDepth 100000 in
theorem rvalue_t (key : ByteArray) (a : Option Addr) (n ca : Nat) (vs : List VerL) (w : World) (hkey : key.size ≤ 140737488351232) (hreg : hd key = 116) (hv : VA w a n vs) :
    Calls Tryd.prog 16 #[.string key, .slice a n ca] w fun e w' => e = .returned (ValL.v (ofLast key (lastL key vs))) ∧ Bl w w' := by
  have hsf := store_float
  have HL := Lib.hid hv.len
  have hcap := hv.cap
  have HR := Lib.hid hreg
  clear hreg
  go_enter Tryd.func16, Tryd.ntmps16
  go_wp2_with fail
  have G0 := OV.new w 34 34
  go_loopw [6, 7] (fun p i wr => ∃ k : Nat, k ≤ n ∧ PI n vs (lastL key (vs.take k)) p ∧ i = .int .i64 k ∧ OV w wr false 0 0 ⟨#[]⟩) (fun _ i _ => n - (intOf i).toNat)
  case atStart => exact ⟨0, Nat.zero_le _, rfl, rfl, G0⟩
  case round =>
    clear G0
    obtain ⟨k, hk, hp, rfl, G⟩ := hrel
    obtain ⟨last, hQ⟩ : ∃ last, lastL key (vs.take k) = last := ⟨_, rfl⟩
    rw [hQ] at hp
    have HQ := Lib.hid hQ
    clear hQ
    by_cases hlt : k < n
    · obtain ⟨b, off, rfl, hc⟩ := hv.cells k hlt
      have E := (hc k hlt).keep G.bl
      have HC := Lib.hid hc
      clear hc
      have HS := Lib.hid (take_nthR (vs := vs) (k := k) (by rw [HL.out]; exact hlt))
      have HA := Lib.hid E.ok
      obtain ⟨V, hV⟩ : ∃ V, nthR vs k = V := ⟨_, rfl⟩
      rw [hV] at E HS HA
      have HV := Lib.hid hV
      clear hV
      have e4 := E.c4
      have e5 := E.c5
      have e6 := E.c6
      have e7 := E.c7
      obtain ⟨f, hf⟩ : ∃ f, fitsB key ⟨V.act.k, V.act.x, V.act.n, V.act.s⟩ = f := ⟨_, rfl⟩
      have HF := Lib.hid hf
      clear hf
      go_wp2_with fail
      refine (refFits_agg key V.act.k V.act.x V.act.n V.act.s f _ HF hkey HA).mono ?_
      rintro e w2 ⟨rfl, hb2⟩
      have G := G.keep hb2
      have E := E.keep hb2
      clear hb2 e4 e5 e6 e7
      cases f
      · have HN : Hid (stepL key last V = last) := Lib.hid (by unfold stepL; rw [show fitsB key V.act = false from HF.out]; rfl)
        go_wp2_with fail
        go_roundw
        case rel => exact ⟨k + 1, by omega, by rw [HS.out, lastL_snoc, HQ.out, HN.out]; exact hp, by go_num, G⟩
        case measure => simp [intOf]; omega
      · have hp0 := key_pos (fits_key HF.out).1
        have HH := hd_get hp0
        have z1 : ((key[0].toNat : Int) != 114) = true := by rw [HH, HR.out]; rfl
        have z2 : ((key[0].toNat : Int) != 116) = false := by rw [HH, HR.out]; rfl
        clear HH
        cases last with
        | none =>
          have hp0 : u6 = .int .i64 (-1) := hp
          subst hp0
          have HN : Hid (stepL key none V = some V) := Lib.hid (by unfold stepL; rw [show fitsB key V.act = true from HF.out]; rfl)
          go_wp2_with fail
          refine wp_region_allS (by kernel_rfl) (by kernel_rfl) ?_
          have G1 := G.keep ((Bl.refl w2).drew)
          clear G E
          generalize w2.drew = W at *
          repeat (refine wpS_step (fun K hK => ?_); go_simp; refine hK _ ?_; clear hK K)
          refine wpS_nil ?_
          intro m
          have G2 := G1.keep m.bl
          generalize ExtC.at m = W9 at *
          go_wp2_with fail
          go_roundw
          case rel => exact ⟨k + 1, by omega, by rw [HS.out, lastL_snoc, HQ.out, HN.out]; exact ⟨k, hlt, rfl, HV.out⟩, by go_num, G2⟩
          case measure => simp [intOf]; omega
        | some U =>
          obtain ⟨j, hj, rfl, hU⟩ := hp
          have E2 := (HC.out j hj).keep G.bl
          rw [hU] at E2
          go_wp2_with fail
          refine wp_region_allS (by kernel_rfl) (by kernel_rfl) ?_
          have G1 := G.keep ((Bl.refl w2).drew)
          have E := E.keep ((Bl.refl w2).drew)
          have E2 := E2.keep ((Bl.refl w2).drew)
          clear G
          generalize w2.drew = W at *
          obtain ⟨va, vn, vc, v1, vI⟩ := E.at_
          obtain ⟨ua, un, uc, u1', uI⟩ := E2.at_
          obtain ⟨p0, p1, p2, p3, p4, p5, p6, p7⟩ := E.all v1
          obtain ⟨q0, q1, q2, q3, q4, q5, q6, q7⟩ := E2.all u1'
          clear E E2 v1 u1'
          by_cases hlt0 : orderL V U < 0
          · have HN : Hid (stepL key (some U) V = some V) := Lib.hid (by unfold stepL; rw [show fitsB key V.act = true from HF.out]; show (if orderL V U < 0 then _ else _) = _; rw [if_pos hlt0])
            have HO := Lib.hid (fun m : Ext W => later_any V U va ua vn un vc uc true m.at (vI.keep m.bl) (uI.keep m.bl) (Lib.hid (decide_eq_true hlt0)))
            repeat (refine wpS_step (fun K hK => ?_); go_simp; first | (refine hK _ ?_; clear hK K) | (apply Exists.intro; refine ⟨fun m => ?_, hK _ ?_⟩; (with_reducible exact HO.out m); clear hK K))
            clear p0 p1 p2 p3 p4 p5 p6 p7 q0 q1 q2 q3 q4 q5 q6 q7
            refine wpS_nil ?_
            intro m
            have G2 := G1.keep m.bl
            generalize ExtC.at m = W9 at *
            go_wp2_with fail
            go_roundw
            case rel => exact ⟨k + 1, by omega, by rw [HS.out, lastL_snoc, HQ.out, HN.out]; exact ⟨k, hlt, rfl, HV.out⟩, by go_num, G2⟩
            case measure => simp [intOf]; omega
          · have HN : Hid (stepL key (some U) V = some U) := Lib.hid (by unfold stepL; rw [show fitsB key V.act = true from HF.out]; show (if orderL V U < 0 then _ else _) = _; rw [if_neg hlt0])
            have HO := Lib.hid (fun m : Ext W => later_any V U va ua vn un vc uc false m.at (vI.keep m.bl) (uI.keep m.bl) (Lib.hid (decide_eq_false hlt0)))
            repeat (refine wpS_step (fun K hK => ?_); go_simp; first | (refine hK _ ?_; clear hK K) | (apply Exists.intro; refine ⟨fun m => ?_, hK _ ?_⟩; (with_reducible exact HO.out m); clear hK K))
            clear p0 p1 p2 p3 p4 p5 p6 p7 q0 q1 q2 q3 q4 q5 q6 q7
            refine wpS_nil ?_
            intro m
            have G2 := G1.keep m.bl
            generalize ExtC.at m = W9 at *
            go_wp2_with fail
            go_roundw
            case rel => exact ⟨k + 1, by omega, by rw [HS.out, lastL_snoc, HQ.out, HN.out]; exact ⟨j, hj, rfl, hU⟩, by go_num, G2⟩
            case measure => simp [intOf]; omega
    · have hE : vs.take k = vs := List.take_of_length_le (by have := HL.out; omega)
      rw [hE] at HQ
      clear hE
      cases last with
      | none =>
        have hp0 : u6 = .int .i64 (-1) := hp
        subst hp0
        obtain ⟨o0, o1, o2, o3⟩ := G.o.val
        obtain ⟨r0, r1, r2, r3⟩ := G.r.val
        have fr := G.r.frozen
        go_wp2_with fail
        have R := G.r.set4 (.bool false) (.float .f64 0) (.int .i64 0) (.string ⟨#[]⟩)
        obtain ⟨d0, d1, d2, d3⟩ := R.val
        refine bodyPost_ret (v := .agg #[.bool false, .float .f64 0, .int .i64 0, .string ⟨#[]⟩]) (by simp [results, Tryd.results16, go_sem, d0, d1, d2, d3]) rfl ⟨by rw [HQ.out]; rfl, G.bl.store4 (Nat.le_refl _) _ _ _ _⟩
      | some U =>
        obtain ⟨j, hj, rfl, hU⟩ := hp
        obtain ⟨b, off, rfl, hc⟩ := hv.cells j hj
        have E := (hc j hj).keep G.bl
        rw [hU] at E
        clear hc
        have HA := Lib.hid E.ok
        have e4 := E.c4
        have e5 := E.c5
        have e6 := E.c6
        have e7 := E.c7
        obtain ⟨R, hR⟩ : ∃ R, afterL key noVal U.act = R := ⟨_, rfl⟩
        obtain ⟨rb, rx, rn, rz⟩ := R
        have HRR : Hid (afterL key ⟨false, 0, 0, nilS⟩ ⟨U.act.k, U.act.x, U.act.n, U.act.s⟩ = ⟨rb, rx, rn, rz⟩) := Lib.hid hR
        clear hR
        go_wp2_with fail
        refine (refAfter_agg key false 0 0 nilS U.act.k U.act.x U.act.n U.act.s rb rx rn rz _ HRR hkey (Lib.hid noVal_ok) HA).mono ?_
        rintro e w4 ⟨rfl, hb4⟩
        have G := G.keep hb4
        clear e4 e5 e6 e7
        obtain ⟨r0, r1, r2, r3⟩ := G.r.val
        have fr := G.r.frozen
        go_wp2_with fail
        have R := G.r.set4 (.bool rb) (.float .f64 rx) (.int .i64 rn) (.string rz)
        obtain ⟨d0, d1, d2, d3⟩ := R.val
        refine bodyPost_ret (v := .agg #[.bool rb, .float .f64 rx, .int .i64 rn, .string rz]) (by simp [results, Tryd.results16, go_sem, d0, d1, d2, d3]) rfl ⟨by rw [HQ.out]; show _ = Ending.returned (ValL.v (afterL key noVal U.act)); rw [show afterL key noVal U.act = ⟨rb, rx, rn, rz⟩ from HRR.out]; rfl, G.bl.store4 (Nat.le_refl _) _ _ _ _⟩
theorem rvalue_any (key : ByteArray) (a : Option Addr) (n ca : Nat) (vs : List VerL) (w : World) (hkey : key.size ≤ 140737488351232) (hv : VA w a n vs) :
    Calls Tryd.prog 16 #[.string key, .slice a n ca] w fun e w' => e = .returned (ValL.v (valueL key vs)) ∧ Bl w w' := by
  unfold valueL
  cases h : regB key
  · exact rvalue_num key a n ca vs w hkey h hv
  · have h2 : hd key = 114 ∨ hd key = 116 := by simpa [regB] using h
    rcases h2 with h2 | h2
    · exact rvalue_r key a n ca vs w hkey h2 hv
    · exact rvalue_t key a n ca vs w hkey h2 hv
end Go.Proofs.YtgdlcoicejgdkaaDoor
