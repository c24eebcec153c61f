import Derived.Test.YtfjjnffifnohkaaGreatQLater
import Derived.Test.YtfjjnffifnohkaaGreatQFoldTellsUptoP30
import Derived.Test.YtfjjnffifnohkaaGreatQFoldTellsUptoP11
import Derived.Test.YtfjjnffifnohkaaGreatQR17Order
import Derived.Test.YtfjjnffifnohkaaGreatQFoldTellsUptoP24
import Derived.Test.YtfjjnffifnohkaaGreatQFoldTellsUptoP27

/- bedrockref5.Value. By an AI agent. -/
section
namespace Go.Proofs.YtfjjnffifnohkaaGreat
open Go.RowKit
attribute [local go_sem] eOp eOper eUpon

theorem key_num {key : ByteArray} {A : ActL} (hf : fitsB key A = true) (hr : regB key = false) : ∃ hp : 0 < key.size, ((key[0].toNat : Int) != 114) = true ∧ ((key[0].toNat : Int) != 116) = true := by
  have hp := key_pos (fits_key hf).1
  refine ⟨hp, ?_⟩
  have h := hd_get hp
  have h2 : hd key ≠ 114 ∧ hd key ≠ 116 := by simpa [regB] using hr
  rw [h]
  constructor <;> (simp; omega)

set_option maxHeartbeats 3200000 in
set_option maxRecDepth 100000 in
theorem rvalue_num (key : ByteArray) (a : Option Addr) (n ca : Nat) (vs : List VerL) (w : World) (hkey : key.size ≤ 140737488351232) (hreg : regB key = false) (hv : VA w a n vs) :
    Calls Tryz.prog 48 #[.string key, .slice a n ca] w fun e w' => e = .returned (ValL.v (outL key vs)) ∧ Bl w w' := by
  have hsf := store_float
  have HL := Lib.hid hv.len
  have HOK := Lib.hid hv.oks
  have hcap := hv.cap
  have HR := Lib.hid hreg
  clear hreg
  go_enter Tryz.func48, Tryz.ntmps48
  go_wp2_with fail
  have G0 := OV.new w 51 51
  go_loopw [6, 7] (fun p i wr => ∃ k : Nat, k ≤ n ∧ p = .int .i64 (-1) ∧ i = .int .i64 k ∧ OV w wr (outL key (vs.take k)).there (outL key (vs.take k)).x (outL key (vs.take k)).n (outL key (vs.take k)).s) (fun _ i _ => n - (intOf i).toNat)
  case atStart => exact ⟨0, Nat.zero_le _, rfl, rfl, G0⟩
  case round =>
    clear G0
    obtain ⟨k, hk, rfl, rfl, G⟩ := hrel
    by_cases hlt : k < n
    · obtain ⟨b, off, rfl, hc⟩ := hv.cells k hlt
      have E := (hc k hlt).keep G.bl
      clear hc
      have HS := Lib.hid (take_nthR (vs := vs) (k := k) (by rw [HL.out]; exact hlt))
      have HA := Lib.hid E.ok
      have HO := Lib.hid (outL_ok (key := key) (vs := vs.take k) (fun v hv => HOK.out v (List.mem_of_mem_take hv)))
      generalize hV : nthR vs k = V at *
      obtain ⟨O, hQ⟩ : ∃ O, outL key (vs.take k) = O := ⟨_, rfl⟩
      rw [hQ] at G HO
      have HQ := Lib.hid hQ
      clear hQ
      have e4 := E.c4
      have e5 := E.c5
      have e6 := E.c6
      have e7 := E.c7
      clear E
      obtain ⟨vk, va, vo, vt, ⟨k1, x1, n1, s1⟩⟩ := V
      obtain ⟨ob, ox, on, oz⟩ := O
      simp only at e4 e5 e6 e7
      obtain ⟨f, hf⟩ : ∃ f, fitsB key ⟨k1, x1, n1, s1⟩ = f := ⟨_, rfl⟩
      have HF := Lib.hid hf
      clear hf
      go_wp2_with fail
      refine (refFits_agg key k1 x1 n1 s1 f _ HF hkey HA).mono ?_
      rintro e w2 ⟨rfl, hb2⟩
      have G := G.keep hb2
      replace e4 := hb2.cell e4
      replace e5 := hb2.cell e5
      replace e6 := hb2.cell e6
      replace e7 := hb2.cell e7
      clear hb2
      cases f
      · have HN : Hid (afterL key ⟨ob, ox, on, oz⟩ ⟨k1, x1, n1, s1⟩ = ⟨ob, ox, on, oz⟩) := Lib.hid (by unfold afterL; rw [HF.out]; rfl)
        go_wp2_with fail
        go_roundw
        case rel => exact ⟨k + 1, by omega, rfl, by go_num, by rw [HS.out, outL_snoc]; show OV w w2 _ _ _ _; rw [HQ.out, HN.out]; exact G⟩
        case measure => simp [intOf]; omega
      · obtain ⟨hp, p1, p2⟩ := key_num HF.out HR.out
        obtain ⟨o0, o1, o2, o3⟩ := G.o.val
        go_wp2_with fail
        obtain ⟨wd, hwd⟩ : ∃ wd, wd = w2.drew := ⟨_, rfl⟩
        have G := G.keep (show Bl w2 wd by rw [hwd]; exact (Bl.refl w2).drew)
        go_still_tail 7, (by kernel_rfl)
        change wpList _ _ _ _ _ w2.drew
        rw [← hwd]
        clear hwd o0 o1 o2 o3 e4 e5 e6 e7
        obtain ⟨R, hR⟩ : ∃ R, afterL key ⟨ob, ox, on, oz⟩ ⟨k1, x1, n1, s1⟩ = R := ⟨_, rfl⟩
        obtain ⟨rb, rx, rn, rz⟩ := R
        have HRR := Lib.hid hR
        clear hR
        go_wp2_with fail
        refine (refAfter_agg key ob ox on oz k1 x1 n1 s1 rb rx rn rz _ HRR hkey HO HA).mono ?_
        rintro e w4 ⟨rfl, hb4⟩
        have G := G.keep hb4
        obtain ⟨o0, o1, o2, o3⟩ := G.o.val
        have f0 := G.o.frozen
        go_wp2_with fail
        go_roundw
        case rel => exact ⟨k + 1, by omega, rfl, by go_num, by rw [HS.out, outL_snoc]; show OV w _ _ _ _ _; rw [HQ.out, HRR.out]; exact G.set _ _ _ _⟩
        case measure => simp [intOf]; omega
    · have hE : vs.take k = vs := List.take_of_length_le (by have := HL.out; omega)
      rw [hE] at G
      have HO := Lib.hid (outL_ok (key := key) HOK.out)
      obtain ⟨O, hQ⟩ : ∃ O, outL key vs = O := ⟨_, rfl⟩
      rw [hQ] at G HO
      have HQ := Lib.hid hQ
      clear hQ
      obtain ⟨ob, ox, on, oz⟩ := O
      simp only at G
      obtain ⟨o0, o1, o2, o3⟩ := G.o.val
      obtain ⟨r0, r1, r2, r3⟩ := G.r.val
      have fr := G.r.frozen
      clear hE
      go_wp2_with fail
      have R := G.r.set4 (.bool ob) (.float .f64 ox) (.int .i64 on) (.string oz)
      obtain ⟨d0, d1, d2, d3⟩ := R.val
      refine bodyPost_ret (v := .agg #[.bool ob, .float .f64 ox, .int .i64 on, .string oz]) (by simp [results, Tryz.results48, go_sem, d0, d1, d2, d3]) rfl ⟨by rw [HQ.out]; rfl, G.bl.store4 (Nat.le_refl _) _ _ _ _⟩
/-- the place of the last version -/
def PI (n : Nat) (vs : List VerL) (last : Option VerL) (p : Value) : Prop :=
  match last with
  | none => p = .int .i64 (-1)
  | some u => ∃ j : Nat, j < n ∧ p = .int .i64 j ∧ nthR vs j = u
set_option maxHeartbeats 6400000 in
set_option maxRecDepth 100000 in
theorem rvalue_r (key : ByteArray) (a : Option Addr) (n ca : Nat) (vs : List VerL) (w : World) (hkey : key.size ≤ 140737488351232) (hreg : hd key = 114) (hv : VA w a n vs) :
    Calls Tryz.prog 48 #[.string key, .slice a n ca] w fun e w' => e = .returned (ValL.v (ofLast key (lastL key vs))) ∧ Bl w w' := by
  have hsf := store_float
  have HL := Lib.hid hv.len
  have hcap := hv.cap
  have HR := Lib.hid hreg
  clear hreg
  go_enter Tryz.func48, Tryz.ntmps48
  go_wp2_with fail
  have G0 := OV.new w 51 51
  go_loopw [6, 7] (fun p i wr => ∃ k : Nat, k ≤ n ∧ PI n vs (lastL key (vs.take k)) p ∧ i = .int .i64 k ∧ OV w wr false 0 0 ⟨#[]⟩) (fun _ i _ => n - (intOf i).toNat)
  case atStart => exact ⟨0, Nat.zero_le _, rfl, rfl, G0⟩
  case round =>
    clear G0
    obtain ⟨k, hk, hp, rfl, G⟩ := hrel
    obtain ⟨last, hQ⟩ : ∃ last, lastL key (vs.take k) = last := ⟨_, rfl⟩
    rw [hQ] at hp
    have HQ := Lib.hid hQ
    clear hQ
    by_cases hlt : k < n
    · obtain ⟨b, off, rfl, hc⟩ := hv.cells k hlt
      have E := (hc k hlt).keep G.bl
      have HC := Lib.hid hc
      clear hc
      have HS := Lib.hid (take_nthR (vs := vs) (k := k) (by rw [HL.out]; exact hlt))
      have HA := Lib.hid E.ok
      obtain ⟨V, hV⟩ : ∃ V, nthR vs k = V := ⟨_, rfl⟩
      rw [hV] at E HS HA
      have HV := Lib.hid hV
      clear hV
      have e4 := E.c4
      have e5 := E.c5
      have e6 := E.c6
      have e7 := E.c7
      obtain ⟨f, hf⟩ : ∃ f, fitsB key ⟨V.act.k, V.act.x, V.act.n, V.act.s⟩ = f := ⟨_, rfl⟩
      have HF := Lib.hid hf
      clear hf
      go_wp2_with fail
      refine (refFits_agg key V.act.k V.act.x V.act.n V.act.s f _ HF hkey HA).mono ?_
      rintro e w2 ⟨rfl, hb2⟩
      have G := G.keep hb2
      have E := E.keep hb2
      clear hb2 e4 e5 e6 e7
      cases f
      · have HN : Hid (stepL key last V = last) := Lib.hid (by unfold stepL; rw [show fitsB key V.act = false from HF.out]; rfl)
        go_wp2_with fail
        go_roundw
        case rel => exact ⟨k + 1, by omega, by rw [HS.out, lastL_snoc, HQ.out, HN.out]; exact hp, by go_num, G⟩
        case measure => simp [intOf]; omega
      · have hp0 := key_pos (fits_key HF.out).1
        have HH := hd_get hp0
        have z1 : ((key[0].toNat : Int) != 114) = false := by rw [HH, HR.out]; rfl
        clear HH
        cases last with
        | none =>
          have hp0 : u6 = .int .i64 (-1) := hp
          subst hp0
          have HN : Hid (stepL key none V = some V) := Lib.hid (by unfold stepL; rw [show fitsB key V.act = true from HF.out]; rfl)
          go_wp2_with fail
          refine wp_region_allS (by kernel_rfl) (by kernel_rfl) ?_
          have G1 := G.keep ((Bl.refl w2).drew)
          clear G E
          generalize w2.drew = W at *
          repeat (refine wpS_step (fun K hK => ?_); go_simp; refine hK _ ?_; clear hK K)
          refine wpS_nil ?_
          intro m
          have G2 := G1.keep m.bl
          generalize ExtC.at m = W9 at *
          go_wp2_with fail
          go_roundw
          case rel => exact ⟨k + 1, by omega, by rw [HS.out, lastL_snoc, HQ.out, HN.out]; exact ⟨k, hlt, rfl, HV.out⟩, by go_num, G2⟩
          case measure => simp [intOf]; omega
        | some U =>
          obtain ⟨j, hj, rfl, hU⟩ := hp
          have E2 := (HC.out j hj).keep G.bl
          rw [hU] at E2
          go_wp2_with fail
          refine wp_region_allS (by kernel_rfl) (by kernel_rfl) ?_
          have G1 := G.keep ((Bl.refl w2).drew)
          have E := E.keep ((Bl.refl w2).drew)
          have E2 := E2.keep ((Bl.refl w2).drew)
          clear G
          generalize w2.drew = W at *
          obtain ⟨va, vn, vc, v1, vI⟩ := E.at_
          obtain ⟨ua, un, uc, u1', uI⟩ := E2.at_
          obtain ⟨p0, p1, p2, p3, p4, p5, p6, p7⟩ := E.all v1
          obtain ⟨q0, q1, q2, q3, q4, q5, q6, q7⟩ := E2.all u1'
          clear E E2 v1 u1'
          by_cases hlt0 : orderL V U < 0
          · have HN : Hid (stepL key (some U) V = some V) := Lib.hid (by unfold stepL; rw [show fitsB key V.act = true from HF.out]; show (if orderL V U < 0 then _ else _) = _; rw [if_pos hlt0])
            have HO := Lib.hid (fun m : Ext W => later_any V U va ua vn un vc uc true m.at (vI.keep m.bl) (uI.keep m.bl) (Lib.hid (decide_eq_true hlt0)))
            repeat (refine wpS_step (fun K hK => ?_); go_simp; first | (refine hK _ ?_; clear hK K) | (apply Exists.intro; refine ⟨fun m => ?_, hK _ ?_⟩; (with_reducible exact HO.out m); clear hK K))
            clear p0 p1 p2 p3 p4 p5 p6 p7 q0 q1 q2 q3 q4 q5 q6 q7
            refine wpS_nil ?_
            intro m
            have G2 := G1.keep m.bl
            generalize ExtC.at m = W9 at *
            go_wp2_with fail
            go_roundw
            case rel => exact ⟨k + 1, by omega, by rw [HS.out, lastL_snoc, HQ.out, HN.out]; exact ⟨k, hlt, rfl, HV.out⟩, by go_num, G2⟩
            case measure => simp [intOf]; omega
          · have HN : Hid (stepL key (some U) V = some U) := Lib.hid (by unfold stepL; rw [show fitsB key V.act = true from HF.out]; show (if orderL V U < 0 then _ else _) = _; rw [if_neg hlt0])
            have HO := Lib.hid (fun m : Ext W => later_any V U va ua vn un vc uc false m.at (vI.keep m.bl) (uI.keep m.bl) (Lib.hid (decide_eq_false hlt0)))
            repeat (refine wpS_step (fun K hK => ?_); go_simp; first | (refine hK _ ?_; clear hK K) | (apply Exists.intro; refine ⟨fun m => ?_, hK _ ?_⟩; (with_reducible exact HO.out m); clear hK K))
            clear p0 p1 p2 p3 p4 p5 p6 p7 q0 q1 q2 q3 q4 q5 q6 q7
            refine wpS_nil ?_
            intro m
            have G2 := G1.keep m.bl
            generalize ExtC.at m = W9 at *
            go_wp2_with fail
            go_roundw
            case rel => exact ⟨k + 1, by omega, by rw [HS.out, lastL_snoc, HQ.out, HN.out]; exact ⟨j, hj, rfl, hU⟩, by go_num, G2⟩
            case measure => simp [intOf]; omega
    · have hE : vs.take k = vs := List.take_of_length_le (by have := HL.out; omega)
      rw [hE] at HQ
      clear hE
      cases last with
      | none =>
        have hp0 : u6 = .int .i64 (-1) := hp
        subst hp0
        obtain ⟨o0, o1, o2, o3⟩ := G.o.val
        obtain ⟨r0, r1, r2, r3⟩ := G.r.val
        have fr := G.r.frozen
        go_wp2_with fail
        have R := G.r.set4 (.bool false) (.float .f64 0) (.int .i64 0) (.string ⟨#[]⟩)
        obtain ⟨d0, d1, d2, d3⟩ := R.val
        refine bodyPost_ret (v := .agg #[.bool false, .float .f64 0, .int .i64 0, .string ⟨#[]⟩]) (by simp [results, Tryz.results48, go_sem, d0, d1, d2, d3]) rfl ⟨by rw [HQ.out]; rfl, G.bl.store4 (Nat.le_refl _) _ _ _ _⟩
      | some U =>
        obtain ⟨j, hj, rfl, hU⟩ := hp
        obtain ⟨b, off, rfl, hc⟩ := hv.cells j hj
        have E := (hc j hj).keep G.bl
        rw [hU] at E
        clear hc
        have HA := Lib.hid E.ok
        have e4 := E.c4
        have e5 := E.c5
        have e6 := E.c6
        have e7 := E.c7
        obtain ⟨R, hR⟩ : ∃ R, afterL key noVal U.act = R := ⟨_, rfl⟩
        obtain ⟨rb, rx, rn, rz⟩ := R
        have HRR : Hid (afterL key ⟨false, 0, 0, nilS⟩ ⟨U.act.k, U.act.x, U.act.n, U.act.s⟩ = ⟨rb, rx, rn, rz⟩) := Lib.hid hR
        clear hR
        go_wp2_with fail
        refine (refAfter_agg key false 0 0 nilS U.act.k U.act.x U.act.n U.act.s rb rx rn rz _ HRR hkey (Lib.hid noVal_ok) HA).mono ?_
        rintro e w4 ⟨rfl, hb4⟩
        have G := G.keep hb4
        clear e4 e5 e6 e7
        obtain ⟨r0, r1, r2, r3⟩ := G.r.val
        have fr := G.r.frozen
        go_wp2_with fail
        have R := G.r.set4 (.bool rb) (.float .f64 rx) (.int .i64 rn) (.string rz)
        obtain ⟨d0, d1, d2, d3⟩ := R.val
        refine bodyPost_ret (v := .agg #[.bool rb, .float .f64 rx, .int .i64 rn, .string rz]) (by simp [results, Tryz.results48, go_sem, d0, d1, d2, d3]) rfl ⟨by rw [HQ.out]; show _ = Ending.returned (ValL.v (afterL key noVal U.act)); rw [show afterL key noVal U.act = ⟨rb, rx, rn, rz⟩ from HRR.out]; rfl, G.bl.store4 (Nat.le_refl _) _ _ _ _⟩
set_option maxHeartbeats 6400000 in
set_option maxRecDepth 100000 in
theorem rvalue_t (key : ByteArray) (a : Option Addr) (n ca : Nat) (vs : List VerL) (w : World) (hkey : key.size ≤ 140737488351232) (hreg : hd key = 116) (hv : VA w a n vs) :
    Calls Tryz.prog 48 #[.string key, .slice a n ca] w fun e w' => e = .returned (ValL.v (ofLast key (lastL key vs))) ∧ Bl w w' := by
  have hsf := store_float
  have HL := Lib.hid hv.len
  have hcap := hv.cap
  have HR := Lib.hid hreg
  clear hreg
  go_enter Tryz.func48, Tryz.ntmps48
  go_wp2_with fail
  have G0 := OV.new w 51 51
  go_loopw [6, 7] (fun p i wr => ∃ k : Nat, k ≤ n ∧ PI n vs (lastL key (vs.take k)) p ∧ i = .int .i64 k ∧ OV w wr false 0 0 ⟨#[]⟩) (fun _ i _ => n - (intOf i).toNat)
  case atStart => exact ⟨0, Nat.zero_le _, rfl, rfl, G0⟩
  case round =>
    clear G0
    obtain ⟨k, hk, hp, rfl, G⟩ := hrel
    obtain ⟨last, hQ⟩ : ∃ last, lastL key (vs.take k) = last := ⟨_, rfl⟩
    rw [hQ] at hp
    have HQ := Lib.hid hQ
    clear hQ
    by_cases hlt : k < n
    · obtain ⟨b, off, rfl, hc⟩ := hv.cells k hlt
      have E := (hc k hlt).keep G.bl
      have HC := Lib.hid hc
      clear hc
      have HS := Lib.hid (take_nthR (vs := vs) (k := k) (by rw [HL.out]; exact hlt))
      have HA := Lib.hid E.ok
      obtain ⟨V, hV⟩ : ∃ V, nthR vs k = V := ⟨_, rfl⟩
      rw [hV] at E HS HA
      have HV := Lib.hid hV
      clear hV
      have e4 := E.c4
      have e5 := E.c5
      have e6 := E.c6
      have e7 := E.c7
      obtain ⟨f, hf⟩ : ∃ f, fitsB key ⟨V.act.k, V.act.x, V.act.n, V.act.s⟩ = f := ⟨_, rfl⟩
      have HF := Lib.hid hf
      clear hf
      go_wp2_with fail
      refine (refFits_agg key V.act.k V.act.x V.act.n V.act.s f _ HF hkey HA).mono ?_
      rintro e w2 ⟨rfl, hb2⟩
      have G := G.keep hb2
      have E := E.keep hb2
      clear hb2 e4 e5 e6 e7
      cases f
      · have HN : Hid (stepL key last V = last) := Lib.hid (by unfold stepL; rw [show fitsB key V.act = false from HF.out]; rfl)
        go_wp2_with fail
        go_roundw
        case rel => exact ⟨k + 1, by omega, by rw [HS.out, lastL_snoc, HQ.out, HN.out]; exact hp, by go_num, G⟩
        case measure => simp [intOf]; omega
      · have hp0 := key_pos (fits_key HF.out).1
        have HH := hd_get hp0
        have z1 : ((key[0].toNat : Int) != 114) = true := by rw [HH, HR.out]; rfl
        have z2 : ((key[0].toNat : Int) != 116) = false := by rw [HH, HR.out]; rfl
        clear HH
        cases last with
        | none =>
          have hp0 : u6 = .int .i64 (-1) := hp
          subst hp0
          have HN : Hid (stepL key none V = some V) := Lib.hid (by unfold stepL; rw [show fitsB key V.act = true from HF.out]; rfl)
          go_wp2_with fail
          refine wp_region_allS (by kernel_rfl) (by kernel_rfl) ?_
          have G1 := G.keep ((Bl.refl w2).drew)
          clear G E
          generalize w2.drew = W at *
          repeat (refine wpS_step (fun K hK => ?_); go_simp; refine hK _ ?_; clear hK K)
          refine wpS_nil ?_
          intro m
          have G2 := G1.keep m.bl
          generalize ExtC.at m = W9 at *
          go_wp2_with fail
          go_roundw
          case rel => exact ⟨k + 1, by omega, by rw [HS.out, lastL_snoc, HQ.out, HN.out]; exact ⟨k, hlt, rfl, HV.out⟩, by go_num, G2⟩
          case measure => simp [intOf]; omega
        | some U =>
          obtain ⟨j, hj, rfl, hU⟩ := hp
          have E2 := (HC.out j hj).keep G.bl
          rw [hU] at E2
          go_wp2_with fail
          refine wp_region_allS (by kernel_rfl) (by kernel_rfl) ?_
          have G1 := G.keep ((Bl.refl w2).drew)
          have E := E.keep ((Bl.refl w2).drew)
          have E2 := E2.keep ((Bl.refl w2).drew)
          clear G
          generalize w2.drew = W at *
          obtain ⟨va, vn, vc, v1, vI⟩ := E.at_
          obtain ⟨ua, un, uc, u1', uI⟩ := E2.at_
          obtain ⟨p0, p1, p2, p3, p4, p5, p6, p7⟩ := E.all v1
          obtain ⟨q0, q1, q2, q3, q4, q5, q6, q7⟩ := E2.all u1'
          clear E E2 v1 u1'
          by_cases hlt0 : orderL V U < 0
          · have HN : Hid (stepL key (some U) V = some V) := Lib.hid (by unfold stepL; rw [show fitsB key V.act = true from HF.out]; show (if orderL V U < 0 then _ else _) = _; rw [if_pos hlt0])
            have HO := Lib.hid (fun m : Ext W => later_any V U va ua vn un vc uc true m.at (vI.keep m.bl) (uI.keep m.bl) (Lib.hid (decide_eq_true hlt0)))
            repeat (refine wpS_step (fun K hK => ?_); go_simp; first | (refine hK _ ?_; clear hK K) | (apply Exists.intro; refine ⟨fun m => ?_, hK _ ?_⟩; (with_reducible exact HO.out m); clear hK K))
            clear p0 p1 p2 p3 p4 p5 p6 p7 q0 q1 q2 q3 q4 q5 q6 q7
            refine wpS_nil ?_
            intro m
            have G2 := G1.keep m.bl
            generalize ExtC.at m = W9 at *
            go_wp2_with fail
            go_roundw
            case rel => exact ⟨k + 1, by omega, by rw [HS.out, lastL_snoc, HQ.out, HN.out]; exact ⟨k, hlt, rfl, HV.out⟩, by go_num, G2⟩
            case measure => simp [intOf]; omega
          · have HN : Hid (stepL key (some U) V = some U) := Lib.hid (by unfold stepL; rw [show fitsB key V.act = true from HF.out]; show (if orderL V U < 0 then _ else _) = _; rw [if_neg hlt0])
            have HO := Lib.hid (fun m : Ext W => later_any V U va ua vn un vc uc false m.at (vI.keep m.bl) (uI.keep m.bl) (Lib.hid (decide_eq_false hlt0)))
            repeat (refine wpS_step (fun K hK => ?_); go_simp; first | (refine hK _ ?_; clear hK K) | (apply Exists.intro; refine ⟨fun m => ?_, hK _ ?_⟩; (with_reducible exact HO.out m); clear hK K))
            clear p0 p1 p2 p3 p4 p5 p6 p7 q0 q1 q2 q3 q4 q5 q6 q7
            refine wpS_nil ?_
            intro m
            have G2 := G1.keep m.bl
            generalize ExtC.at m = W9 at *
            go_wp2_with fail
            go_roundw
            case rel => exact ⟨k + 1, by omega, by rw [HS.out, lastL_snoc, HQ.out, HN.out]; exact ⟨j, hj, rfl, hU⟩, by go_num, G2⟩
            case measure => simp [intOf]; omega
    · have hE : vs.take k = vs := List.take_of_length_le (by have := HL.out; omega)
      rw [hE] at HQ
      clear hE
      cases last with
      | none =>
        have hp0 : u6 = .int .i64 (-1) := hp
        subst hp0
        obtain ⟨o0, o1, o2, o3⟩ := G.o.val
        obtain ⟨r0, r1, r2, r3⟩ := G.r.val
        have fr := G.r.frozen
        go_wp2_with fail
        have R := G.r.set4 (.bool false) (.float .f64 0) (.int .i64 0) (.string ⟨#[]⟩)
        obtain ⟨d0, d1, d2, d3⟩ := R.val
        refine bodyPost_ret (v := .agg #[.bool false, .float .f64 0, .int .i64 0, .string ⟨#[]⟩]) (by simp [results, Tryz.results48, go_sem, d0, d1, d2, d3]) rfl ⟨by rw [HQ.out]; rfl, G.bl.store4 (Nat.le_refl _) _ _ _ _⟩
      | some U =>
        obtain ⟨j, hj, rfl, hU⟩ := hp
        obtain ⟨b, off, rfl, hc⟩ := hv.cells j hj
        have E := (hc j hj).keep G.bl
        rw [hU] at E
        clear hc
        have HA := Lib.hid E.ok
        have e4 := E.c4
        have e5 := E.c5
        have e6 := E.c6
        have e7 := E.c7
        obtain ⟨R, hR⟩ : ∃ R, afterL key noVal U.act = R := ⟨_, rfl⟩
        obtain ⟨rb, rx, rn, rz⟩ := R
        have HRR : Hid (afterL key ⟨false, 0, 0, nilS⟩ ⟨U.act.k, U.act.x, U.act.n, U.act.s⟩ = ⟨rb, rx, rn, rz⟩) := Lib.hid hR
        clear hR
        go_wp2_with fail
        refine (refAfter_agg key false 0 0 nilS U.act.k U.act.x U.act.n U.act.s rb rx rn rz _ HRR hkey (Lib.hid noVal_ok) HA).mono ?_
        rintro e w4 ⟨rfl, hb4⟩
        have G := G.keep hb4
        clear e4 e5 e6 e7
        obtain ⟨r0, r1, r2, r3⟩ := G.r.val
        have fr := G.r.frozen
        go_wp2_with fail
        have R := G.r.set4 (.bool rb) (.float .f64 rx) (.int .i64 rn) (.string rz)
        obtain ⟨d0, d1, d2, d3⟩ := R.val
        refine bodyPost_ret (v := .agg #[.bool rb, .float .f64 rx, .int .i64 rn, .string rz]) (by simp [results, Tryz.results48, go_sem, d0, d1, d2, d3]) rfl ⟨by rw [HQ.out]; show _ = Ending.returned (ValL.v (afterL key noVal U.act)); rw [show afterL key noVal U.act = ⟨rb, rx, rn, rz⟩ from HRR.out]; rfl, G.bl.store4 (Nat.le_refl _) _ _ _ _⟩
theorem rvalue_any (key : ByteArray) (a : Option Addr) (n ca : Nat) (vs : List VerL) (w : World) (hkey : key.size ≤ 140737488351232) (hv : VA w a n vs) :
    Calls Tryz.prog 48 #[.string key, .slice a n ca] w fun e w' => e = .returned (ValL.v (valueL key vs)) ∧ Bl w w' := by
  unfold valueL
  cases h : regB key
  · exact rvalue_num key a n ca vs w hkey h hv
  · have h2 : hd key = 114 ∨ hd key = 116 := by simpa [regB] using h
    rcases h2 with h2 | h2
    · exact rvalue_r key a n ca vs w hkey h2 hv
    · exact rvalue_t key a n ca vs w hkey h2 hv
end Go.Proofs.YtfjjnffifnohkaaGreat
end

/- bedrockref17.Read (printed by gen/r17read.py). By an AI agent. -/
section
set_option linter.unusedVariables false
set_option linter.unusedSimpArgs false
namespace Go.Proofs.YtfjjnffifnohkaaGreat
open Go.RowKit
attribute [local go_sem] eOp eOper eUpon

set_option maxHeartbeats 3200000 in
set_option maxRecDepth 100000 in
theorem rread17_any (key : ByteArray) (a : Option Addr) (n ca : Nat) (vs : List VerL) (fa : Option Addr) (fn fc : Nat) (at_ : List Int) (w : World) (hkey : key.size ≤ 140737488351232) (hv : VA w a n vs) (hn1 : n ≤ 1000) (hf : IA w fa fn at_) :
    Calls Tryz.prog 15 #[.string key, .slice a n ca, .slice fa fn fc] w fun e w' => e = .returned (ValL.v (readL key vs at_)) ∧ Bl w w' := by
  have hsf := store_fl
  have hbx : Bl w (w.alloc (.cells #[.bool false, .float .f64 0, .int .i64 0, .string ⟨#[]⟩] 51)) := (Bl.refl w).alloc _
  have hac := AC.new w w.heap.size rfl [.bool false, .float .f64 0, .int .i64 0, .string ⟨#[]⟩] 51
  go_enter Tryz.func15, Tryz.ntmps15
  go_wp2_with fail
  refine (rorder17_any a n ca vs _ (hv.keep hbx) hn1).mono ?_
  rintro e W0 ⟨a0, m, c0, rfl, hv0, hmn0, hb0⟩
  have HW := Lib.hid (hbx.trans hb0)
  have HF := Lib.hid (hf.keep (hbx.trans hb0))
  have HAC := Lib.hid (hac.keep hb0)
  have hmn : m ≤ 1000 := by omega
  obtain ⟨os, hos⟩ : ∃ os, orderOf vs = os := ⟨_, rfl⟩
  rw [hos] at hv0
  have HOS := Lib.hid hos
  have HL := Lib.hid hv0.len
  clear hb0 hf hos hv hac hbx
  go_wp2_with fail
  go_loopw [7, 8] (fun sv iv wr => ∃ (k : Nat) (xs : List VC), k ≤ m ∧ xs.map VC.ver = (os.take k).filter (leqV at_) ∧ SV W0 wr sv xs ∧ Bl W0 wr ∧ iv = .int .i64 (k : Int)) (fun _ iv _ => m - (intOf iv).toNat)
  case atStart => exact ⟨0, [], Nat.zero_le _, by rw [List.take_zero]; rfl, SV.nil _ _, Bl.refl _, by go_num⟩
  case round =>
    obtain ⟨k, xs, hk, hm, hsv, hbw, rfl⟩ := hrel
    have HM := Lib.hid hm
    have HS := Lib.hid hsv
    have HB := Lib.hid hbw
    have hxl : xs.length ≤ k := by
      have h1 := congrArg List.length HM.out
      rw [List.length_map] at h1
      have h2 := List.length_filter_le (leqV at_) (os.take k)
      rw [List.length_take] at h2
      omega
    clear hm hsv hbw
    by_cases hlt : k < m
    · obtain ⟨b, off, rfl, hc⟩ := hv0.cells k hlt
      have E0 := hc k hlt
      have E := E0.keep HB.out
      have HT := Lib.hid (take_filter (leqV at_) os _ k (take_nthR (vs := os) (k := k) (by rw [HL.out]; exact hlt)))
      obtain ⟨V, hV⟩ : ∃ V, nthR os k = V := ⟨_, rfl⟩
      rw [hV] at E E0 HT
      clear hV hc
      have HA := Lib.hid E.ok
      obtain ⟨va, vn, vc, e1', hI⟩ := E0.at_
      have HE1 := Lib.hid e1'
      have e1 := HB.out.cell e1'
      have HI := Lib.hid hI
      have HE0 := Lib.hid E0
      clear hI E E0 e1'
      obtain ⟨r, hr⟩ : ∃ r, leqL V.at_ at_ = r := ⟨_, rfl⟩
      have HR := Lib.hid hr
      clear hr
      go_wp2_with fail
      clear e1
      refine (rleq_any va fa vn fn vc fc V.at_ at_ _ (HI.out.keep HB.out) (HF.out.keep HB.out)).mono ?_
      rintro e w2 ⟨rfl, hb2⟩
      rw [HR.out]
      have HSA := Lib.hid (HS.out.keep hb2)
      have HBA := Lib.hid (HB.out.trans hb2)
      clear HS HB hb2
      cases r
      case false =>
        have HN := Lib.hid (show (os.take (k + 1)).filter (leqV at_) = (os.take k).filter (leqV at_) by rw [HT.out, if_neg (by show ¬ leqL V.at_ at_ = true; rw [HR.out]; decide)])
        go_wp2_with fail
        go_roundw
        case rel => exact ⟨k + 1, xs, by omega, by rw [HN.out]; exact HM.out, HSA.out, HBA.out, by go_num⟩
        case measure => simp [intOf]; omega
      case true =>
        have HN := Lib.hid (show (os.take (k + 1)).filter (leqV at_) = (os.take k).filter (leqV at_) ++ [V] by rw [HT.out]; exact if_pos HR.out)
        have E := HE0.out.keep HBA.out
        have e0 := E.c0
        have e1 := HBA.out.cell HE1.out
        have e2 := E.c2
        have e3 := E.c3
        have e4 := E.c4
        have e5 := E.c5
        have e6 := E.c6
        have e7 := E.c7
        clear HT HR E
        have HSB := Lib.hid (HSA.out.keep ((Bl.refl w2).alloc (.cells #[.string V.key, .slice va vn vc, .int .i64 V.origin, .int .i64 V.tx, .int .i64 V.act.k, .float .f64 V.act.x, .int .i64 V.act.n, .string V.act.s] 59)))
        have HBB := Lib.hid (HBA.out.alloc (.cells #[.string V.key, .slice va vn vc, .int .i64 V.origin, .int .i64 V.tx, .int .i64 V.act.k, .float .f64 V.act.x, .int .i64 V.act.n, .string V.act.s] 59))
        have HLT := Lib.hid (SG.lit (heap_alloc_new w2 (.cells #[.string V.key, .slice va vn vc, .int .i64 V.origin, .int .i64 V.tx, .int .i64 V.act.k, .float .f64 V.act.x, .int .i64 V.act.n, .string V.act.s] 59)) (show [.string V.key, .slice va vn vc, .int .i64 V.origin, .int .i64 V.tx, .int .i64 V.act.k, .float .f64 V.act.x, .int .i64 V.act.n, .string V.act.s].length = 1 * 8 from rfl) (by simp [Value.oneCell']))
        go_wp2_with (at_builtin; refine wpList_appK rfl _ _ _ rfl el_vr W0.heap.size _ _ _ rfl HSB.out.own ?cB _ 1 1 _ rfl HLT.out ?cM ?cN ?_)
        case cB => exact HBB.out.size
        case cM => have := hxl; unfold maxLen; omega
        case cN => have := hxl; omega
        intro vq w3 ho3 hg3 hz1 hz2
        clear hz1 hz2
        have HS3 := Lib.hid (HSB.out.push (y := ⟨V.key, va, vn, vc, V.at_, V.origin, V.tx, V.act⟩) HI.out HA.out ho3)
        have HB3 := Lib.hid (HSB.out.grown HBB.out hg3)
        clear ho3 hg3 HSB HBB HLT HSA HBA e0 e1 e2 e3 e4 e5 e6 e7
        go_wp2_with fail
        go_roundw
        case rel => exact ⟨k + 1, xs ++ [⟨V.key, va, vn, vc, V.at_, V.origin, V.tx, V.act⟩], by omega, by rw [List.map_append, HM.out, HN.out]; rfl, HS3.out, HB3.out, by go_num⟩
        case measure => simp [intOf]; omega
    · have HO := Lib.hid (show xs.map VC.ver = os.filter (leqV at_) by rw [HM.out, List.take_of_length_le (by rw [HL.out]; omega)])
      obtain ⟨xn, hxn⟩ : ∃ xn, xs.length = xn := ⟨_, rfl⟩
      obtain ⟨sa, sc, rfl, hva⟩ := HS.out.va HB.out hxn (by omega)
      have HV := Lib.hid hva
      clear hva HM
      have HE := Lib.hid (show readL key vs at_ = valueL key (xs.map VC.ver) by unfold readL; rw [HOS.out, HO.out])
      have HACW := Lib.hid (HAC.out.keep HB.out)
      have HWW := Lib.hid (HW.out.trans HB.out)
      clear HS HO HAC HW HOS
      go_wp2_with fail
      refine (rvalue_any key sa xn sc _ wr hkey HV.out).mono ?_
      rintro e w2 ⟨rfl, hb2⟩
      have HAC2 := Lib.hid (HACW.out.keep hb2)
      have HB2 := Lib.hid (HWW.out.trans hb2)
      clear hb2 HACW HWW
      rw [← HE.out]
      obtain ⟨⟨rb, rx, rn, rz⟩, hr⟩ : ∃ r, readL key vs at_ = r := ⟨_, rfl⟩
      have HQ := Lib.hid hr
      rw [hr]
      clear hr HE HV
      unfold ValL.v
      have c0 := HAC2.out.cell 0 _ rfl
      have c1 := HAC2.out.cell 1 _ rfl
      have c2 := HAC2.out.cell 2 _ rfl
      have c3 := HAC2.out.cell 3 _ rfl
      have fz := HAC2.out.frozen
      go_wp2_with fail
      have E := (((HAC2.out.putj 0 (.bool rb)).putj 1 (.float .f64 rx)).putj 2 (.int .i64 rn)).putj 3 (.string rz)
      have d0 := E.cell 0 _ rfl
      have d1 := E.cell 1 _ rfl
      have d2 := E.cell 2 _ rfl
      have d3 := E.cell 3 _ rfl
      refine bodyPost_ret (v := .agg #[.bool rb, .float .f64 rx, .int .i64 rn, .string rz]) (by simp [results, Tryz.results15, go_sem, d0, d1, d2, d3]) rfl ⟨by rw [HQ.out]; rfl, ?_⟩
      exact (((HB2.out.setCell (p := ⟨w.heap.size, 0, none⟩) (Nat.le_refl _) _).setCell (p := ⟨w.heap.size, 1, none⟩) (Nat.le_refl _) _).setCell (p := ⟨w.heap.size, 2, none⟩) (Nat.le_refl _) _).setCell (p := ⟨w.heap.size, 3, none⟩) (Nat.le_refl _) _
end Go.Proofs.YtfjjnffifnohkaaGreat
end

/- fold.Drop: its answer owns its lists (FDrop's walk, with that). By an AI agent. -/
section
set_option linter.unusedVariables false
set_option linter.unusedSimpArgs false
namespace Go.Proofs.YtfjjnffifnohkaaGreat
open Go.RowKit
attribute [local go_sem] eOp eOper eUpon

theorem DR.ovx {W0 W : World} {B m c : Nat} {a : Option Addr} {zs : List VC} {sa : Option Addr} {xn sc : Nat} {ev : Value} {xs ys : List VC} (h : DR W0 W (.slice sa xn sc) ev xs ys) (ho : OVX B W0 a m c zs) (hs : xs.Sublist zs) (hn : xs.length = xn) (hB : B ≤ W0.heap.size) : OVX B W sa xn sc xs := by
  have hr := h.st.own
  rw [hn] at hr
  exact ⟨World.ownsRow.mono hr hB, hn, fun x hx => (ho.vec x (hs.subset hx)).keep h.bl, ho.ap.sublist hs, fun x hx => ho.ok x (hs.subset hx)⟩
set_option maxHeartbeats 3200000 in
set_option maxRecDepth 100000 in
theorem fdropO_any (key : ByteArray) (a : Option Addr) (n ca : Nat) (vs : List VerL) (fa : Option Addr) (fn fc : Nat) (floor : List Int) (all : Bool) (w : World) (hkey : key.size ≤ 140737488351232) (hv : VA w a n vs) (hn1 : n ≤ 900) (hf : IA w fa fn floor) :
    Calls Tryz.prog 9 #[.string key, .slice a n ca, .slice fa fn fc, .bool all] w fun e w' => ∃ a' m ca', e = .returned (.slice a' m ca') ∧ ∃ zs, OVX w.heap.size w' a' m ca' zs ∧ zs.map VC.ver = dropL key vs floor all ∧ m ≤ 1000 ∧ Bl w w' := by
  have hsf := store_fl
  go_enter Tryz.func9, Tryz.ntmps9
  go_wp2_with fail
  refine (fOrderO_any a n ca vs _ hv (by omega)).mono ?_
  rintro e W0 ⟨a0, m, c0, rfl, zs, hov, hzm, hmn0, hb0⟩
  have hv0 : VA W0 a0 m (orderOf vs) := hzm ▸ hov.va (by omega)
  have HOV := Lib.hid hov
  have HBS := Lib.hid hb0.size
  have HW := Lib.hid hb0
  have HF := Lib.hid (hf.keep hb0)
  have hmn : m ≤ 900 := by omega
  obtain ⟨os, hos⟩ : ∃ os, orderOf vs = os := ⟨_, rfl⟩
  rw [hos] at hv0 hzm
  have HZM := Lib.hid hzm
  have HD := Lib.hid (show dropL key vs floor all = dropO key os floor all by unfold dropL; rw [hos])
  have HL := Lib.hid hv0.len
  clear hb0 hf hos hv hov hzm
  obtain ⟨kb, hkb⟩ : ∃ kb, isKeyB key = kb := ⟨_, rfl⟩
  obtain ⟨fb, hfb⟩ : ∃ fb, validL floor = fb := ⟨_, rfl⟩
  have HKB := Lib.hid hkb
  have HFB := Lib.hid hfb
  clear hkb hfb
  go_wp2_with fail
  refine (isKey_any key _ hkey).mono ?_
  rintro e w1 ⟨rfl, rfl⟩
  rw [HKB.out]
  cases kb
  case false =>
    have HO := Lib.hid (show dropL key vs floor all = os by rw [HD.out]; unfold dropO; rw [HKB.out]; rfl)
    go_wp2_with fail
    go_ret
    exact ⟨a0, m, c0, rfl, zs, HOV.out, by rw [HO.out, HZM.out], by omega, HW.out⟩
  case true =>
  go_wp2_with fail
  refine (valid_any fa fn fc floor _ HF.out).mono ?_
  rintro e w1 ⟨rfl, rfl⟩
  rw [HFB.out]
  cases fb
  case false =>
    have HO := Lib.hid (show dropL key vs floor all = os by rw [HD.out]; unfold dropO; rw [HKB.out, HFB.out]; rfl)
    go_wp2_with fail
    go_ret
    exact ⟨a0, m, c0, rfl, zs, HOV.out, by rw [HO.out, HZM.out], by omega, HW.out⟩
  case true =>
  have HO := Lib.hid (show dropL key vs floor all = keptL key (stayL floor os) floor all (seenL key floor os) by rw [HD.out]; unfold dropO; rw [HKB.out, HFB.out]; rfl)
  go_wp2_with fail
  go_loopw [9, 10, 27] (fun sv ev iv wr => ∃ (k : Nat) (xs ys : List VC), k ≤ m ∧ xs.map VC.ver = stayL floor (os.take k) ∧ ys.map VC.ver = seenL key floor (os.take k) ∧ DR W0 wr sv ev xs ys ∧ xs.Sublist (zs.take k) ∧ iv = .int .i64 (k : Int)) (fun _ _ iv _ => m - (intOf iv).toNat)
  case atStart => exact ⟨0, [], [], Nat.zero_le _, by rw [List.take_zero]; rfl, by rw [List.take_zero]; rfl, DR.nil (Bl.refl _), List.nil_sublist _, by go_num⟩
  case round =>
    obtain ⟨k, xs, ys, hk, hm1, hm2, hdr, hsl, rfl⟩ := hrel
    have HSL := Lib.hid hsl
    have HM1 := Lib.hid hm1
    have HM2 := Lib.hid hm2
    have HR := Lib.hid hdr
    have hxl : xs.length ≤ k := by
      have h1 := congrArg List.length HM1.out
      rw [List.length_map] at h1
      have h2 := List.length_filter_le (fun v => !leqV floor v) (os.take k)
      rw [List.length_take] at h2
      unfold stayL at h1
      omega
    have hyl : ys.length ≤ k := by
      have h1 := congrArg List.length HM2.out
      rw [List.length_map] at h1
      have h2 := List.length_filter_le (fun v => leqV floor v && fitsB key v.act) (os.take k)
      rw [List.length_take] at h2
      unfold seenL at h1
      omega
    clear hm1 hm2 hdr hsl
    by_cases hlt : k < m
    · obtain ⟨b, off, rfl, hc⟩ := hv0.cells k hlt
      have E0 := hc k hlt
      have E := E0.keep HR.out.bl
      have HT1 := Lib.hid (take_filter (fun v => !leqV floor v) os _ k (take_nthR (vs := os) (k := k) (by rw [HL.out]; exact hlt)))
      have HT2 := Lib.hid (take_filter (fun v => leqV floor v && fitsB key v.act) os _ k (take_nthR (vs := os) (k := k) (by rw [HL.out]; exact hlt)))
      have hkz : k < zs.length := by rw [HOV.out.len]; exact hlt
      have hnz : nthR os k = (el zs k).ver := by
        rw [← HZM.out, nthR_eq (by rw [List.length_map]; exact hkz), List.getElem_map, el_eq hkz]
      have HTZ := Lib.hid (show zs.take (k + 1) = zs.take k ++ [el zs k] by rw [List.take_succ_eq_append_getElem hkz, el_eq hkz])
      have hvec := HOV.out.vec _ (el_mem hkz)
      have hokz := HOV.out.ok _ (el_mem hkz)
      obtain ⟨gz, hgz, hcz⟩ := HOV.out.cells (show k < m from hlt)
      have e1z := hcz k hlt 1 _ (by decide) rfl
      simp only [Option.some.injEq, Addr.mk.injEq] at hgz
      obtain ⟨rfl, hoff, -⟩ := hgz
      clear hcz
      obtain ⟨V, hV⟩ : ∃ V, nthR os k = V := ⟨_, rfl⟩
      rw [hV] at E E0 HT1 HT2
      rw [hV] at hnz
      obtain ⟨va, vn, vc, hzk⟩ : ∃ va vn vc, el zs k = ⟨V.key, va, vn, vc, V.at_, V.origin, V.tx, V.act⟩ := ⟨(el zs k).ad, (el zs k).n, (el zs k).ca, by rw [hnz]; rfl⟩
      rw [hzk] at HTZ e1z hvec
      clear hV hc hnz hzk hokz hkz
      have HA := Lib.hid E.ok
      have e1' : W0.cell? ⟨b, off + k * 8 + 1, none⟩ = some (.slice va vn vc) := by rw [hoff]; exact e1z
      clear hoff
      have hI : IA W0 va vn V.at_ := FI.iaE hvec
      have e1 := HR.out.bl.cell e1'
      have HI := Lib.hid hI
      have ba : Bl wr (wr.alloc (.cells #[.string V.key, .slice va vn vc, .int .i64 V.origin, .int .i64 V.tx, .int .i64 V.act.k, .float .f64 V.act.x, .int .i64 V.act.n, .string V.act.s] 59)) := (Bl.refl wr).alloc _
      have hx := AC.new wr wr.heap.size rfl [.string V.key, .slice va vn vc, .int .i64 V.origin, .int .i64 V.tx, .int .i64 V.act.k, .float .f64 V.act.x, .int .i64 V.act.n, .string V.act.s] 59
      have HVB := Lib.hid hx
      obtain ⟨v0, v1, v2, v3, v4, v5, v6, v7⟩ := AC.ver (key := V.key) (a := va) (n := vn) (ca := vc) (o := V.origin) (t := V.tx) (k := V.act.k) (x := V.act.x) (m := V.act.n) (s := V.act.s) hx
      have HIA := Lib.hid (hI.keep (HR.out.bl.trans ba))
      have HFA := Lib.hid (HF.out.keep (HR.out.bl.trans ba))
      have HDA := Lib.hid (HR.out.keep ba)
      clear hx ba
      have e0 := E.c0
      have e2 := E.c2
      have e3 := E.c3
      have e4 := E.c4
      have e5 := E.c5
      have e6 := E.c6
      have e7 := E.c7
      clear hI E E0 e1' e1z hvec HR
      obtain ⟨r, hr⟩ : ∃ r, leqL V.at_ floor = r := ⟨_, rfl⟩
      have HRR := Lib.hid hr
      clear hr
      go_wp2_with fail
      clear e0 e1 e2 e3 e4 e5 e6 e7
      refine (leq_any va fa vn fn vc fc V.at_ floor _ HIA.out HFA.out).mono ?_
      rintro e w2 ⟨rfl, rfl⟩
      rw [HRR.out]
      clear HIA HFA
      generalize wr.heap.size = gv at *
      generalize wr.alloc _ = wa at *
      cases r
      case false =>
        have HN1 := Lib.hid (show stayL floor (os.take (k + 1)) = stayL floor (os.take k) ++ [V] by unfold stayL; rw [HT1.out]; exact if_pos (by show (!leqL V.at_ floor) = true; rw [HRR.out]; rfl))
        have HN2 := Lib.hid (show seenL key floor (os.take (k + 1)) = seenL key floor (os.take k) by unfold seenL; rw [HT2.out]; exact if_neg (by show ¬ (leqL V.at_ floor && fitsB key V.act) = true; rw [HRR.out, Bool.false_and]; decide))
        clear HT1 HT2 HRR
        have HSB := Lib.hid (HDA.out.keep ((Bl.refl wa).alloc (.cells #[.string V.key, .slice va vn vc, .int .i64 V.origin, .int .i64 V.tx, .int .i64 V.act.k, .float .f64 V.act.x, .int .i64 V.act.n, .string V.act.s] 59)))
        have HLT := Lib.hid (SG.lit (heap_alloc_new wa (.cells #[.string V.key, .slice va vn vc, .int .i64 V.origin, .int .i64 V.tx, .int .i64 V.act.k, .float .f64 V.act.x, .int .i64 V.act.n, .string V.act.s] 59)) (show [.string V.key, .slice va vn vc, .int .i64 V.origin, .int .i64 V.tx, .int .i64 V.act.k, .float .f64 V.act.x, .int .i64 V.act.n, .string V.act.s].length = 1 * 8 from rfl) (by simp [Value.oneCell']))
        go_wp2_with (at_builtin; refine wpList_appK rfl _ _ _ rfl el_vr W0.heap.size _ _ _ rfl HSB.out.st.own HSB.out.bl.size _ 1 1 _ rfl HLT.out ?cM ?cN ?_)
        case cM => unfold maxLen; omega
        case cN => omega
        intro vq w3 ho3 hg3 hz1 hz2
        have HS3 := Lib.hid (HSB.out.push1 (y := ⟨V.key, va, vn, vc, V.at_, V.origin, V.tx, V.act⟩) HI.out HA.out ho3 hg3 (by intro b e; have := hz2 b e; simpa using this))
        clear hz1 hz2 ho3 hg3 HSB HLT HDA v0 v1 v2 v3 v4 v5 v6 v7
        go_wp2_with fail
        go_roundw
        case rel => exact ⟨k + 1, xs ++ [⟨V.key, va, vn, vc, V.at_, V.origin, V.tx, V.act⟩], ys, by omega, by rw [List.map_append, HM1.out, HN1.out]; rfl, by rw [HM2.out, HN2.out], HS3.out, by rw [HTZ.out]; exact HSL.out.append (List.Sublist.refl _), by go_num⟩
        case measure => simp [intOf]; omega
      case true =>
        have HN1 := Lib.hid (show stayL floor (os.take (k + 1)) = stayL floor (os.take k) by unfold stayL; rw [HT1.out]; exact if_neg (by show ¬ (!leqL V.at_ floor) = true; rw [HRR.out]; decide))
        obtain ⟨ff, hff⟩ : ∃ ff, fitsB key ⟨V.act.k, V.act.x, V.act.n, V.act.s⟩ = ff := ⟨_, rfl⟩
        have HFF := Lib.hid hff
        clear hff
        go_wp2_with fail
        refine (fits_agg key V.act.k V.act.x V.act.n V.act.s ff _ HFF hkey HA).mono ?_
        rintro e w2 ⟨rfl, hb2⟩
        have HDB := Lib.hid (HDA.out.keep hb2)
        have HVB2 := Lib.hid (HVB.out.keep hb2)
        clear hb2 HDA HVB v0 v1 v2 v3 v4 v5 v6 v7
        obtain ⟨v0, v1, v2, v3, v4, v5, v6, v7⟩ := AC.ver (key := V.key) (a := va) (n := vn) (ca := vc) (o := V.origin) (t := V.tx) (k := V.act.k) (x := V.act.x) (m := V.act.n) (s := V.act.s) HVB2.out
        cases ff
        case false =>
          have HN2 := Lib.hid (show seenL key floor (os.take (k + 1)) = seenL key floor (os.take k) by unfold seenL; rw [HT2.out]; exact if_neg (by show ¬ (leqL V.at_ floor && fitsB key V.act) = true; rw [HRR.out, show fitsB key V.act = false from HFF.out]; decide))
          go_wp2_with fail
          go_roundw
          case rel => exact ⟨k + 1, xs, ys, by omega, by rw [HM1.out, HN1.out], by rw [HM2.out, HN2.out], HDB.out, by rw [HTZ.out]; exact HSL.out.trans (List.sublist_append_left _ _), by go_num⟩
          case measure => simp [intOf]; omega
        case true =>
          have HN2 := Lib.hid (show seenL key floor (os.take (k + 1)) = seenL key floor (os.take k) ++ [V] by unfold seenL; rw [HT2.out]; exact if_pos (by show (leqL V.at_ floor && fitsB key V.act) = true; rw [HRR.out, show fitsB key V.act = true from HFF.out]; rfl))
          clear HT1 HT2 HRR HFF
          have HSB := Lib.hid (HDB.out.keep ((Bl.refl w2).alloc (.cells #[.string V.key, .slice va vn vc, .int .i64 V.origin, .int .i64 V.tx, .int .i64 V.act.k, .float .f64 V.act.x, .int .i64 V.act.n, .string V.act.s] 59)))
          have HLT := Lib.hid (SG.lit (heap_alloc_new w2 (.cells #[.string V.key, .slice va vn vc, .int .i64 V.origin, .int .i64 V.tx, .int .i64 V.act.k, .float .f64 V.act.x, .int .i64 V.act.n, .string V.act.s] 59)) (show [.string V.key, .slice va vn vc, .int .i64 V.origin, .int .i64 V.tx, .int .i64 V.act.k, .float .f64 V.act.x, .int .i64 V.act.n, .string V.act.s].length = 1 * 8 from rfl) (by simp [Value.oneCell']))
          go_wp2_with (at_builtin; refine wpList_appK rfl _ _ _ rfl el_vr W0.heap.size _ _ _ rfl HSB.out.se.own HSB.out.bl.size _ 1 1 _ rfl HLT.out ?cM ?cN ?_)
          case cM => unfold maxLen; omega
          case cN => omega
          intro vq w3 ho3 hg3 hz1 hz2
          have HS3 := Lib.hid (HSB.out.push2 (y := ⟨V.key, va, vn, vc, V.at_, V.origin, V.tx, V.act⟩) HI.out HA.out ho3 hg3 (by intro b e; have := hz2 b e; simpa using this))
          clear hz1 hz2 ho3 hg3 HSB HLT HDB v0 v1 v2 v3 v4 v5 v6 v7
          go_wp2_with fail
          go_roundw
          case rel => exact ⟨k + 1, xs, ys ++ [⟨V.key, va, vn, vc, V.at_, V.origin, V.tx, V.act⟩], by omega, by rw [HM1.out, HN1.out], by rw [List.map_append, HM2.out, HN2.out]; rfl, HS3.out, by rw [HTZ.out]; exact HSL.out.trans (List.sublist_append_left _ _), by go_num⟩
          case measure => simp [intOf]; omega
    · have HSUB := Lib.hid (show xs.Sublist zs from HSL.out.trans (List.take_sublist _ _))
      have HX := Lib.hid (show xs.map VC.ver = stayL floor os by rw [HM1.out, List.take_of_length_le (by rw [HL.out]; omega)])
      have HY := Lib.hid (show ys.map VC.ver = seenL key floor os by rw [HM2.out, List.take_of_length_le (by rw [HL.out]; omega)])
      obtain ⟨xn, hxn⟩ : ∃ xn, xs.length = xn := ⟨_, rfl⟩
      obtain ⟨yn, hyn⟩ : ∃ yn, ys.length = yn := ⟨_, rfl⟩
      have hxb : xn ≤ 900 := by omega
      have hyb : yn ≤ 900 := by omega
      obtain ⟨sa, sc, rfl, hva⟩ := HR.out.st.va HR.out.bl hxn (by omega)
      have HSO := Lib.hid (DR.ovx HR.out HOV.out HSUB.out hxn HBS.out)
      obtain ⟨ea, ec, rfl, hvb⟩ := HR.out.se.va HR.out.bl hyn (by omega)
      have HVA := Lib.hid (show VA wr sa xn (stayL floor os) from HX.out ▸ hva)
      have HVB := Lib.hid (show VA wr ea yn (seenL key floor os) from HY.out ▸ hvb)
      have HXN := Lib.hid hxn
      have HYN := Lib.hid hyn
      have HWR := Lib.hid (HW.out.trans HR.out.bl)
      have HFR := Lib.hid (HF.out.keep HR.out.bl)
      clear hva hvb hxn hyn HM1 HM2 hxl hyl
      have HSUM := Lib.hid (show (stayL floor os).length + (seenL key floor os).length ≤ 1000 by have := parts_len key floor os; have := HL.out; omega)
      obtain ⟨stay, hst⟩ : ∃ stay, stayL floor os = stay := ⟨_, rfl⟩
      obtain ⟨seen, hse⟩ : ∃ seen, seenL key floor os = seen := ⟨_, rfl⟩
      rw [hst] at HVA HX
      rw [hse] at HVB HY
      rw [hst, hse] at HO HSUM
      clear hst hse
      by_cases hy0 : yn = 0
      · subst hy0
        have HE := Lib.hid (show dropL key vs floor all = stay by rw [HO.out, List.eq_nil_of_length_eq_zero HVB.out.len]; rfl)
        go_wp2_with fail
        go_ret
        exact ⟨sa, xn, sc, rfl, xs, HSO.out, by rw [HE.out]; exact HX.out, by omega, HWR.out⟩
      · have q0 : ((yn : Int) == 0) = false := by rw [beq_eq_false_iff_ne]; omega
        obtain ⟨first, rest, hfr⟩ : ∃ first rest, seen = first :: rest := by
          cases hs : seen with
          | nil => have := HVB.out.len; rw [hs] at this; simp at this; omega
          | cons f r => exact ⟨f, r, rfl⟩
        have HFIRST := Lib.hid hfr
        clear hfr
        obtain ⟨rb, hrb⟩ : ∃ rb, regB key = rb := ⟨_, rfl⟩
        have HRB := Lib.hid hrb
        clear hrb
        go_wp2_with fail
        refine (fregs_any key _ (key_pos HKB.out)).mono ?_
        rintro e w1 ⟨rfl, rfl⟩
        rw [HRB.out]
        cases rb
        case true =>
          have hfn : 0 < fn := by
            have h1 := HFB.out
            have h2 := HFR.out.len
            cases hq : floor with
            | nil => rw [hq] at h1; exact absurd h1 (by decide)
            | cons x l => rw [hq] at h2; simp at h2; omega
          have hcap := HR.out.se.cap
          go_wp2_with fail
          refine (flast_any sa xn sc stay ea yn ec seen fa fn fc floor all first rest _ HVA.out HVB.out HFR.out hfn HFIRST.out hcap).mono ?_
          rintro e w2 ⟨rfl, hb2⟩
          obtain ⟨ka, kn, kc, kl, hk1, hk2, hk3, hk4⟩ : ∃ (ka : Option Addr) (kn kc : Nat) (kl : List VerL), (if goneL stay first floor all then Value.slice none 0 0 else .slice ea 1 ec) = .slice ka kn kc ∧ VA wr ka kn kl ∧ kl = (if goneL stay first floor all then [] else [first]) ∧ kn ≤ 1 := by
            by_cases hg : goneL stay first floor all = true
            · exact ⟨none, 0, 0, [], by rw [if_pos hg], ⟨rfl, by omega, fun j hj => absurd hj (Nat.not_lt_zero _)⟩, by rw [if_pos hg], by omega⟩
            · exact ⟨ea, 1, ec, [first], by rw [if_neg hg], (HFIRST.out ▸ HVB.out).first, by rw [if_neg hg], by omega⟩
          rw [hk1]
          have HE := Lib.hid (show dropL key vs floor all = orderOf (stay ++ kl) by rw [HO.out, HFIRST.out, kept_reg HRB.out, hk3])
          have ba : Bl w2 (w2.alloc (.cells #[.slice sa xn sc, .slice ka kn kc] 22)) := (Bl.refl w2).alloc _
          have HK := Lib.hid (hk2.keep (hb2.trans ba))
          have HS := Lib.hid (HVA.out.keep (hb2.trans ba))
          have HH := Lib.hid (AC.new w2 w2.heap.size rfl [.slice sa xn sc, .slice ka kn kc] 22)
          have HB2 := Lib.hid (HWR.out.trans (hb2.trans ba))
          clear hk1 hk2 hk3 hb2 ba
          go_wp2_with fail
          refine (concat_any w2.heap.size sa ka xn sc kn kc stay kl _ HH.out HS.out HK.out (by omega) (by omega)).mono ?_
          rintro e w3 ⟨x3, c3, rfl, hv3, hb3⟩
          have HV3 := Lib.hid hv3
          have HB3 := Lib.hid (HB2.out.trans hb3)
          obtain ⟨n3, hn3⟩ : ∃ n3, xn + kn = n3 := ⟨_, rfl⟩
          rw [hn3] at HV3
          rw [hn3]
          have hn3b : n3 ≤ 1000 := by omega
          clear hv3 hb3 hn3
          go_wp2_with fail
          refine (fOrderO_any x3 n3 c3 (stay ++ kl) _ HV3.out hn3b).mono ?_
          rintro e w4 ⟨x4, n4, c4, rfl, zs4, hv4, hz4, hm4, hb4⟩
          have HV4 := Lib.hid (hv4.wider HB3.out.size)
          have HZ4 := Lib.hid hz4
          have HB4 := Lib.hid (HB3.out.trans hb4)
          clear hv4 hb4 hz4
          go_wp2_with fail
          go_ret
          exact ⟨x4, n4, c4, rfl, zs4, HV4.out, by rw [HE.out]; exact HZ4.out, by omega, HB4.out⟩
        case false =>
          cases all
          case false =>
            have HE := Lib.hid (show dropL key vs floor false = orderOf (stay ++ seen) by rw [HO.out, HFIRST.out, kept_all HRB.out (.inl rfl)])
            have ba : Bl wr (wr.alloc (.cells #[.slice sa xn sc, .slice ea yn ec] 22)) := (Bl.refl wr).alloc _
            have HK := Lib.hid (HVB.out.keep ba)
            have HS := Lib.hid (HVA.out.keep ba)
            have HH := Lib.hid (AC.new wr wr.heap.size rfl [.slice sa xn sc, .slice ea yn ec] 22)
            have HB2 := Lib.hid (HWR.out.trans ba)
            clear ba
            go_wp2_with fail
            refine (concat_any wr.heap.size sa ea xn sc yn ec stay seen _ HH.out HS.out HK.out (by omega) (by omega)).mono ?_
            rintro e w3 ⟨x3, c3, rfl, hv3, hb3⟩
            have HV3 := Lib.hid hv3
            have HB3 := Lib.hid (HB2.out.trans hb3)
            have hsum : xn + yn ≤ 1000 := by
              have h1 := HXN.out
              have h2 := HYN.out
              have h3 := congrArg List.length HX.out
              have h4 := congrArg List.length HY.out
              rw [List.length_map] at h3 h4
              have h5 := HSUM.out
              omega
            obtain ⟨n3, hn3⟩ : ∃ n3, xn + yn = n3 := ⟨_, rfl⟩
            rw [hn3] at HV3
            rw [hn3]
            have hn3b : n3 ≤ 1000 := by omega
            clear hv3 hb3 hn3
            go_wp2_with fail
            refine (fOrderO_any x3 n3 c3 (stay ++ seen) _ HV3.out hn3b).mono ?_
            rintro e w4 ⟨x4, n4, c4, rfl, zs4, hv4, hz4, hm4, hb4⟩
            have HV4 := Lib.hid (hv4.wider HB3.out.size)
            have HZ4 := Lib.hid hz4
            have HB4 := Lib.hid (HB3.out.trans hb4)
            clear hv4 hb4 hz4
            go_wp2_with fail
            go_ret
            exact ⟨x4, n4, c4, rfl, zs4, HV4.out, by rw [HE.out]; exact HZ4.out, by omega, HB4.out⟩
          case true =>
            by_cases h2 : 2 ≤ yn
            · have q1 : decide ((1 : Int) < (yn : Int)) = true := decide_eq_true (by omega)
              have q1n : decide (1 < yn) = true := decide_eq_true (by omega)
              have HE := Lib.hid (show dropL key vs floor true = stay ++ [oneL key seen.reverse] by
                rw [HO.out, HFIRST.out]
                exact kept_one HRB.out (fun q => by have := HVB.out.len; rw [HFIRST.out, q] at this; simp at this; omega))
              go_wp2_with fail
              refine (fone_any key ea yn ec seen _ hkey HVB.out (by omega) h2).mono ?_
              rintro e w2 ⟨y, rfl, hy1, hy2, hy3, hb2⟩
              have HY1 := Lib.hid hy1
              have HY2 := Lib.hid hy2
              have HSA := Lib.hid (HR.out.st.keep hb2)
              have HBA := Lib.hid (HR.out.bl.trans hb2)
              have HW2 := Lib.hid (HWR.out.trans hb2)
              have HYF := Lib.hid hy3
              clear hy1 hy2 hy3 hb2
              have HSB := Lib.hid (HSA.out.keep ((Bl.refl w2).alloc (.cells #[.string y.key, .slice y.ad y.n y.ca, .int .i64 y.origin, .int .i64 y.tx, .int .i64 y.act.k, .float .f64 y.act.x, .int .i64 y.act.n, .string y.act.s] 59)))
              have HYG := Lib.hid (HYF.out.keep ((Bl.refl w2).alloc (.cells #[.string y.key, .slice y.ad y.n y.ca, .int .i64 y.origin, .int .i64 y.tx, .int .i64 y.act.k, .float .f64 y.act.x, .int .i64 y.act.n, .string y.act.s] 59)))
              have HBB := Lib.hid (HBA.out.alloc (.cells #[.string y.key, .slice y.ad y.n y.ca, .int .i64 y.origin, .int .i64 y.tx, .int .i64 y.act.k, .float .f64 y.act.x, .int .i64 y.act.n, .string y.act.s] 59))
              have HLT := Lib.hid (SG.lit (heap_alloc_new w2 (.cells #[.string y.key, .slice y.ad y.n y.ca, .int .i64 y.origin, .int .i64 y.tx, .int .i64 y.act.k, .float .f64 y.act.x, .int .i64 y.act.n, .string y.act.s] 59)) (show [.string y.key, .slice y.ad y.n y.ca, .int .i64 y.origin, .int .i64 y.tx, .int .i64 y.act.k, .float .f64 y.act.x, .int .i64 y.act.n, .string y.act.s].length = 1 * 8 from rfl) (by simp [Value.oneCell']))
              go_wp2_with (at_builtin; refine wpList_appK rfl _ _ _ rfl el_vr W0.heap.size _ _ _ rfl HSB.out.own HBB.out.size _ 1 1 _ rfl HLT.out ?cM ?cN ?_)
              case cM => have := HXN.out; unfold maxLen; omega
              case cN => have := HXN.out; omega
              intro vq w3 ho3 hg3 hz1 hz2
              have HY3 := FI.fr HYG.out ((Fr.refl (fun b => (Value.slice sa xn sc).ownBlock = some b) _).grown hg3 (fun i e => e)) (fun b q e => apart_typ HSB.out.own HYG.out e q)
              have HB3 := HSB.out.grown HBB.out hg3
              have ho4 : OVS W0.heap.size w3 vq (xn + 1) (flat (xs ++ [y])) := by rw [flat_append, flat_one, ← HXN.out]; exact ho3
              obtain ⟨x4, c4, rfl, -, -, -⟩ := OVS.cells ho4 (by omega)
              have HV4 : Hid (OVX w.heap.size w3 (some ⟨x4, 0, none⟩) (xn + 1) c4 (xs ++ [y])) := Lib.hid ⟨World.ownsRow.mono ho4 HBS.out, by rw [List.length_append, HXN.out]; rfl, fun z hz => by
                rcases List.mem_append.1 hz with q | q
                · exact ((HOV.out.vec z (HSUB.out.subset q)).keep HB3)
                · rw [List.mem_singleton] at q; subst q; exact HY3.mono0 (Nat.le_trans HBS.out HR.out.bl.size), by
                rw [List.pairwise_append]
                refine ⟨HOV.out.ap.sublist HSUB.out, List.pairwise_singleton _ _, fun z hz q hq => ?_⟩
                rw [List.mem_singleton] at hq
                subst hq
                intro bb e1 e2
                have l1 := (World.ownsRow.lt (show W0.ownsRow _ _ _ _ _ _ from (HOV.out.vec z (HSUB.out.subset hz)).own) bb e1).2
                have l2 := (World.ownsRow.lt (show w3.ownsRow _ _ _ _ _ _ from HY3.own) bb e2).1
                have l3 := HR.out.bl.size
                omega, fun z hz => by
                rcases List.mem_append.1 hz with q | q
                · exact HOV.out.ok z (HSUB.out.subset q)
                · rw [List.mem_singleton] at q; subst q; exact HY2.out⟩
              have HZ4 := Lib.hid (show (xs ++ [y]).map VC.ver = stay ++ [oneL key seen.reverse] by rw [List.map_append, HX.out, ← HY1.out]; rfl)
              have HB4 := Lib.hid (HW.out.trans HB3)
              clear hz1 hz2 ho3 ho4 hg3 HY3 HB3 HLT HSB HSA
              go_wp2_with fail
              go_ret
              exact ⟨some ⟨x4, 0, none⟩, xn + 1, c4, rfl, xs ++ [y], HV4.out, by rw [HE.out]; exact HZ4.out, by omega, HB4.out⟩
            · have q1 : decide ((1 : Int) < (yn : Int)) = false := decide_eq_false (by omega)
              have q1n : decide (1 < yn) = false := decide_eq_false (by omega)
              have HE := Lib.hid (show dropL key vs floor true = orderOf (stay ++ seen) by rw [HO.out, HFIRST.out, kept_all HRB.out (.inr (by have := HVB.out.len; rw [HFIRST.out] at this; simp at this; exact List.eq_nil_of_length_eq_zero (by omega)))])
              have ba : Bl wr (wr.alloc (.cells #[.slice sa xn sc, .slice ea yn ec] 22)) := (Bl.refl wr).alloc _
              have HK := Lib.hid (HVB.out.keep ba)
              have HS := Lib.hid (HVA.out.keep ba)
              have HH := Lib.hid (AC.new wr wr.heap.size rfl [.slice sa xn sc, .slice ea yn ec] 22)
              have HB2 := Lib.hid (HWR.out.trans ba)
              clear ba
              go_wp2_with fail
              refine (concat_any wr.heap.size sa ea xn sc yn ec stay seen _ HH.out HS.out HK.out (by omega) (by omega)).mono ?_
              rintro e w3 ⟨x3, c3, rfl, hv3, hb3⟩
              have HV3 := Lib.hid hv3
              have HB3 := Lib.hid (HB2.out.trans hb3)
              have hsum : xn + yn ≤ 1000 := by
                have h1 := HXN.out
                have h2 := HYN.out
                have h3 := congrArg List.length HX.out
                have h4 := congrArg List.length HY.out
                rw [List.length_map] at h3 h4
                have h5 := HSUM.out
                omega
              obtain ⟨n3, hn3⟩ : ∃ n3, xn + yn = n3 := ⟨_, rfl⟩
              rw [hn3] at HV3
              rw [hn3]
              have hn3b : n3 ≤ 1000 := by omega
              clear hv3 hb3 hn3
              go_wp2_with fail
              refine (fOrderO_any x3 n3 c3 (stay ++ seen) _ HV3.out hn3b).mono ?_
              rintro e w4 ⟨x4, n4, c4, rfl, zs4, hv4, hz4, hm4, hb4⟩
              have HV4 := Lib.hid (hv4.wider HB3.out.size)
              have HZ4 := Lib.hid hz4
              have HB4 := Lib.hid (HB3.out.trans hb4)
              clear hv4 hb4 hz4
              go_wp2_with fail
              go_ret
              exact ⟨x4, n4, c4, rfl, zs4, HV4.out, by rw [HE.out]; exact HZ4.out, by omega, HB4.out⟩
end Go.Proofs.YtfjjnffifnohkaaGreat
end
