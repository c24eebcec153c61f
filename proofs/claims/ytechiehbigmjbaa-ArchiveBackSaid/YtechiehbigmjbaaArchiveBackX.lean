/- the walk of ArchiveBack (printed by wip/gen/arcback.py). By an AI agent. -/
import Derived.Test.YtechiehbigmjbaaArc9
import Derived.Test.YtechiehbigmjbaaOpenArc
import Derived.Test.YtechiehbigmjbaaByteRow
set_option linter.unusedVariables false
set_option linter.unusedSimpArgs false
namespace Go.Proofs.Ytechiehbigmjbaa
open Go.RowKit
attribute [local go_sem] eOp eOper eUpon

theorem lightB_few {ps : List (ByteArray × ValL)} {pn : Nat} (hl : ps.length = pn) (h : wSum ps pn < 60000) : pn ≤ 2000 := by
  have := wSum_ge ps
  rw [hl] at this
  omega
theorem wr_bad {a : ArcL} (h : wrC a ≠ 0) : wrL a = [] := by
  unfold wrC at h
  unfold wrL
  cases hv : validArc a
  · rfl
  · rw [hv] at h
    simp only [if_true] at h ⊢
    unfold outC at h
    unfold outL
    split at h
    · exact absurd rfl h
    · rename_i q; rw [if_neg q]
theorem putArc_long {a : ArcL} (h : ArcParts a) : 25 ≤ (putArc a).length := by
  have h1 := (valid_parts h.at_).1
  unfold putArc
  rw [sealL_len]
  unfold bodyArc headArc
  simp only [List.length_append, numB_len, putL_len]
  rw [show beginL.length = 8 from rfl]
  omega
theorem rd_cut {a : ArcL} (hv : validArc a = true) (ok : ArcOk a) {K : Nat} (hK : K < (putArc a).length) : rdArc ((putArc a).take K) = none := by
  cases h : rdArc ((putArc a).take K) with
  | none => rfl
  | some b =>
    obtain ⟨h1, h2, h3⟩ := rdArc_back h
    have e : putArc a = putArc b ++ (putArc a).drop K := by rw [h3, List.take_append_drop]
    have := congrArg List.length (arc_prefix h1 h2 hv ok e)
    rw [List.length_drop] at this
    simp at this
    omega
theorem rd_more {a : ArcL} (hv : validArc a = true) (ok : ArcOk a) {m : List UInt8} (hm : m ≠ []) : rdArc (putArc a ++ m) = none := by
  cases h : rdArc (putArc a ++ m) with
  | none => rfl
  | some b =>
    obtain ⟨h1, h2, h3⟩ := rdArc_back h
    exact absurd (arc_prefix hv ok h1 h2 h3) hm
theorem rd_changed {a : ArcL} {K : Nat} {c : UInt8} (hK : K < (putArc a).length) (hc : c ≠ (putArc a)[K]) : rdArc ((putArc a).set K c) = none := by
  cases h : rdArc ((putArc a).set K c) with
  | none => rfl
  | some b =>
    obtain ⟨h1, h2, h3⟩ := rdArc_back h
    exact absurd (arc_changed hK h3) hc
theorem canon_same {a : ArcL} (h : ArcParts a) (ok : ArcOk a) {n : Nat} (hn : a.pairs.length = n) : ∀ j, j < n → (nthQ (canonArc a).pairs j).1 = (nthQ a.pairs j).1 ∧ sameV (nthQ (canonArc a).pairs j).2 (nthQ a.pairs j).2 = true ∧ (nthQ (canonArc a).pairs j).2.Ok ∧ (nthQ a.pairs j).2.Ok := fun j hj => by
  have hj2 : j < a.pairs.length := by omega
  have hm := nthQ_mem hj2
  have c := canonP_ok (h.pair hm) (ok _ hm).2
  have e : nthQ (canonArc a).pairs j = canonP (nthQ a.pairs j) := nthQ_map _ hj2
  rw [e]
  exact ⟨rfl, c.2.1, c.2.2, (ok _ hm).2⟩
/-- Read tells this of what is no archive -/
theorem arRead_no {l : List UInt8} (h : rdArc l = none) (w : World) : Calls Try.prog 42 #[.string (strL l)] w fun e w' => e = .returned (.tuple #[.agg #[.int .i64 0, .int .i64 0, .slice none 0 0, .slice none 0 0], .int .i64 70]) ∧ Bl w w' := by
  refine (arRead_any l w).mono ?_
  rintro e w' (⟨a, ad, n, ca, pd, pn, pc, hr, _⟩ | ⟨_, rfl, hb⟩)
  · rw [h] at hr; cases hr
  · exact ⟨rfl, hb⟩
/-- .. whatever it reads -/
theorem arRead_some (l : List UInt8) (w : World) : Calls Try.prog 42 #[.string (strL l)] w fun e w' => ∃ (n parts : Int) (ad : Option Addr) (an ac : Nat) (pd : Option Addr) (pn pc : Nat) (c : Int), e = .returned (.tuple #[.agg #[.int .i64 n, .int .i64 parts, .slice ad an ac, .slice pd pn pc], .int .i64 c]) ∧ (rdArc l = none → c = 70) ∧ Bl w w' := by
  refine (arRead_any l w).mono ?_
  rintro e w' (⟨a, ad, n, ca, pd, pn, pc, hr, rfl, _, _, hb⟩ | ⟨_, rfl, hb⟩)
  · exact ⟨_, _, _, _, _, _, _, _, _, rfl, fun h => by rw [h] at hr; (cases hr), hb⟩
  · exact ⟨_, _, _, _, _, _, _, _, _, rfl, fun _ => rfl, hb⟩

set_option maxHeartbeats 12800000 in
set_option maxRecDepth 100000 in
theorem archiveBack_hid (A : ArcL) (ad : Option Addr) (an ac : Nat) (pd : Option Addr) (pn pc : Nat) (at_ by_ : Int) (mb : List UInt8) (w : World) (hx : Hid (IA w ad an A.at_)) (hp : Hid (PW w pd pn A.pairs)) (hmb : mb.length ≤ 140737488351232) :
    Calls Try.prog 8 #[.agg #[.int .i64 A.n, .int .i64 A.parts, .slice ad an ac, .slice pd pn pc], .int .i64 at_, .int .i64 by_, .string (strL mb)] w fun e w' => e = .returned (.bool true) ∧ Bl w w' := by
  have hsf := store_float
  have zm := strL_size mb
  have hb := (Bl.refl w).alloc (.cells (arcCs A.n A.parts ad an ac pd pn pc).toArray 75)
  have hg := AC.new w _ rfl (arcCs A.n A.parts ad an ac pd pn pc) 75
  obtain ⟨c0, c1, c2, c3⟩ := AC.arc hg
  have hok : ArcOk A := hp.out.ok
  have HOK := Lib.hid hok
  have HWR := Lib.hid (fun w hx hp => arcWrite_any A ad an ac pd pn pc w hx hp hok)
  have HLT := Lib.hid (fun w hx hp => light_any A.n A.parts ad an ac A.at_ pd pn pc A.pairs w hx hp)
  generalize hsm : strL mb = sm at *
  generalize hnA : A.n = nA at *
  generalize hpA : A.parts = pA at *
  have HNA := Lib.hid hnA
  have HPA := Lib.hid hpA
  have HSM := Lib.hid hsm
  clear hnA hpA hsm hok
  unfold arcCs at hg hb c0 c1 c2 c3
  go_enter Try.func8, Try.ntmps8
  go_wp2_with fail
  generalize w.alloc _ = W at *
  refine (HLT.out _ (hx.out.keep hb) (hp.out.keep hb)).mono ?_
  rintro e W1 ⟨b, rfl, hbt, hb1⟩
  have HB := Lib.hid (hb.trans hb1)
  have HG := Lib.hid (hg.keep hb1)
  clear hb hb1 hg c0 c1 c2 c3 HLT
  cases b
  · clear hbt
    go_wp2_with fail
    refine (alive24_any _).mono ?_
    rintro e W2 ⟨rfl, hb2⟩
    go_wp2_with fail
    go_ret
    exact ⟨rfl, HB.out.trans hb2⟩
  obtain ⟨hsum, han⟩ := hbt rfl
  have hfew := lightB_few hp.out.len hsum
  clear hbt hsum han
  have HPP := Lib.hid (hp.out.pa (by omega))
  by_cases hm3 : mb.length ≤ 300
  case neg =>
    have q1 : decide ((300 : Int) < (mb.length : Int)) = true := decide_eq_true (by omega)
    have q2 : decide (300 < mb.length) = true := decide_eq_true (by omega)
    clear hm3
    go_wp2_with fail
    refine (alive24_any _).mono ?_
    rintro e W2 ⟨rfl, hb2⟩
    go_wp2_with fail
    go_ret
    exact ⟨rfl, HB.out.trans hb2⟩
  have q1 : decide ((300 : Int) < (mb.length : Int)) = false := decide_eq_false (by omega)
  have q2 : decide (300 < mb.length) = false := decide_eq_false (by omega)
  obtain ⟨c0, c1, c2, c3⟩ := AC.arc HG.out
  go_wp2_with fail
  clear q1 q2 c0 c1 c2 c3
  refine (HWR.out _ (hx.out.keep HB.out) (HPP.out.keep HB.out)).mono ?_
  rintro e W2 ⟨rfl, hb2⟩
  have HB2 := Lib.hid (HB.out.trans hb2)
  have HG2 := Lib.hid (HG.out.keep hb2)
  clear hb2 HB HG HWR
  by_cases hcc : wrC A = 0
  case neg =>
    have e1 : strL (wrL A) = ⟨#[]⟩ := by rw [wr_bad hcc]; rfl
    have q3 : (wrC A == 0) = false := by rw [beq_eq_false_iff_ne]; exact hcc
    have q4 : (wrC A != 0) = true := by rw [bne_iff_ne]; exact hcc
    rw [e1]
    clear e1 hcc
    generalize wrC A = cc at *
    go_wp2_with fail
    refine (alive24_any _).mono ?_
    rintro e W3 ⟨rfl, hb3⟩
    go_wp2_with fail
    go_ret
    exact ⟨rfl, HB2.out.trans hb3⟩
  have hv : validArc A = true := by
    unfold wrC at hcc
    cases hv : validArc A
    · rw [hv] at hcc
      simp only [Bool.false_eq_true, if_false] at hcc
      exact absurd hcc (by decide)
    · rfl
  have hw : wrL A = putArc A ∧ (putArc A).length ≤ 524288 := by
    unfold wrC at hcc
    rw [hv] at hcc
    simp only [if_true] at hcc
    unfold outC at hcc
    unfold wrL
    rw [hv]
    simp only [if_true]
    unfold outL
    by_cases h : (bodyArc A).length + 4 ≤ 524288
    · rw [if_pos h]
      exact ⟨rfl, by unfold putArc; rw [sealL_len]; exact h⟩
    · rw [if_neg h] at hcc
      exact absurd hcc (by decide)
  rw [hcc, hw.1]
  have HV := Lib.hid hv
  have HPT := Lib.hid (validArc_parts hv)
  have hF25 := putArc_long HPT.out
  have hFmx := hw.2
  have HRA := Lib.hid (rdArc_put hv HOK.out hw.2)
  have HRS := Lib.hid (fun w => arRead_any (putArc A) w)
  have zs := strL_size (putArc A)
  have HSS := Lib.hid (strL_SB (putArc A))
  clear hv hw hcc
  obtain ⟨F, hF⟩ : ∃ F, F = putArc A := ⟨_, rfl⟩
  rw [← hF] at hF25 hFmx HRA HRS zs HSS ⊢
  have HF := Lib.hid hF
  clear hF
  obtain ⟨s, hs⟩ : ∃ s, s = strL F := ⟨_, rfl⟩
  rw [← hs] at HRS zs HSS ⊢
  have HST := Lib.hid hs
  clear hs
  go_wp2_with fail
  refine (HRS.out _).mono ?_
  rintro e W3 (⟨a, ad2, an2, ac2, pd2, pn2, pc2, hr, rfl, hFI, hFP, hb3⟩ | ⟨hr, rfl, hb3⟩)
  case inr => rw [HRA.out] at hr; cases hr
  rw [HRA.out] at hr
  obtain rfl := Option.some.inj hr
  have han2 : an2 = an := by rw [← hFI.1.len, ← hx.out.len]; rfl
  have hpn2 : pn2 = pn := by rw [← hFP.1.len, ← hp.out.len]; unfold canonArc; simp
  subst han2; subst hpn2
  have HI3 := Lib.hid hFI.1
  have HP3 := Lib.hid hFP.1
  have HB3 := Lib.hid (HB2.out.trans hb3)
  have HG3 := Lib.hid (HG2.out.keep hb3)
  have HCS := Lib.hid (canon_same HPT.out HOK.out hp.out.len)
  clear hr hFI hFP hb3 HB2 HG2 HRS HRA
  unfold arcV
  rw [show (canonArc A).n = nA from HNA.out, show (canonArc A).parts = pA from HPA.out]
  rw [show (canonArc A).at_ = A.at_ from rfl] at HI3
  have hgx := AC.new W3 _ rfl [.int .i64 nA, .int .i64 pA, .slice ad2 an2 ac2, .slice pd2 pn2 pc2] 75
  have hbx := (Bl.refl W3).alloc (.cells #[.int .i64 nA, .int .i64 pA, .slice ad2 an2 ac2, .slice pd2 pn2 pc2] 75)
  go_upto_region 7 with fail
  have HX4 := Lib.hid (hgx.keep ((Bl.refl _).drew))
  have HI4 := Lib.hid ((HI3.out.keep hbx).keep ((Bl.refl _).drew))
  have HP4 := Lib.hid ((HP3.out.keep hbx).keep ((Bl.refl _).drew))
  have HG4 := Lib.hid ((HG3.out.keep hbx).keep ((Bl.refl _).drew))
  have HB4 := Lib.hid ((HB3.out.trans hbx).drew)
  clear hgx hbx HI3 HP3 HG3 HB3
  refine wp_region_extall (by kernel_rfl) (by kernel_rfl) ?_
  generalize W3.heap.size = gx at *
  generalize World.drew _ = Z at *
  have a0 : ∀ q : Ext Z, _ := fun q => (AC.arc (HG4.out.keep q.bl)).1
  have a1 : ∀ q : Ext Z, _ := fun q => (AC.arc (HG4.out.keep q.bl)).2.1
  have a2 : ∀ q : Ext Z, _ := fun q => (AC.arc (HG4.out.keep q.bl)).2.2.1
  have a3 : ∀ q : Ext Z, _ := fun q => (AC.arc (HG4.out.keep q.bl)).2.2.2
  have x0 : ∀ q : Ext Z, _ := fun q => (AC.arc (HX4.out.keep q.bl)).1
  have x1 : ∀ q : Ext Z, _ := fun q => (AC.arc (HX4.out.keep q.bl)).2.1
  have x2 : ∀ q : Ext Z, _ := fun q => (AC.arc (HX4.out.keep q.bl)).2.2.1
  have x3 : ∀ q : Ext Z, _ := fun q => (AC.arc (HX4.out.keep q.bl)).2.2.2
  have H1 := Lib.hid (fun w => plain_any nA pA ad2 an2 ac2 pd2 pn2 pc2 w)
  have H2 := Lib.hid (fun w => plain_any nA pA ad an2 ac pd pn2 pc w)
  have H3 := Lib.hid (fun q : Ext Z => refSameArc_yes nA pA A.at_ ad2 ad an2 ac2 ac pd2 pd pn2 pc2 pc (canonArc A).pairs A.pairs q.at (HI4.out.keep q.bl) (hx.out.keep (HB4.out.trans q.bl)) (HP4.out.keep q.bl) (HPP.out.keep (HB4.out.trans q.bl)) HCS)
  have q20 : decide ((F.length : Int) < 20) = false := decide_eq_false (by omega)
  have q20' : decide (F.length < 20) = false := decide_eq_false (by omega)
  repeat (refine wpE_step (fun K hK => ?_); go_simp; first | (refine hK _ ?_; clear hK K) | (apply Exists.intro; refine ⟨fun m => ?_, hK _ ?_⟩; (first | with_reducible exact H3.out m | with_reducible exact H1.out _ | with_reducible exact H2.out _); clear hK K))
  refine wpE_nil ?_
  intro q1
  have HB5 := Lib.hid (HB4.out.trans q1.bl)
  clear a0 a1 a2 a3 x0 x1 x2 x3 H1 H2 H3 q20 q20' HX4 HI4 HP4 HG4 HB4
  generalize ExtC.at q1 = Y at *
  obtain ⟨M, hM⟩ : ∃ M : Int, at_.tmod (F.length : Int) = M := ⟨_, rfl⟩
  have hM1 : M < (F.length : Int) := by rw [← hM]; exact Int.tmod_lt_of_pos _ (by omega)
  have hM0 : -(F.length : Int) < M := by rw [← hM]; exact Int.lt_tmod_of_pos _ (by omega)
  have qz : ((F.length : Int) == 0) = false := by rw [beq_eq_false_iff_ne]; omega
  obtain ⟨B, hB⟩ : ∃ B : Nat, by_ % 256 = (B : Int) := ⟨(by_ % 256).toNat, by omega⟩
  have hB8 : B < 256 := by omega
  obtain ⟨K, hK⟩ : ∃ K : Nat, (if M < 0 then M + (F.length : Int) else M) = (K : Int) := ⟨(if M < 0 then M + (F.length : Int) else M).toNat, by split <;> omega⟩
  have hKF : K < F.length := by split at hK <;> omega
  have HCUT := Lib.hid (fun w => arRead_no (l := F.take K) (by rw [HF.out]; exact rd_cut HV.out HOK.out (by rw [← HF.out]; exact hKF)) w)
  have HMORE := Lib.hid (fun w => arRead_some (F ++ mb) w)
  have HMN := Lib.hid (fun (h : mb ≠ []) => (show rdArc (F ++ mb) = none by rw [HF.out]; exact rd_more HV.out HOK.out h))
  have ecut : s.extract 0 K = strL (F.take K) := by rw [HST.out]; exact strL_take F K
  have eapp : s ++ sm = strL (F ++ mb) := by rw [HST.out, ← HSM.out]; exact strL_app F mb
  have sapp : (9223372036854775807 < F.length + mb.length) = False := eq_false (by omega)
  generalize strL (F.take K) = scut at *
  generalize strL (F ++ mb) = sapp2 at *
  by_cases hMn : M < 0
  · have q2 : decide (M < 0) = true := decide_eq_true hMn
    have eK : M + (F.length : Int) = (K : Int) := by rw [if_pos hMn] at hK; exact hK
    clear hMn hK
    have hKs : K ≤ F.length := Nat.le_of_lt hKF
    go_wp2_with fail
    refine (HCUT.out _).mono ?_
    rintro e V1 ⟨rfl, hb1⟩
    have HB6 := Lib.hid ((HB5.out.trans hb1).alloc (.cells #[.int .i64 0, .int .i64 0, .slice none 0 0, .slice none 0 0] 75))
    clear hb1 ecut
    go_wp2_with fail
    generalize V1.alloc _ = V2 at *
    refine (HMORE.out _).mono ?_
    rintro e V3 ⟨n1, p1, ad3, an3, ac3, pd3, pn3, pc3, cm, rfl, hcm, hb2⟩
    have HB7 := Lib.hid ((HB6.out.trans hb2).alloc (.cells #[.int .i64 n1, .int .i64 p1, .slice ad3 an3 ac3, .slice pd3 pn3 pc3] 75))
    clear hb2 eapp sapp
    have hgen : mb = [] ∨ cm = 70 := by
      by_cases h : mb = []
      · exact .inl h
      · exact .inr (hcm (HMN.out h))
    clear hcm
    by_cases hB0 : B = 0
    · have q5 : (by_ % 256 == 0) = true := by rw [hB, hB0]; rfl
      rcases hgen with hge | rfl
      · have he : sm.toList.isEmpty = true := by rw [← HSM.out, hge, ByteArray.toList_eq]; rfl
        go_wp2_with fail
        refine (alive24_any _).mono ?_
        rintro e V4 ⟨rfl, hb3⟩
        go_wp2_with fail
        go_ret
        exact ⟨rfl, HB7.out.trans hb3⟩
      · cases he : sm.toList.isEmpty
        · go_wp2_with fail
          refine (alive24_any _).mono ?_
          rintro e V4 ⟨rfl, hb3⟩
          go_wp2_with fail
          go_ret
          exact ⟨rfl, HB7.out.trans hb3⟩
        · go_wp2_with fail
          refine (alive24_any _).mono ?_
          rintro e V4 ⟨rfl, hb3⟩
          go_wp2_with fail
          go_ret
          exact ⟨rfl, HB7.out.trans hb3⟩
    have q5 : (by_ % 256 == 0) = false := by rw [beq_eq_false_iff_ne]; omega
    have hc8 : F[K].toNat < 256 := UInt8.toNat_lt _
    have hx8 : F[K].toNat ^^^ B < 256 := Nat.xor_lt_two_pow (n := 8) hc8 hB8
    obtain ⟨c, hc⟩ : ∃ c : UInt8, c = UInt8.ofNat (F[K].toNat ^^^ B) := ⟨_, rfl⟩
    have hcn : c.toNat = F[K].toNat ^^^ B := by rw [hc, UInt8.toNat_ofNat']; exact Nat.mod_eq_of_lt hx8
    have hxor : bits .xor .u8 (F[K].toNat : Int) (by_ % 256) = (c.toNat : Int) := by
      rw [hB, hcn]
      exact u8_xor_nat _ _ hc8 hB8
    have hne : c ≠ F[K] := by
      intro e
      have h1 := congrArg UInt8.toNat e
      rw [hcn] at h1
      exact bxor_ne hB0 h1
    have HRC := Lib.hid (fun w => arRead_no (l := F.set K c) (by
      obtain rfl := HF.out
      exact rd_changed hKF hne) w)
    have hSl : (F.set K c).length = F.length := List.length_set
    clear hne hB hB0 hB8 hx8 hc hcn hc8
    have hempt : ∃ bt, sm.toList.isEmpty = bt ∧ (bt = true ∨ cm = 70) := ⟨_, rfl, by
      rcases hgen with h | h
      · left; rw [← HSM.out, h, ByteArray.toList_eq]; rfl
      · exact .inr h⟩
    obtain ⟨bt, hbt, hor⟩ := hempt
    clear hgen
    go_upto_region 14 with fail
    generalize V3.alloc _ = V4 at *
    have hconv := run_bytes_of_string (P := Try.prog) V4 9 61 5 s Try.underlying9 Try.underlying61 Try.underlying5
    have BR0 := BR.new V4 s (grownCap V4 s.size 0 5) 5 F HSS.out
    have hbD : Bl V4 (V4.drew.alloc (.cells (bytesRow s (grownCap V4 s.size 0 5)) 5 ((bytesRow s (grownCap V4 s.size 0 5)).size, (bytesRow s (grownCap V4 s.size 0 5)).size + 1))) := ((Bl.refl V4).drew).alloc _
    obtain ⟨cap, hcap⟩ : ∃ cap, grownCap V4 s.size 0 5 = cap := ⟨_, rfl⟩
    rw [hcap] at hconv BR0 hbD
    have hsz5 := HB7.out.size
    clear hcap
    generalize V4.drew.alloc (.cells (bytesRow s cap) 5 ((bytesRow s cap).size, (bytesRow s cap).size + 1)) = BW at *
    have HB7' := Lib.hid HB7.out
    generalize V4.heap.size = g at *
    have BS := BR0.set K hKF c
    have ck := BR0.cells K hKF
    have cf := BR0.free K hKF
    have B6 : Bl w (BW.setCell ⟨g, K, none⟩ (.int .u8 (c.toNat : Int))) := (HB7.out.trans hbD).setCell (p := ⟨g, K, none⟩) hsz5 _
    have hst := run_convert_bytes_back (P := Try.prog) (BW.setCell ⟨g, K, none⟩ (.int .u8 (c.toNat : Int))) 61 9 5 ⟨g, 0, none⟩ cap (F.set K c) Try.underlying61 Try.underlying5 Try.underlying9 (fun j hj => by
      have := BS j hj
      by_cases h : j = 0
      · subst h; simpa [Addr.add] using this
      · simpa [Addr.add, h] using this)
    rw [hSl] at hst
    clear BS hSl BR0 hbD HB7'
    change (convert _ _ _).run _ _ = .ok (.string (strL (F.set K c))) _ at hst
    have HB8 := Lib.hid B6
    clear B6 hsz5
    generalize F[K].toNat = xk at *
    generalize c.toNat = cn at *
    generalize strL (F.set K c) = sch at *
    have hKs2 : K < s.size := by omega
    rcases hor with rfl | rfl
    · go_wp2_with fail
      refine (HRC.out _).mono ?_
      rintro e V6 ⟨rfl, hb6⟩
      have HY := Lib.hid (AC.new V6 _ rfl [.int .i64 0, .int .i64 0, .slice none 0 0, .slice none 0 0] 75)
      have HB9 := Lib.hid ((HB8.out.trans hb6).alloc (.cells #[.int .i64 0, .int .i64 0, .slice none 0 0, .slice none 0 0] 75))
      clear hconv hst cf ck hxor hb6
      go_wp2_with fail
      generalize V6.heap.size = gy at *
      generalize V6.alloc _ = V7 at *
      refine (alive24_any _).mono ?_
      rintro e V8 ⟨rfl, hb8⟩
      obtain ⟨y0, y1, y2, y3⟩ := AC.arc (HY.out.keep hb8)
      go_wp2_with fail
      go_ret
      exact ⟨rfl, HB9.out.trans hb8⟩
    · cases bt
      · go_wp2_with fail
        refine (HRC.out _).mono ?_
        rintro e V6 ⟨rfl, hb6⟩
        have HY := Lib.hid (AC.new V6 _ rfl [.int .i64 0, .int .i64 0, .slice none 0 0, .slice none 0 0] 75)
        have HB9 := Lib.hid ((HB8.out.trans hb6).alloc (.cells #[.int .i64 0, .int .i64 0, .slice none 0 0, .slice none 0 0] 75))
        clear hconv hst cf ck hxor hb6
        go_wp2_with fail
        generalize V6.heap.size = gy at *
        generalize V6.alloc _ = V7 at *
        refine (alive24_any _).mono ?_
        rintro e V8 ⟨rfl, hb8⟩
        obtain ⟨y0, y1, y2, y3⟩ := AC.arc (HY.out.keep hb8)
        go_wp2_with fail
        go_ret
        exact ⟨rfl, HB9.out.trans hb8⟩
      · go_wp2_with fail
        refine (HRC.out _).mono ?_
        rintro e V6 ⟨rfl, hb6⟩
        have HY := Lib.hid (AC.new V6 _ rfl [.int .i64 0, .int .i64 0, .slice none 0 0, .slice none 0 0] 75)
        have HB9 := Lib.hid ((HB8.out.trans hb6).alloc (.cells #[.int .i64 0, .int .i64 0, .slice none 0 0, .slice none 0 0] 75))
        clear hconv hst cf ck hxor hb6
        go_wp2_with fail
        generalize V6.heap.size = gy at *
        generalize V6.alloc _ = V7 at *
        refine (alive24_any _).mono ?_
        rintro e V8 ⟨rfl, hb8⟩
        obtain ⟨y0, y1, y2, y3⟩ := AC.arc (HY.out.keep hb8)
        go_wp2_with fail
        go_ret
        exact ⟨rfl, HB9.out.trans hb8⟩
  · have eK : M = (K : Int) := by rw [if_neg hMn] at hK; exact hK
    clear hMn hK
    subst eK
    have q2 : decide ((K : Int) < 0) = false := decide_eq_false (by omega)
    have hKs : K ≤ F.length := Nat.le_of_lt hKF
    go_wp2_with fail
    refine (HCUT.out _).mono ?_
    rintro e V1 ⟨rfl, hb1⟩
    have HB6 := Lib.hid ((HB5.out.trans hb1).alloc (.cells #[.int .i64 0, .int .i64 0, .slice none 0 0, .slice none 0 0] 75))
    clear hb1 ecut
    go_wp2_with fail
    generalize V1.alloc _ = V2 at *
    refine (HMORE.out _).mono ?_
    rintro e V3 ⟨n1, p1, ad3, an3, ac3, pd3, pn3, pc3, cm, rfl, hcm, hb2⟩
    have HB7 := Lib.hid ((HB6.out.trans hb2).alloc (.cells #[.int .i64 n1, .int .i64 p1, .slice ad3 an3 ac3, .slice pd3 pn3 pc3] 75))
    clear hb2 eapp sapp
    have hgen : mb = [] ∨ cm = 70 := by
      by_cases h : mb = []
      · exact .inl h
      · exact .inr (hcm (HMN.out h))
    clear hcm
    by_cases hB0 : B = 0
    · have q5 : (by_ % 256 == 0) = true := by rw [hB, hB0]; rfl
      rcases hgen with hge | rfl
      · have he : sm.toList.isEmpty = true := by rw [← HSM.out, hge, ByteArray.toList_eq]; rfl
        go_wp2_with fail
        refine (alive24_any _).mono ?_
        rintro e V4 ⟨rfl, hb3⟩
        go_wp2_with fail
        go_ret
        exact ⟨rfl, HB7.out.trans hb3⟩
      · cases he : sm.toList.isEmpty
        · go_wp2_with fail
          refine (alive24_any _).mono ?_
          rintro e V4 ⟨rfl, hb3⟩
          go_wp2_with fail
          go_ret
          exact ⟨rfl, HB7.out.trans hb3⟩
        · go_wp2_with fail
          refine (alive24_any _).mono ?_
          rintro e V4 ⟨rfl, hb3⟩
          go_wp2_with fail
          go_ret
          exact ⟨rfl, HB7.out.trans hb3⟩
    have q5 : (by_ % 256 == 0) = false := by rw [beq_eq_false_iff_ne]; omega
    have hc8 : F[K].toNat < 256 := UInt8.toNat_lt _
    have hx8 : F[K].toNat ^^^ B < 256 := Nat.xor_lt_two_pow (n := 8) hc8 hB8
    obtain ⟨c, hc⟩ : ∃ c : UInt8, c = UInt8.ofNat (F[K].toNat ^^^ B) := ⟨_, rfl⟩
    have hcn : c.toNat = F[K].toNat ^^^ B := by rw [hc, UInt8.toNat_ofNat']; exact Nat.mod_eq_of_lt hx8
    have hxor : bits .xor .u8 (F[K].toNat : Int) (by_ % 256) = (c.toNat : Int) := by
      rw [hB, hcn]
      exact u8_xor_nat _ _ hc8 hB8
    have hne : c ≠ F[K] := by
      intro e
      have h1 := congrArg UInt8.toNat e
      rw [hcn] at h1
      exact bxor_ne hB0 h1
    have HRC := Lib.hid (fun w => arRead_no (l := F.set K c) (by
      obtain rfl := HF.out
      exact rd_changed hKF hne) w)
    have hSl : (F.set K c).length = F.length := List.length_set
    clear hne hB hB0 hB8 hx8 hc hcn hc8
    have hempt : ∃ bt, sm.toList.isEmpty = bt ∧ (bt = true ∨ cm = 70) := ⟨_, rfl, by
      rcases hgen with h | h
      · left; rw [← HSM.out, h, ByteArray.toList_eq]; rfl
      · exact .inr h⟩
    obtain ⟨bt, hbt, hor⟩ := hempt
    clear hgen
    go_upto_region 14 with fail
    generalize V3.alloc _ = V4 at *
    have hconv := run_bytes_of_string (P := Try.prog) V4 9 61 5 s Try.underlying9 Try.underlying61 Try.underlying5
    have BR0 := BR.new V4 s (grownCap V4 s.size 0 5) 5 F HSS.out
    have hbD : Bl V4 (V4.drew.alloc (.cells (bytesRow s (grownCap V4 s.size 0 5)) 5 ((bytesRow s (grownCap V4 s.size 0 5)).size, (bytesRow s (grownCap V4 s.size 0 5)).size + 1))) := ((Bl.refl V4).drew).alloc _
    obtain ⟨cap, hcap⟩ : ∃ cap, grownCap V4 s.size 0 5 = cap := ⟨_, rfl⟩
    rw [hcap] at hconv BR0 hbD
    have hsz5 := HB7.out.size
    clear hcap
    generalize V4.drew.alloc (.cells (bytesRow s cap) 5 ((bytesRow s cap).size, (bytesRow s cap).size + 1)) = BW at *
    have HB7' := Lib.hid HB7.out
    generalize V4.heap.size = g at *
    have BS := BR0.set K hKF c
    have ck := BR0.cells K hKF
    have cf := BR0.free K hKF
    have B6 : Bl w (BW.setCell ⟨g, K, none⟩ (.int .u8 (c.toNat : Int))) := (HB7.out.trans hbD).setCell (p := ⟨g, K, none⟩) hsz5 _
    have hst := run_convert_bytes_back (P := Try.prog) (BW.setCell ⟨g, K, none⟩ (.int .u8 (c.toNat : Int))) 61 9 5 ⟨g, 0, none⟩ cap (F.set K c) Try.underlying61 Try.underlying5 Try.underlying9 (fun j hj => by
      have := BS j hj
      by_cases h : j = 0
      · subst h; simpa [Addr.add] using this
      · simpa [Addr.add, h] using this)
    rw [hSl] at hst
    clear BS hSl BR0 hbD HB7'
    change (convert _ _ _).run _ _ = .ok (.string (strL (F.set K c))) _ at hst
    have HB8 := Lib.hid B6
    clear B6 hsz5
    generalize F[K].toNat = xk at *
    generalize c.toNat = cn at *
    generalize strL (F.set K c) = sch at *
    have hKs2 : K < s.size := by omega
    rcases hor with rfl | rfl
    · go_wp2_with fail
      refine (HRC.out _).mono ?_
      rintro e V6 ⟨rfl, hb6⟩
      have HY := Lib.hid (AC.new V6 _ rfl [.int .i64 0, .int .i64 0, .slice none 0 0, .slice none 0 0] 75)
      have HB9 := Lib.hid ((HB8.out.trans hb6).alloc (.cells #[.int .i64 0, .int .i64 0, .slice none 0 0, .slice none 0 0] 75))
      clear hconv hst cf ck hxor hb6
      go_wp2_with fail
      generalize V6.heap.size = gy at *
      generalize V6.alloc _ = V7 at *
      refine (alive24_any _).mono ?_
      rintro e V8 ⟨rfl, hb8⟩
      obtain ⟨y0, y1, y2, y3⟩ := AC.arc (HY.out.keep hb8)
      go_wp2_with fail
      go_ret
      exact ⟨rfl, HB9.out.trans hb8⟩
    · cases bt
      · go_wp2_with fail
        refine (HRC.out _).mono ?_
        rintro e V6 ⟨rfl, hb6⟩
        have HY := Lib.hid (AC.new V6 _ rfl [.int .i64 0, .int .i64 0, .slice none 0 0, .slice none 0 0] 75)
        have HB9 := Lib.hid ((HB8.out.trans hb6).alloc (.cells #[.int .i64 0, .int .i64 0, .slice none 0 0, .slice none 0 0] 75))
        clear hconv hst cf ck hxor hb6
        go_wp2_with fail
        generalize V6.heap.size = gy at *
        generalize V6.alloc _ = V7 at *
        refine (alive24_any _).mono ?_
        rintro e V8 ⟨rfl, hb8⟩
        obtain ⟨y0, y1, y2, y3⟩ := AC.arc (HY.out.keep hb8)
        go_wp2_with fail
        go_ret
        exact ⟨rfl, HB9.out.trans hb8⟩
      · go_wp2_with fail
        refine (HRC.out _).mono ?_
        rintro e V6 ⟨rfl, hb6⟩
        have HY := Lib.hid (AC.new V6 _ rfl [.int .i64 0, .int .i64 0, .slice none 0 0, .slice none 0 0] 75)
        have HB9 := Lib.hid ((HB8.out.trans hb6).alloc (.cells #[.int .i64 0, .int .i64 0, .slice none 0 0, .slice none 0 0] 75))
        clear hconv hst cf ck hxor hb6
        go_wp2_with fail
        generalize V6.heap.size = gy at *
        generalize V6.alloc _ = V7 at *
        refine (alive24_any _).mono ?_
        rintro e V8 ⟨rfl, hb8⟩
        obtain ⟨y0, y1, y2, y3⟩ := AC.arc (HY.out.keep hb8)
        go_wp2_with fail
        go_ret
        exact ⟨rfl, HB9.out.trans hb8⟩

theorem archiveBack_walk (a : ArcL) (ad : Option Addr) (an ac : Nat) (pd : Option Addr) (pn pc : Nat) (at_ by_ : Int) (s : ByteArray) (w : World) (hx : IA w ad an a.at_) (hp : PW w pd pn a.pairs) (_ : -9223372036854775808 ≤ at_ ∧ at_ ≤ 9223372036854775807) (_ : -9223372036854775808 ≤ by_ ∧ by_ ≤ 9223372036854775807) (hs : s.size ≤ 140737488351232) :
    Calls Try.prog 8 #[arcV a.n a.parts ad an ac pd pn pc, .int .i64 at_, .int .i64 by_, .string s] w fun e w' => e = .returned (.bool true) ∧ Bl w w' := by
  have e : s = strL s.data.toList := rfl
  rw [e]
  exact archiveBack_hid a ad an ac pd pn pc at_ by_ s.data.toList w (Lib.hid hx) (Lib.hid hp) (by rw [size_nil]; exact hs)
end Go.Proofs.Ytechiehbigmjbaa
