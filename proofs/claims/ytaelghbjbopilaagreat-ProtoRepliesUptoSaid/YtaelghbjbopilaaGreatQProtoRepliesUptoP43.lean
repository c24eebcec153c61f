import Derived.Test.YtaelghbjbopilaaGreatQProtoRepliesUptoP42
import Derived.Test.YtaelghbjbopilaaGreatQProtoRepliesUptoP35
import Derived.Test.YtaelghbjbopilaaGreatQProtoRepliesUptoP19
import Derived.Test.YtaelghbjbopilaaGreatQProtoRepliesUptoP1
import Derived.ProofKit
import Derived.SizedLaws
import Derived.Deep.CondSized
import Derived.OpenShut
import Derived.Deep.Slices
import Derived.Laws.Cover2
import Derived.Test.YtaelghbjbopilaaGreatQProtoRepliesUptoP6
import Derived.Test.YtaelghbjbopilaaGreatQProtoRepliesUptoP29
import Derived.Test.YtaelghbjbopilaaGreatQProtoRepliesUptoP21
import Derived.Test.YtaelghbjbopilaaGreatQProtoRepliesUptoP9
import Derived.Test.YtaelghbjbopilaaGreatQProtoRepliesUptoP7
import Derived.Test.YtaelghbjbopilaaGreatQProtoRepliesUptoP3
import Derived.Test.YtaelghbjbopilaaGreatQProtoRepliesUptoP18
import Derived.Test.YtaelghbjbopilaaGreatQProtoRepliesUptoP5
import Derived.Outline
import Derived.Deep.RegionLaw
import Derived.Deep.AppendLies
import Derived.Test.YtaelghbjbopilaaGreatQProtoRepliesUptoP27
import Derived.Deep.QuietTactic
import Derived.BigQuiet
import Derived.Test.YtaelghbjbopilaaGreatQProtoRepliesUptoP20
import Derived.Test.YtaelghbjbopilaaGreatQProtoRepliesUptoP23
import Derived.Test.YtaelghbjbopilaaGreatQProtoRepliesUptoP14
import Derived.Test.YtaelghbjbopilaaGreatQProtoRepliesUptoP10
import Derived.Test.YtaelghbjbopilaaGreatQProtoRepliesUptoP11

/- proto.GetReply's closure (printed by wip/gen/reply6.py). By an AI agent. -/
section
set_option linter.unusedVariables false
set_option linter.unusedSimpArgs false
namespace Go.Proofs.YtaelghbjbopilaaGreat
open Go.RowKit
attribute [local go_sem] eOp eOper eUpon pOp pOper pUpon

set_option maxHeartbeats 6400000 in
set_option maxRecDepth 100000 in
theorem getReply1_any (gb : Nat) (l0 : List UInt8) (w : World) (hg : C1 w gb (.string (strL l0))) (hz0 : l0.length ≤ 65536) :
    Calls Tryz.prog 39 #[.pointer (some ⟨gb, 0, none⟩)] w (RepPost w l0) := by
  have hsf := store_float
  have hbr := (Bl.refl w).alloc (.cells zeroRepCs.toArray 30)
  have c0 := (hg.keep hbr).cell
  have cz := strL_size l0
  unfold zeroRepCs repCs at c0
  clear hg
  go_enter Tryz.func39, Tryz.ntmps39
  go_wp2_with fail
  rw [show decide ((l0.length : Int) ≤ 65536) = true from decide_eq_true (by omega)]
  refine (pwant_yes _).mono ?_
  rintro e W12 ⟨rfl, rfl⟩
  go_wp2_with fail
  have G := GR.new w l0 30 99
  unfold zeroRepCs repCs at G
  generalize (w.alloc (.cells #[.int .i64 0, .int .i64 0, .slice none 0 0, .bool false, .float .f64 0, .int .i64 0, .string ⟨#[]⟩, .slice none 0 0, .string ⟨#[]⟩] 30)).alloc (.cells #[.string (strL l0)] 99) = W0 at *
  have GH := Lib.hid G
  clear c0 G cz hbr
  refine (pnum_any (w.heap.size + 1) l0 6 _ GH.out.c (by decide) (by decide)).mono ?_
  rintro e W1 (⟨code, l1, h1, rfl, rfl⟩ | ⟨hn, rfl, rfl⟩)
  case inr =>
    unfold panE
    go_wp2_with fail
    exact ⟨rfl, .inr ⟨by simp [rdReply, hn], rfl, GH.out.bl⟩⟩
  have H1 := Lib.hid h1
  have hz1 : l1.length ≤ 1000000 := by have := rdNum_len h1; omega
  replace GH := Lib.hid (GH.out.set l1)
  clear h1
  generalize World.setCell _ _ (.string (strL l1)) = W1 at *
  go_wp2_with fail
  refine (pnum_any (w.heap.size + 1) l1 6 _ GH.out.c (by decide) (by decide)).mono ?_
  rintro e W2 (⟨num, l2, h2, rfl, rfl⟩ | ⟨hn, rfl, rfl⟩)
  case inr =>
    unfold panE
    go_wp2_with fail
    exact ⟨rfl, .inr ⟨by simp [rdReply, H1.out, hn], rfl, GH.out.bl⟩⟩
  have H2 := Lib.hid h2
  have hz2 : l2.length ≤ 1000000 := by have := rdNum_len h2; omega
  replace GH := Lib.hid (GH.out.set l2)
  clear h2
  generalize World.setCell _ _ (.string (strL l2)) = W2 at *
  go_wp2_with fail
  refine (pvecO_any (w.heap.size + 1) l2 _ GH.out.c hz2).mono ?_
  rintro e W3 (⟨ad, n, ca, xs, l3, h3, rfl, hb, hfar⟩ | ⟨hn, rfl, r, hb⟩)
  case inr =>
    unfold panE
    go_wp2_with fail
    exact ⟨rfl, .inr ⟨by simp [rdReply, H1.out, H2.out, hn], rfl, GH.out.bad hb⟩⟩
  have H3 := Lib.hid h3
  have hz3 : l3.length ≤ 1000000 := by have := rdVec_len h3; omega
  have HF : Hid (FarO (w.heap.size + 1 + 1) W3 ad n ca xs) := Lib.hid (hfar.mono GH.out.lt)
  replace GH := Lib.hid ((GH.out.set l3).keep hb)
  clear h3 hb hfar
  go_wp2_with fail
  refine (pval_any (w.heap.size + 1) l3 _ GH.out.c hz3).mono ?_
  rintro e W4 (⟨⟨t, x, m, s⟩, l4, h4, rfl, hb⟩ | ⟨hn, rfl, r, hb⟩)
  case inr =>
    unfold panE
    go_wp2_with fail
    exact ⟨rfl, .inr ⟨by simp [rdReply, H1.out, H2.out, H3.out, hn], rfl, GH.out.bad hb⟩⟩
  have H4 := Lib.hid h4
  have hz4 : l4.length ≤ 1000000 := by have := (rdVal_back h4).2.2.2.2; omega
  replace HF := Lib.hid ((HF.out.set (Nat.lt_succ_self _) 0 (.string (strL l4))).keep hb)
  replace GH := Lib.hid ((GH.out.set l4).keep hb)
  clear h4 hb
  dsimp only
  go_wp2_with fail
  refine (ptext_any (w.heap.size + 1) l4 _ GH.out.c hz4).mono ?_
  rintro e W5 (⟨text, l5, h5, rfl, hb⟩ | ⟨hn, rfl, r, hb⟩)
  case inr =>
    unfold panE
    go_wp2_with fail
    exact ⟨rfl, .inr ⟨by simp [rdReply, H1.out, H2.out, H3.out, H4.out, hn], rfl, GH.out.bad hb⟩⟩
  have H5 := Lib.hid h5
  have hz5 : l5.length ≤ 1000000 := by have := (rdText_len h5).1; omega
  replace HF := Lib.hid ((HF.out.set (Nat.lt_succ_self _) 0 (.string (strL l5))).keep hb)
  replace GH := Lib.hid ((GH.out.set l5).keep hb)
  clear h5 hb
  go_wp2_with fail
  have Q := Lib.hid (PG.new GH.out (repCs code num ad n ca t x m s none 0 0 (strL text)) HF.out 30)
  unfold repCs at Q
  clear GH HF
  generalize W5.heap.size = gx at *
  generalize W5.alloc _ = W6 at *
  refine (pnum_any (w.heap.size + 1) l5 4 _ Q.out.g.c (by decide) (by decide)).mono ?_
  rintro e W7 (⟨N, l6, h6, rfl, rfl⟩ | ⟨hn, rfl, rfl⟩)
  case inr =>
    unfold panE
    go_wp2_with fail
    exact ⟨rfl, .inr ⟨by simp [rdReply, H1.out, H2.out, H3.out, H4.out, H5.out, hn], rfl, Q.out.g.bl⟩⟩
  have H6 := Lib.hid h6
  have hz6 : l6.length ≤ 1000000 := by have := rdNum_len h6; omega
  have hN0 : 0 ≤ N := (rdNum_back h6).2.1
  replace Q := Lib.hid (Q.out.set l6)
  clear h6
  generalize World.setCell _ _ (.string (strL l6)) = W7 at *
  by_cases hN : N ≤ 10000
  case neg =>
    have qt : decide (N ≤ 10000) = false := decide_eq_false hN
    have HN := Lib.hid hN
    clear hN
    go_wp2_with fail
    refine (pwant_no _).mono ?_
    rintro e W12 ⟨rfl, rfl⟩
    unfold panE
    go_wp2_with fail
    exact ⟨rfl, .inr ⟨by simp [rdReply, H1.out, H2.out, H3.out, H4.out, H5.out, H6.out]; intro h; have := HN.out; omega, rfl, Q.out.g.bl⟩⟩
  obtain ⟨pn, rfl⟩ := Int.eq_ofNat_of_zero_le hN0
  have hpn : pn ≤ 10000 := by omega
  have qt : decide ((pn : Int) ≤ 10000) = true := decide_eq_true hN
  clear hN hN0
  go_wp2_with fail
  refine (pwant_yes _).mono ?_
  rintro e W12 ⟨rfl, rfl⟩
  clear qt
  go_wp2_with fail
  have HRD : Hid (rdReply l0 = (rdPairs pn l6).bind fun p => if p.2 = [] then some ⟨code, num, xs, ⟨t, x, m, s⟩, p.1, strL text⟩ else none) := Lib.hid (by
    unfold rdReply
    rw [H1.out, Option.bind_some, H2.out, Option.bind_some, H3.out, Option.bind_some, H4.out, Option.bind_some, H5.out, Option.bind_some, H6.out, Option.bind_some, if_pos (by omega)]
    rfl)
  clear H1 H2 H3 H4 H5 H6 hz1 hz2 hz3 hz4 hz5
  go_loopw [29] (fun i wr => ∃ (k : Nat) (lk : List UInt8) (acc : List (ByteArray × ValL)) (pd : Option Addr) (pc : Nat), k ≤ pn ∧ i = .int .i64 k ∧ PG w wr lk gx (repCs code num ad n ca t x m s pd k pc (strL text)) ad n xs (.slice pd k pc) k acc ∧ lk.length ≤ 1000000 ∧ rdPairs pn l6 = (rdPairs (pn - k) lk).map fun p => (acc ++ p.1, p.2)) (fun i _ => pn - (intOf i).toNat)
  case atStart => exact ⟨0, l6, [], none, 0, Nat.zero_le _, rfl, Q.out, hz6, by simp⟩
  case round =>
    clear Q hz6
    obtain ⟨k, lk, acc, pd, pc, hk, rfl, hP, hzk, hrd⟩ := hrel
    have Q := Lib.hid hP
    have HD := Lib.hid hrd
    have HZ := Lib.hid hzk
    clear hP hrd hzk
    by_cases hlt : k < pn
    · obtain ⟨j, hj⟩ : ∃ j, pn - k = j + 1 := ⟨pn - k - 1, by omega⟩
      rw [hj] at HD
      go_upto_region 8 with fail
      have Q1 := Lib.hid (Q.out.keep (Bl.refl wr).drew)
      refine wp_region_panics [0, 1, 2, 4] 7 (HasBox gx (repCs code num ad n ca t x m s pd k pc (strL text))) HasBox.keep Q1.out.a [10] (fun c W' => c = [{ v := .iface 22 (.int .i64 4), recovered := false }] ∧ rdPairs pn l6 = none ∧ Bl w W') ?hR (by kernel_rfl) rfl (by kernel_rfl) (by kernel_rfl) (by kernel_rfl) ?_
      case hR =>
        rintro c tt W' ⟨rfl, hn, hb⟩
        go_simp
        go_wp2_with fail
        exact ⟨rfl, .inr ⟨by rw [HRD.out, hn]; rfl, rfl, hb⟩⟩
      generalize wr.drew = WD at *
      haveI : Nonempty (ExtC (HasBox gx (repCs code num ad n ca t x m s pd k pc (strL text)))) := ⟨⟨WD, Q1.out.a⟩⟩
      have d7 : ∀ q : ExtC (HasBox gx (repCs code num ad n ca t x m s pd k pc (strL text))), _ := fun q => (AC.rep q.ok).2.2.2.2.2.2.2.1
      repeat (refine wpI_step rfl (fun K hK => ?_); go_simp; first | (refine hK _ ?_; clear hK K) | (apply Exists.intro; refine ⟨fun q => ?_, hK _ ?_⟩; fail))
      refine wpI_nil ?_
      clear d7 this
      refine wpAnyP_one (i := 3) (by kernel_rfl) ?_
      intro W8 hb8
      go_simp
      have Q2 := Lib.hid (Q1.out.keep hb8)
      clear hb8
      refine (ptext_any (w.heap.size + 1) lk W8 Q2.out.g.c HZ.out).mono ?_
      rintro e W9 (⟨key, la, ha, rfl, hb⟩ | ⟨hn, rfl, r, hb⟩)
      case inr =>
        exact .inr ⟨_, rfl, rfl, by rw [HD.out]; simp [rdPairs, rdPair, hn], Q2.out.g.bad hb⟩
      have HA := Lib.hid ha
      have hza : la.length ≤ 1000000 := by have := (rdText_len ha).1; have := HZ.out; omega
      have Q3 := Lib.hid ((Q2.out.set la).keep hb)
      clear ha hb Q2
      refine .inl ⟨_, rfl, Q3.out.a, ?_⟩
      refine wpAnyP_one (i := 5) (by kernel_rfl) ?_
      intro W10 hb10
      go_simp
      have Q4 := Lib.hid (Q3.out.keep hb10)
      clear hb10 Q3
      refine (pval_any (w.heap.size + 1) la W10 Q4.out.g.c hza).mono ?_
      rintro e W11 (⟨⟨vt, vx, vm, vs⟩, lb, hlb, rfl, hb⟩ | ⟨hn, rfl, r, hb⟩)
      case inr =>
        exact .inr ⟨_, rfl, rfl, by rw [HD.out]; simp [rdPairs, rdPair, HA.out, hn], Q4.out.g.bad hb⟩
      have hzb : lb.length ≤ 1000000 := by have := (rdVal_back hlb).2.2.2.2; omega
      have HS : Hid (rdPairs pn l6 = (rdPairs j lb).map fun p => ((acc ++ [(strL key, ⟨vt, vx, vm, vs⟩)]) ++ p.1, p.2)) := Lib.hid (by
        rw [HD.out]
        simp only [rdPairs, rdPair, HA.out, hlb, Option.bind_some, Option.map_some]
        rw [Option.map_map]
        congr 1
        funext p
        simp [strL])
      have Q5 := Lib.hid ((Q4.out.set lb).keep hb)
      clear hlb hb Q4 HD HA
      refine .inl ⟨_, rfl, Q5.out.a, ?_⟩
      dsimp only
      refine wpAnyP_one (i := 6) (by kernel_rfl) ?_
      intro W12 hb12
      go_simp
      have Q6 := Lib.hid (Q5.out.keep hb12)
      clear hb12 Q5
      refine ⟨Q6.out.a, ?_⟩
      refine wpAnyP_one (i := 7) (by kernel_rfl) ?_
      intro W13 hb13
      go_simp
      have hbl := (Bl.refl W13).alloc (.cells #[.string (strL key), .bool vt, .float .f64 vx, .int .i64 vm, .string vs] 52)
      have hlit : (W13.alloc (.cells #[.string (strL key), .bool vt, .float .f64 vx, .int .i64 vm, .string vs] 52)).heap[W13.heap.size]? = some (.cells (pairCs (strL key, ⟨vt, vx, vm, vs⟩)).toArray 52 (0, 0)) := heap_alloc_new W13 _
      have Q7 := Lib.hid ((Q6.out.keep hb13).keep hbl)
      have HL := Lib.hid (SG.lit (size := 5) hlit rfl (by simp [pairCs, Value.oneCell']))
      clear hlit hbl hb13 Q6
      refine ⟨Q7.out.a, ?_⟩
      generalize W13.alloc _ = W14 at *
      generalize W13.heap.size = gl at *
      refine wpAnyP_one (i := 8) (by kernel_rfl) ?_
      intro W15 hb15
      have Q8 := Lib.hid (Q7.out.keep hb15)
      have HL2 := Lib.hid (HL.out.keep hb15)
      clear HL Q7 hb15
      refine pOp_appG rfl rfl _ _ _ rfl el_pair (gx + 1) (.slice pd k pc) k (cellsP acc) rfl Q8.out.o.2 Q8.out.lt (some ⟨gl, 0, none⟩) 1 1 (pairCs (strL key, ⟨vt, vx, vm, vs⟩)) rfl HL2.out (by unfold maxLen; omega) (by omega) ?_
      intro v' W16 ho hgr
      have Q9 := Lib.hid (Q8.out.app (strL key, ⟨vt, vx, vm, vs⟩) ho hgr)
      clear ho hgr Q8 HL2
      obtain ⟨pd', pc', rfl⟩ := Q9.out.o.form
      refine ⟨fun _ => Q9.out.a, ?_⟩
      simp only [Act.put, List.setIfInBounds_toArray]
      refine wpAnyP_one (i := 9) (by kernel_rfl) ?_
      intro W17 hb17
      go_simp
      have Q10 := Lib.hid (Q9.out.keep hb17)
      clear hb17 Q9
      refine ⟨Q10.out.a, ?_⟩
      refine wpAnyP_one (i := 10) (by kernel_rfl) ?_
      intro W18 hb18
      have Q11 := Lib.hid (Q10.out.keep hb18)
      clear hb18 Q10
      have f7 := Q11.out.a.frozen 7
      have e7 := Q11.out.a.cell 7 _ rfl
      go_simp
      have Q12 := Lib.hid (Q11.out.store 7 (.slice pd' (k + 1) pc'))
      clear f7 e7 Q11
      generalize World.setCell _ _ (.slice pd' (k + 1) pc') = W19 at *
      refine wpAnyP_done (by kernel_rfl) ?_
      intro W20 hb20
      have Q13 : Hid (PG w W20 lb gx (repCs code num ad n ca t x m s pd' (k + 1) pc' (strL text)) ad n xs (.slice pd' (k + 1) pc') (k + 1) (acc ++ [(strL key, ⟨vt, vx, vm, vs⟩)])) := Lib.hid (Q12.out.keep hb20)
      clear Q12 hb20
      go_wp2_with fail
      go_roundw
      case rel => exact ⟨k + 1, lb, _, pd', pc', by omega, by go_num, Q13.out, hzb, by rw [show pn - (k + 1) = j by omega]; exact HS.out⟩
      case measure => simp [intOf]; omega
    · have hkp : k = pn := by omega
      subst hkp
      have HE : Hid (rdReply l0 = if lk = [] then some ⟨code, num, xs, ⟨t, x, m, s⟩, acc, strL text⟩ else none) := Lib.hid (by
        rw [HRD.out, HD.out, Nat.sub_self]
        simp [rdPairs])
      clear HRD HD
      have hc1 := Q.out.g.c.cell
      by_cases h0 : lk = []
      · subst h0
        have q : (strL []).toList.isEmpty = true := by rw [ByteArray.toList_eq]; rfl
        have HF : Hid (FarPO (gx + 1) wr pd k pc acc) := Lib.hid Q.out.o
        go_wp2_with fail
        refine (pwant_yes _).mono ?_
        rintro e W12 ⟨rfl, rfl⟩
        obtain ⟨d0, d1, d2, d3, d4, d5, d6, d7, d8⟩ := Q.out.a.rep
        have fr := Q.out.g.r.frozen
        obtain ⟨r0, r1, r2, r3, r4, r5, r6, r7, r8⟩ := AC.rep Q.out.g.r
        go_wp2_with fail
        refine bodyPost_ret (gr_results rfl (Q.out.g.r.fill (repCs code num ad n ca t x m s pd k pc (strL text)) rfl)) rfl (.inl ⟨⟨code, num, xs, ⟨t, x, m, s⟩, acc, strL text⟩, ad, n, ca, pd, k, pc, ?_, rfl, ?_, ?_, ?_⟩)
        · rw [HE.out]; simp
        · exact (FarO.fill (q := w.heap.size) (by omega) (repCs code num ad n ca t x m s pd k pc (strL text)) _ 0 Q.out.x).mono (by omega)
        · exact (FarPO.fill (q := w.heap.size) (by have := Q.out.ge; omega) (repCs code num ad n ca t x m s pd k pc (strL text)) _ 0 HF.out).mono (by have := Q.out.ge; omega)
        · exact Bl.fill (Nat.le_refl _) (repCs code num ad n ca t x m s pd k pc (strL text)) _ 0 Q.out.g.bl
      · have q : (strL lk).toList.isEmpty = false := filled_L h0
        have HN := Lib.hid h0
        clear h0
        go_wp2_with fail
        refine (pwant_no _).mono ?_
        rintro e W12 ⟨rfl, rfl⟩
        unfold panE
        go_wp2_with fail
        exact ⟨rfl, .inr ⟨by rw [HE.out, if_neg HN.out], rfl, Q.out.g.bl⟩⟩
end Go.Proofs.YtaelghbjbopilaaGreat
end

/- proto.safely of an answer, proto.GetReply. By an AI agent. -/
section
set_option linter.unusedVariables false
set_option linter.unusedSimpArgs false
namespace Go.Proofs.YtaelghbjbopilaaGreat
open Go.RowKit

theorem rcatch_idle (a0 a1 : Addr) (w : World) :
    CallsD Tryz.prog 127 #[.pointer (some a0), .pointer (some a1)] .returning w fun e u' w' => e = .returned (.tuple #[]) ∧ u' = .returning ∧ w' = w := by
  refine callsD_of_wpS Tryz.func127 rfl fun c₀ cs hu => ?_
  apply wpS_seq
  apply wpS_region
  simp [wpOpsS, go_sem, recoverD, hu, Tryz.ntmps127, Exit.thenS]
  apply wpS_seq
  apply wpS_region
  simp [wpOpsS, go_sem, Exit.thenS]
  refine wpS_cond (t := false) (by simp [Act.eval, Array.replicate]) ?_
  simp only [Bool.false_eq_true, if_false]
  refine wpS_of_wp (wp_skip ?_)
  cases c₀
  simp_all [bodyPostS, results, Tryz.results127]

set_option maxHeartbeats 1600000 in
set_option maxRecDepth 100000 in
theorem rcatch_code (g0 g1 : Nat) (c : Int) (v1 : Value) (older : List PanicEntry) (w : World) (h0 : AC w g0 zeroRepCs) (h1 : AC w g1 [v1]) (n01 : g0 ≠ g1) :
    CallsD Tryz.prog 127 #[.pointer (some ⟨g0, 0, none⟩), .pointer (some ⟨g1, 0, none⟩)] (.panicking ({ v := .iface 22 (.int .i64 c), recovered := false } :: older)) w fun e u' w' =>
      e = .returned (.tuple #[]) ∧ u' = .panicking ({ v := .iface 22 (.int .i64 c), recovered := true } :: older) ∧ w' = (fill (w.alloc (.cells zeroRepCs.toArray 30)) g0 0 zeroRepCs).setCell ⟨g1, 0, none⟩ (.int .i64 c) := by
  have hsf := store_float
  have h2 := AC.new w w.heap.size rfl zeroRepCs 30
  have hk := h0.keep ((Bl.refl w).alloc (.cells zeroRepCs.toArray 30))
  have hk1 := h1.keep ((Bl.refl w).alloc (.cells zeroRepCs.toArray 30))
  have H4 := AC.fillOther (Ne.symm n01) zeroRepCs _ 0 hk1
  have f0 := hk.frozen
  obtain ⟨k0, k1, k2, k3, k4, k5, k6, k7, k8⟩ := AC.rep hk
  obtain ⟨d0, d1, d2, d3, d4, d5, d6, d7, d8⟩ := AC.rep h2
  have e0 := H4.cell 0 _ rfl
  have ef := H4.frozen 0
  simp only [zeroRepCs, repCs, fill] at *
  refine callsD_of_wpS Tryz.func127 rfl fun c₀ cs hu => ?_
  apply wpS_seq
  apply wpS_region
  simp [wpOpsS, go_sem, recoverD, hu, Tryz.ntmps127, Exit.thenS]
  apply wpS_seq
  apply wpS_region
  simp [wpOpsS, go_sem, Exit.thenS]
  refine wpS_cond (t := true) (by simp [Act.eval, Array.replicate]) ?_
  simp only [if_true]
  apply wpS_seq
  apply wpS_region
  simp [wpOpsS, go_sem, Exit.thenS, assert_code, recoverD]
  apply wpS_seq
  apply wpS_seq
  apply wpS_region
  simp [wpOpsS, go_sem, Exit.thenS, recoverD]
  refine wpS_cond (t := false) (by simp [Act.eval, Array.replicate]) ?_
  simp only [Bool.false_eq_true, if_false]
  refine wpS_of_wp (wp_skip ?_)
  simp only [Exit.thenS]
  apply wpS_seq
  apply wpS_region
  simp [wpOpsS, go_sem, Exit.thenS, recoverD]
  clear h0 h1 h2 hk hk1 H4
  generalize w.alloc (.cells #[.int .i64 0, .int .i64 0, .slice none 0 0, .bool false, .float .f64 0, .int .i64 0, .string ⟨#[]⟩, .slice none 0 0, .string ⟨#[]⟩] 30) = W at *
  apply wpS_region
  simp [wpOpsS, go_sem, hsf, f0, k0, k1, k2, k3, k4, k5, k6, k7, k8, d0, d1, d2, d3, d4, d5, d6, d7, d8, e0, ef, recoverD, bodyPostS, results, Tryz.results127]

theorem rsafely_results {tmps : Array Value} {W : World} {g0 g1 : Nat} {code num : Int} {ad : Option Addr} {n ca : Nat} {t : Bool} {x : Nat} {m : Int} {s : ByteArray} {pd : Option Addr} {pn pc : Nat} {text : ByteArray} {e : Int} (h0 : tmps.getD 2 undef = .pointer (some ⟨g0, 0, none⟩)) (h1 : tmps.getD 3 undef = .pointer (some ⟨g1, 0, none⟩))
    (hc : AC W g0 (repCs code num ad n ca t x m s pd pn pc text)) (d1 : AC W g1 [.int .i64 e]) :
    (results Tryz.f38 tmps).run Tryz.prog W = .ok (.tuple #[repV code num ad n ca t x m s pd pn pc text, .int .i64 e]) W := by
  rw [Array.getD_eq_getD_getElem?] at h0 h1
  obtain ⟨c0, c1, c2, c3, c4, c5, c6, c7, c8⟩ := hc.rep
  have k8 := d1.cell 0 _ rfl
  simp [results, Tryz.results38, go_sem, h0, h1, c0, c1, c2, c3, c4, c5, c6, c7, c8, k8, repV]
/-- what GetReply comes to -/
def GetPostR (w : World) (l : List UInt8) (e : Ending) (w' : World) : Prop :=
  (∃ (r : ReplyL) (ad : Option Addr) (n ca : Nat) (pd : Option Addr) (pn pc : Nat), rdReply l = some r ∧ e = .returned (.tuple #[repV r.code r.num ad n ca r.val.there r.val.x r.val.n r.val.s pd pn pc r.text, .int .i64 0]) ∧ FarO w.heap.size w' ad n ca r.at_ ∧ FarPO w.heap.size w' pd pn pc r.pairs ∧ Bl w w') ∨
  (rdReply l = none ∧ e = .returned (.tuple #[repV 0 0 none 0 0 false 0 0 ⟨#[]⟩ none 0 0 ⟨#[]⟩, .int .i64 4]) ∧ Bl w w')
set_option maxHeartbeats 1600000 in
set_option maxRecDepth 100000 in
theorem safelyR_any (gb : Nat) (l : List UInt8) (w : World) (hg : C1 w gb (.string (strL l))) (hz : l.length ≤ 65536) :
    Calls Tryz.prog 38 #[.func (.func 39) #[] #[.pointer (some ⟨gb, 0, none⟩)]] w (GetPostR w l) := by
  have hmf := hmf
  have hsf := store_float
  have H := Lib.hid (fun w hg => getReply1_any gb l w hg hz)
  have G := SF.new w 30 22 zeroRepCs 0
  have hsz : w.heap.size + 2 ≤ ((w.alloc (.cells zeroRepCs.toArray 30)).alloc (.cells #[.int .i64 0] 22)).heap.size := by simp
  have hg2 := hg.keep G.bl
  clear hg
  unfold zeroRepCs repCs at G hsz hg2
  go_enter_defers Tryz.func38, Tryz.ntmps38
  go_wp2_with fail
  generalize (w.alloc (.cells #[.int .i64 0, .int .i64 0, .slice none 0 0, .bool false, .float .f64 0, .int .i64 0, .string ⟨#[]⟩, .slice none 0 0, .string ⟨#[]⟩] 30)).alloc (.cells #[.int .i64 0] 22) = W at *
  have GH := Lib.hid G
  clear G
  refine (H.out _ hg2).mono ?_
  rintro e w1 (⟨⟨code, num, xs, ⟨t, x, m, s⟩, ps, text⟩, ad, n, ca, pd, pn, pc, hr, rfl, hF, hP, hb1⟩ | ⟨hr, rfl, hb1⟩)
  · have HR := Lib.hid hr
    have G := GH.out.keep hb1
    have HF := Lib.hid (hF.mono hsz)
    have HP := Lib.hid (hP.mono hsz)
    clear hb1 hr hF hP hsz hg2 GH
    dsimp only at *
    unfold repV
    have fr := G.r.frozen
    have k0 := G.r.cell 0 _ rfl
    have k1 := G.r.cell 1 _ rfl
    have k2 := G.r.cell 2 _ rfl
    have k3 := G.r.cell 3 _ rfl
    have k4 := G.r.cell 4 _ rfl
    have k5 := G.r.cell 5 _ rfl
    have k6 := G.r.cell 6 _ rfl
    have k7 := G.r.cell 7 _ rfl
    have k8 := G.r.cell 8 _ rfl
    have H4 := AC.fillOther (g := w.heap.size + 1) (g' := w.heap.size) (by omega) (repCs code num ad n ca t x m s pd pn pc text) w1 0 G.t
    have e0 := H4.cell 0 _ rfl
    have ef := H4.frozen 0
    simp only [repCs, fill] at e0 ef
    have GH := Lib.hid G
    clear H4 G
    go_wp2_with fail
    refine leaves_cons (f := 127) (args := #[.pointer (some ⟨w.heap.size, 0, none⟩), .pointer (some ⟨w.heap.size + 1, 0, none⟩)]) (by simp) (by simp [go_sem]) ?_
    refine (rcatch_idle _ _ _).mono ?_
    rintro e u' w'' ⟨rfl, rfl, rfl⟩
    have G2 := GH.out.set (repCs code num ad n ca t x m s pd pn pc text) rfl 0
    have hF2 : FarO w.heap.size _ ad n ca xs := ((FarO.fill (q := w.heap.size) (by omega) (repCs code num ad n ca t x m s pd pn pc text) w1 0 HF.out).set (q := w.heap.size + 1) (by omega) 0 (.int .i64 0)).mono (by omega)
    have hP2 : FarPO w.heap.size _ pd pn pc ps := ((FarPO.fill (q := w.heap.size) (by omega) (repCs code num ad n ca t x m s pd pn pc text) w1 0 HP.out).set (q := w.heap.size + 1) (by omega) 0 (.int .i64 0)).mono (by omega)
    exact leaves_ret (rsafely_results rfl rfl G2.r G2.t) (.inl ⟨⟨code, num, xs, ⟨t, x, m, s⟩, ps, text⟩, ad, n, ca, pd, pn, pc, HR.out, rfl, hF2, hP2, G2.bl⟩)
  · have G := GH.out.keep hb1
    unfold panE
    clear hb1 hg2
    refine leaves_cons (f := 127) (args := #[.pointer (some ⟨w.heap.size, 0, none⟩), .pointer (some ⟨w.heap.size + 1, 0, none⟩)]) (by simp) (by simp [go_sem]) ?_
    refine (rcatch_code w.heap.size (w.heap.size + 1) 4 _ [] _ G.r G.t (by omega)).mono ?_
    rintro e u' w'' ⟨rfl, rfl, rfl⟩
    have G := (G.keep ((Bl.refl _).alloc (.cells zeroRepCs.toArray 30))).set zeroRepCs rfl 4
    exact leaves_back (rsafely_results rfl rfl G.r G.t) (.inr ⟨hr, rfl, G.bl⟩)
theorem getReply_results {tmps : Array Value} {W : World} {g0 : Nat} {code num : Int} {ad : Option Addr} {n ca : Nat} {t : Bool} {x : Nat} {m : Int} {s : ByteArray} {pd : Option Addr} {pn pc : Nat} {text : ByteArray} {e : Int} (h0 : tmps.getD 2 undef = .pointer (some ⟨g0, 0, none⟩)) (h1 : tmps.getD 3 undef = .int .i64 e)
    (hc : AC W g0 (repCs code num ad n ca t x m s pd pn pc text)) :
    (results Tryz.f12 tmps).run Tryz.prog W = .ok (.tuple #[repV code num ad n ca t x m s pd pn pc text, .int .i64 e]) W := by
  rw [Array.getD_eq_getD_getElem?] at h0 h1
  obtain ⟨c0, c1, c2, c3, c4, c5, c6, c7, c8⟩ := hc.rep
  simp [results, Tryz.results12, go_sem, h0, h1, c0, c1, c2, c3, c4, c5, c6, c7, c8, repV]
set_option maxHeartbeats 1600000 in
set_option maxRecDepth 100000 in
theorem getReply_any (l : List UInt8) (w : World) (hz : l.length ≤ 65536) :
    Calls Tryz.prog 12 #[.string (strL l)] w (GetPostR w l) := by
  have hmf := hmf
  have hsf := store_float
  have hg := (C1.new w w.heap.size rfl (.string (strL l)) 9).keep ((Bl.refl _).alloc (.cells zeroRepCs.toArray 30))
  have hr := AC.new (w.alloc (.cells #[.string (strL l)] 9)) (w.heap.size + 1) (by simp) zeroRepCs 30
  have hb0 : Bl w ((w.alloc (.cells #[.string (strL l)] 9)).alloc (.cells zeroRepCs.toArray 30)) := ((Bl.refl w).alloc _).alloc _
  have hsz : w.heap.size + 2 ≤ ((w.alloc (.cells #[.string (strL l)] 9)).alloc (.cells zeroRepCs.toArray 30)).heap.size := by simp
  unfold zeroRepCs repCs at hg hr hb0 hsz
  have H := Lib.hid (fun w hg => safelyR_any w.heap.size l w hg hz)
  go_enter Tryz.func12, Tryz.ntmps12
  go_wp2_with fail
  generalize (w.alloc (.cells #[.string (strL l)] 9)).alloc (.cells #[.int .i64 0, .int .i64 0, .slice none 0 0, .bool false, .float .f64 0, .int .i64 0, .string ⟨#[]⟩, .slice none 0 0, .string ⟨#[]⟩] 30) = W at *
  refine (safelyR_any w.heap.size l _ hg hz).mono ?_
  rintro e w1 (⟨⟨code, num, xs, ⟨t, x, m, s⟩, ps, text⟩, ad, n, ca, pd, pn, pc, hrd, rfl, hF, hP, hb1⟩ | ⟨hrd, rfl, hb1⟩)
  · have HR := Lib.hid hrd
    have G := hr.keep hb1
    have HB := Lib.hid (hb0.trans hb1)
    have HF := Lib.hid (hF.mono hsz)
    have HP := Lib.hid (hP.mono hsz)
    clear hb1 hrd hF hP hsz hg hr hb0
    dsimp only at *
    unfold repV
    have fr := G.frozen
    obtain ⟨k0, k1, k2, k3, k4, k5, k6, k7, k8⟩ := AC.rep G
    have GH := Lib.hid G
    clear G
    go_wp2_with fail
    refine bodyPost_ret (getReply_results rfl rfl (GH.out.fill (repCs code num ad n ca t x m s pd pn pc text) rfl)) rfl (.inl ⟨⟨code, num, xs, ⟨t, x, m, s⟩, ps, text⟩, ad, n, ca, pd, pn, pc, HR.out, rfl, ?_, ?_, ?_⟩)
    · exact (HF.out.fill (q := w.heap.size + 1) (by omega) (repCs code num ad n ca t x m s pd pn pc text) w1 0).mono (by omega)
    · exact (HP.out.fill (q := w.heap.size + 1) (by omega) (repCs code num ad n ca t x m s pd pn pc text) w1 0).mono (by omega)
    · exact Bl.fill (Nat.le_succ _) (repCs code num ad n ca t x m s pd pn pc text) _ 0 HB.out
  · have HR := Lib.hid hrd
    have G := hr.keep hb1
    have HB := Lib.hid (hb0.trans hb1)
    clear hb1 hrd hsz hg hr hb0
    unfold repV
    have fr := G.frozen
    obtain ⟨k0, k1, k2, k3, k4, k5, k6, k7, k8⟩ := AC.rep G
    have GH := Lib.hid G
    clear G
    go_wp2_with fail
    refine bodyPost_ret (getReply_results rfl rfl (GH.out.fill zeroRepCs rfl)) rfl (.inr ⟨HR.out, rfl, ?_⟩)
    exact Bl.fill (Nat.le_succ _) zeroRepCs _ 0 HB.out
end Go.Proofs.YtaelghbjbopilaaGreat
end

/- From a walk ('it returns true, and nothing that was there has turned') to the given statement. By an AI agent. -/
section
namespace Go.Proofs.YtaelghbjbopilaaGreat
open Go.ChangeShapes Go.WideShapes Go.ChangeAt Go.RowKit

theorem own : ownKnob Tryz.prog.godebug = none := by kernel_rfl
theorem laidOut : laidOutB Tryz.prog = true := by kernel_rfl

section
variable {H : Type} {enc : TypeId × Value → H}

/-- arguments that can be read, read as they did -/
theorem trodAll_keep {W W' : World} (hb : Bl W W') : ∀ (ts : List TypeId) (vs : List Value) (ds : List (DataW H)) (ps : List MemPlace),
    (∀ t ∈ ts, Tryz.prog.readableRec t = true ∧ t < Tryz.prog.types.size) → (∀ x ∈ ps, x.block < W.heap.size) →
    DataW.TrodAll enc Tryz.prog W 0 (fun _ => true) true ts vs ds ps → DataW.TrodAll enc Tryz.prog W' 0 (fun b => decide (b < W.heap.size)) true ts vs ds ps
  | [], [], [], ps, _, _, h => h
  | t :: ts, v :: vs, d :: ds, ps, hr, hlt, h => by
    obtain ⟨p, q, h1, h2, rfl⟩ := h
    exact ⟨p, q, Below.trod laidOut (hr t (by simp)).1 (hr t (by simp)).2 h1 hb (fun x hx => hlt x (by simp [hx])), trodAll_keep hb ts vs ds q (fun t ht => hr t (by simp [ht])) (fun x hx => hlt x (by simp [hx])) h2, rfl⟩
  | [], [], _ :: _, _, _, _, h => h.elim
  | [], _ :: _, _, _, _, _, h => h.elim
  | _ :: _, [], _, _, _, _, h => h.elim
  | _ :: _, _ :: _, [], _, _, _, h => h.elim

theorem trodAll_len {P : Program} {w : World} {b : Nat} {sp : Nat → Bool} {hd : Bool} : ∀ (ts : List TypeId) (vs : List Value) (ds : List (DataW H)) (ps : List MemPlace), DataW.TrodAll enc P w b sp hd ts vs ds ps → ds.length = ts.length
  | [], [], [], _, _ => rfl
  | _ :: ts, _ :: vs, _ :: ds, _, h => by
    obtain ⟨p, q, h1, h2, e⟩ := h
    simp [trodAll_len ts vs ds q h2]
  | [], [], _ :: _, _, h => h.elim
  | [], _ :: _, _, _, h => h.elim
  | _ :: _, [], _, _, h => h.elim
  | _ :: _, _ :: _, [], _, h => h.elim

/-- THE LAW's POST, out of its walk -/
theorem law_post {f : FuncId} {fn : Func} {s : ChangeSpec} {W : World} {args : Array Value} {ds gs : List (DataW H)} {before : List MemPlace}
    (hres : fn.resultTypes = #[4]) (hvars : s.vars = []) (hread : ∀ t ∈ fn.params.toList, Tryz.prog.readableRec t = true ∧ t < Tryz.prog.types.size)
    (hfn : ∀ ds : List (DataW H), ds.length = fn.params.toList.length → s.fn H ds = { results := [.lit (.bool true)], args := ds })
    (hW : DataW.Whole enc Tryz.prog fn.params.toList s.vars false W args.toList ds gs before)
    (hc : Calls Tryz.prog f args W fun e W' => e = .returned (.bool true) ∧ Bl W W') :
    Calls Tryz.prog f args W fun e W' => ∃ v, e = .returned v ∧ s.post enc Tryz.prog fn false true false false W args v W' := by
  refine hc.mono fun e W' ⟨he, hb⟩ => ?_
  subst he
  have hW' := hW
  obtain ⟨p, q, hA, hV, rfl, _, _⟩ := hW
  rw [hvars] at hV
  obtain ⟨rfl, rfl⟩ := trodVars_none hV
  have hl : ds.length = fn.params.toList.length := trodAll_len _ _ _ _ hA
  have e1 := hfn (ds ++ []) (by simpa using hl)
  simp only [List.append_nil] at hW' e1
  refine ⟨_, rfl, ds, [], p, [], p, [], hW', ?_, ?_, ?_, Below.frame hb _, fun h => by cases h⟩
  · simp only [List.append_nil, e1, hres]
    exact trodAll_mk1 (shut_bool Tryz.underlying4 _)
  · simp only [List.append_nil, e1]
    exact trodAll_keep hb _ _ _ _ hread (fun x hx => by have := hW'.lt x hx; simpa using this) hA
  · simp only [List.append_nil, e1, hvars]
    rfl

theorem cells_int : Tryz.prog.cellsOf 3 = 1 := by kernel_rfl
theorem bytes_int : Tryz.prog.bytesOf 3 = 8 := by kernel_rfl

end
end Go.Proofs.YtaelghbjbopilaaGreat
end

/- Arguments opened: numbers, strings, vectors, structs and slices of structs, by the cells that they read. By an AI agent. -/
section
namespace Go.Proofs.YtaelghbjbopilaaGreat
open Go.ChangeShapes Go.WideShapes Go.ChangeAt Go.RowKit Go.Deep

section
variable {H : Type} {enc : TypeId × Value → H}

/-- no part of the datum is too great -/
def Wt (t : TypeId) (d : DataW H) : Prop := ∀ m ∈ d.weights Tryz.prog t, m ≤ reachBytes

theorem wt_arg {ts : List TypeId} {ds : List (DataW H)} (h : (DataW.weightsEach Tryz.prog ts ds).all (· ≤ reachBytes) = true) {j : Nat} {t : TypeId} {d : DataW H} (ht : ts[j]? = some t) (hd : ds[j]? = some d) : Wt t d :=
  fun m hm => by simpa using List.all_eq_true.1 h m (DataW.weights_mem_each ht hd m hm)
theorem wt_part {t : TypeId} {fs : Array Field} {parts : List (DataW H)} (hu : Tryz.prog.underlying t = some (.struct fs)) (h : Wt t (.agg parts)) {j : Nat} {f : Field} {d : DataW H} (hf : fs[j]? = some f) (hd : parts[j]? = some d) : Wt f.type d :=
  fun m hm => h m (by
    simp only [DataW.weights, hu]
    exact DataW.weights_mem_each (j := j) (by simp [hf]) hd m hm)
theorem weights_all {e : TypeId} {l : List (DataW H)} {d : DataW H} (hd : d ∈ l) {m : Nat} (hm : m ∈ d.weights Tryz.prog e) : m ∈ DataW.weightsAll Tryz.prog e l := by
  induction l with
  | nil => simp at hd
  | cons a l ih =>
    simp only [DataW.weightsAll, List.mem_append]
    rcases List.mem_cons.1 hd with rfl | h
    · exact .inl hm
    · exact .inr (ih h)
theorem wt_slice {t e : TypeId} {elems spare : List (DataW H)} (hu : Tryz.prog.underlying t = some (.slice e)) (h : Wt t (.slice elems spare)) :
    (elems.length + spare.length) * Tryz.prog.bytesOf e ≤ reachBytes ∧ ∀ d ∈ elems, Wt e d := by
  refine ⟨h _ (by simp [DataW.weights, hu]), fun d hd m hm => h m ?_⟩
  simp only [DataW.weights, hu, List.mem_cons, List.mem_append]
  exact .inr (.inl (weights_all hd hm))

/-- what lies at cells, as a datum of a type -/
def Rd (W : World) (t : TypeId) (cs : List Value) (d : DataW H) : Prop := ∃ (fuel : Nat) (ps : List MemPlace), DataW.trod enc Tryz.prog W 0 (fun _ => true) true fuel t cs = some (d, ps)

theorem rd_of_trod {W : World} {t : TypeId} {v : Value} {d : DataW H} {p : List MemPlace} (h : DataW.Trod enc Tryz.prog W 0 (fun _ => true) true t v d p) : Rd (enc := enc) W t v.cells.toList d := by
  obtain ⟨fuel, h⟩ := h
  exact ⟨fuel, p, h⟩

theorem rd_int {W : World} {cs : List Value} {d : DataW H} {t : TypeId} (hu : Tryz.prog.underlying t = some (.int .i64)) (h : Rd (enc := enc) W t cs d) : ∃ n, cs = [.int .i64 n] ∧ -9223372036854775808 ≤ n ∧ n ≤ 9223372036854775807 := by
  obtain ⟨fuel, ps, h⟩ := h
  obtain ⟨n, h1, _, h3⟩ := DataW.trod_int hu h
  have := bounds_i64 h3
  exact ⟨n, h1, this⟩
theorem rd_bool {W : World} {cs : List Value} {d : DataW H} {t : TypeId} (hu : Tryz.prog.underlying t = some .bool) (h : Rd (enc := enc) W t cs d) : ∃ b, cs = [.bool b] := by
  obtain ⟨fuel, ps, h⟩ := h
  obtain ⟨n, h1, _⟩ := DataW.trod_bool hu h
  exact ⟨n, h1⟩
theorem rd_float {W : World} {cs : List Value} {d : DataW H} {t : TypeId} (hu : Tryz.prog.underlying t = some (.float .f64)) (h : Rd (enc := enc) W t cs d) : ∃ x : Nat, cs = [.float .f64 x] ∧ x < 18446744073709551616 := by
  obtain ⟨fuel, ps, h⟩ := h
  cases fuel with
  | zero => simp [DataW.trod] at h
  | succ n =>
    unfold DataW.trod at h
    rw [hu] at h
    split at h <;> simp_all
    rename_i he
    subst he
    have h2 := h.1.2
    simpa [Lit.wf] using h2
theorem rd_vec {W : World} {cs : List Value} {d : DataW H} (h : Rd (enc := enc) W 24 cs d) (hw : Wt 24 d) : ∃ a n cap xs, cs = [.slice a n cap] ∧ IA W a n xs := by
  obtain ⟨fuel, ps, hf⟩ := h
  rcases open_ints Tryz.underlying24 Tryz.underlying3 cells_int hf with ⟨hcs, hx⟩ | ⟨a, len, cap, zs, hcs, _, hl, hm, hz, hx, hcell, hwz⟩
  · exact ⟨none, 0, 0, [], hcs, IA.nil _ _⟩
  · simp only [Prod.mk.injEq] at hx
    obtain ⟨rfl, rfl⟩ := hx
    simp only [if_true] at hz
    have hreach := (wt_slice Tryz.underlying24 hw).1
    rw [bytes_int] at hreach
    simp only [lits, List.length_map, List.length_take, List.length_drop, reachBytes] at hreach
    refine ⟨some a, len, cap, zs.take len, hcs, by rw [List.length_take]; omega, by omega, fun j hj => ?_, fun x hx => ?_⟩
    · obtain ⟨b, off, spot⟩ := a
      have hspot : spot = none := by simpa [Addr.add] using World.cell?_spot (hcell 0 (by omega))
      subst hspot
      refine ⟨b, off, rfl, fun j hj => ?_⟩
      rw [← add_plain, hcell j (by omega)]
      simp [nth, List.getD, hj]
    · exact bounds_i64 (hwz x (List.mem_of_mem_take hx))


end
end Go.Proofs.YtaelghbjbopilaaGreat
end

/- structs api.Act and api.Value among the cells of arguments. By an AI agent. -/
section
namespace Go.Proofs.YtaelghbjbopilaaGreat
open Go.ChangeShapes Go.WideShapes Go.ChangeAt Go.RowKit Go.Deep

section
variable {H : Type} {enc : TypeId × Value → H}
theorem cells_val : Tryz.prog.cellsOf 27 = 4 := by kernel_rfl
theorem cells_vec : Tryz.prog.cellsOf 24 = 1 := by kernel_rfl
theorem cells_str : Tryz.prog.cellsOf 9 = 1 := by kernel_rfl
theorem cells_flt : Tryz.prog.cellsOf 25 = 1 := by kernel_rfl
theorem cells_bool : Tryz.prog.cellsOf 4 = 1 := by kernel_rfl
end
end Go.Proofs.YtaelghbjbopilaaGreat
end

/- the state of archive.read. · archive.read. By an AI agent. -/
section
set_option linter.unusedVariables false
set_option linter.unusedSimpArgs false
namespace Go.Proofs.YtaelghbjbopilaaGreat
open Go.RowKit


end Go.Proofs.YtaelghbjbopilaaGreat

set_option linter.unusedVariables false
set_option linter.unusedSimpArgs false
namespace Go.Proofs.YtaelghbjbopilaaGreat
open Go.RowKit
attribute [local go_sem] eOp eOper eUpon pOp pOper pUpon

theorem AC.grown {w w' : World} {g : Nat} {cs : List Value} {row : Option Nat} (h : AC w g cs) (hg : w.grownBy w' row) (hn : some g ≠ row) : AC w' g cs := by
  obtain ⟨t, h⟩ := h
  exact ⟨t, by rw [hg.block g (lt_of_heap h) hn]; exact h⟩

end Go.Proofs.YtaelghbjbopilaaGreat
end
