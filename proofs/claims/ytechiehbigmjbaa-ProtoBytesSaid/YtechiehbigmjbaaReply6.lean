/- proto.GetReply's closure (printed by wip/gen/reply6.py). By an AI agent. -/
import Derived.Test.YtechiehbigmjbaaReply5
import Derived.Test.YtechiehbigmjbaaReply2
import Derived.Test.YtechiehbigmjbaaExt3
set_option linter.unusedVariables false
set_option linter.unusedSimpArgs false
namespace Go.Proofs.Ytechiehbigmjbaa
open Go.RowKit
attribute [local go_sem] eOp eOper eUpon pOp pOper pUpon

section
variable {ops : Array Oper}
theorem pOp_appG {R : List PanicEntry → World → Prop} {i : Nat} {o : Oper} {a : Act} {w : World} {K : Act → World → Prop} (ho' : ops[i]? = some o) (hgd : o.guard = none) (s x : Operand) (T : TypeId)
    (ho : o.op = .call { callee := .builtin .append, args := #[s, x], argTypes := #[T, T] }) {E : TypeId} {size bytes : Nat} (hT : EL T E size bytes) (B : Nat) (v : Value) (n : Nat) (xs : List Value) (hs : a.eval s = v) (hown : w.ownsRow B E size v n xs) (hB : B ≤ w.heap.size)
    (ad : Option Addr) (m c : Nat) (news : List Value) (hx : a.eval x = .slice ad m c) (hsc : SG w size ad m news) (h63 : n + m ≤ maxLen) (hbytes : (n + m) * bytes ≤ 140737488355328)
    (h : ∀ v' w', w'.ownsRow B E size v' (n + m) (xs ++ news) → w.grownBy w' v.ownBlock → K (a.put o.dst v') w') : pOp Try.prog R ops i K a w := by
  obtain ⟨v', w', hr, h2, h3⟩ := run_appG hT o.type v n xs hown ad m c news hsc h63 hbytes hB
  unfold pOp
  simp only [ho']
  rw [if_pos (by simp [Region.wanted, hgd])]
  unfold pOper execOp
  simp only [ho, resolve, invoke, builtin, Sem.run_bind, Sem.run_pure, Result.andThen_ok, List.map_toArray, List.map_cons, List.map_nil, hs, hx, hr, pUpon]
  exact h v' w' h2 h3
end
/-- worlds that hold a box -/
def HasBox (g : Nat) (cs : List Value) (W' : World) : Prop := AC W' g cs
theorem HasBox.keep {g : Nat} {cs : List Value} (w w' : World) (h : HasBox g cs w) (k : Bl w w') : HasBox g cs w' := AC.keep h k
set_option maxHeartbeats 6400000 in
set_option maxRecDepth 100000 in
theorem getReply1_any (gb : Nat) (l0 : List UInt8) (w : World) (hg : C1 w gb (.string (strL l0))) (hz0 : l0.length ≤ 65536) :
    Calls Try.prog 120 #[.pointer (some ⟨gb, 0, none⟩)] w (RepPost w l0) := by
  have hsf := store_float
  have hbr := (Bl.refl w).alloc (.cells zeroRepCs.toArray 94)
  have c0 := (hg.keep hbr).cell
  have cz := strL_size l0
  unfold zeroRepCs repCs at c0
  clear hg
  go_enter Try.func120, Try.ntmps120
  go_wp2_with fail
  rw [show decide ((l0.length : Int) ≤ 65536) = true from decide_eq_true (by omega)]
  refine (pwant_yes _).mono ?_
  rintro e W12 ⟨rfl, rfl⟩
  go_wp2_with fail
  have G := GR.new w l0 94 148
  unfold zeroRepCs repCs at G
  generalize (w.alloc (.cells #[.int .i64 0, .int .i64 0, .slice none 0 0, .bool false, .float .f64 0, .int .i64 0, .string ⟨#[]⟩, .slice none 0 0, .string ⟨#[]⟩] 94)).alloc (.cells #[.string (strL l0)] 148) = W0 at *
  have GH := Lib.hid G
  clear c0 G cz hbr
  refine (pnum_any (w.heap.size + 1) l0 6 _ GH.out.c (by decide) (by decide)).mono ?_
  rintro e W1 (⟨code, l1, h1, rfl, rfl⟩ | ⟨hn, rfl, rfl⟩)
  case inr =>
    unfold panE
    go_wp2_with fail
    exact ⟨rfl, .inr ⟨by simp [rdReply, hn], rfl, GH.out.bl⟩⟩
  have H1 := Lib.hid h1
  have hz1 : l1.length ≤ 1000000 := by have := rdNum_len h1; omega
  replace GH := Lib.hid (GH.out.set l1)
  clear h1
  generalize World.setCell _ _ (.string (strL l1)) = W1 at *
  go_wp2_with fail
  refine (pnum_any (w.heap.size + 1) l1 6 _ GH.out.c (by decide) (by decide)).mono ?_
  rintro e W2 (⟨num, l2, h2, rfl, rfl⟩ | ⟨hn, rfl, rfl⟩)
  case inr =>
    unfold panE
    go_wp2_with fail
    exact ⟨rfl, .inr ⟨by simp [rdReply, H1.out, hn], rfl, GH.out.bl⟩⟩
  have H2 := Lib.hid h2
  have hz2 : l2.length ≤ 1000000 := by have := rdNum_len h2; omega
  replace GH := Lib.hid (GH.out.set l2)
  clear h2
  generalize World.setCell _ _ (.string (strL l2)) = W2 at *
  go_wp2_with fail
  refine (pvec_any (w.heap.size + 1) l2 _ GH.out.c hz2).mono ?_
  rintro e W3 (⟨ad, n, ca, xs, l3, h3, rfl, hb, hfar⟩ | ⟨hn, rfl, r, hb⟩)
  case inr =>
    unfold panE
    go_wp2_with fail
    exact ⟨rfl, .inr ⟨by simp [rdReply, H1.out, H2.out, hn], rfl, GH.out.bad hb⟩⟩
  have H3 := Lib.hid h3
  have hz3 : l3.length ≤ 1000000 := by have := rdVec_len h3; omega
  have HF : Hid (FarIA (w.heap.size + 1 + 1) W3 ad n xs) := Lib.hid (hfar.mono GH.out.lt)
  replace GH := Lib.hid ((GH.out.set l3).keep hb)
  clear h3 hb hfar
  go_wp2_with fail
  refine (pval_any (w.heap.size + 1) l3 _ GH.out.c hz3).mono ?_
  rintro e W4 (⟨⟨t, x, m, s⟩, l4, h4, rfl, hb⟩ | ⟨hn, rfl, r, hb⟩)
  case inr =>
    unfold panE
    go_wp2_with fail
    exact ⟨rfl, .inr ⟨by simp [rdReply, H1.out, H2.out, H3.out, hn], rfl, GH.out.bad hb⟩⟩
  have H4 := Lib.hid h4
  have hz4 : l4.length ≤ 1000000 := by have := (rdVal_back h4).2.2.2.2; omega
  replace HF := Lib.hid ((HF.out.set (Nat.lt_succ_self _) 0 (.string (strL l4))).keep hb)
  replace GH := Lib.hid ((GH.out.set l4).keep hb)
  clear h4 hb
  dsimp only
  go_wp2_with fail
  refine (ptext_any (w.heap.size + 1) l4 _ GH.out.c hz4).mono ?_
  rintro e W5 (⟨text, l5, h5, rfl, hb⟩ | ⟨hn, rfl, r, hb⟩)
  case inr =>
    unfold panE
    go_wp2_with fail
    exact ⟨rfl, .inr ⟨by simp [rdReply, H1.out, H2.out, H3.out, H4.out, hn], rfl, GH.out.bad hb⟩⟩
  have H5 := Lib.hid h5
  have hz5 : l5.length ≤ 1000000 := by have := (rdText_len h5).1; omega
  replace HF := Lib.hid ((HF.out.set (Nat.lt_succ_self _) 0 (.string (strL l5))).keep hb)
  replace GH := Lib.hid ((GH.out.set l5).keep hb)
  clear h5 hb
  go_wp2_with fail
  have Q := Lib.hid (PG.new GH.out HF.out (repCs code num ad n ca t x m s none 0 0 (strL text)) 94)
  unfold repCs at Q
  clear GH HF
  generalize W5.heap.size = gx at *
  generalize W5.alloc _ = W6 at *
  refine (pnum_any (w.heap.size + 1) l5 4 _ Q.out.g.c (by decide) (by decide)).mono ?_
  rintro e W7 (⟨N, l6, h6, rfl, rfl⟩ | ⟨hn, rfl, rfl⟩)
  case inr =>
    unfold panE
    go_wp2_with fail
    exact ⟨rfl, .inr ⟨by simp [rdReply, H1.out, H2.out, H3.out, H4.out, H5.out, hn], rfl, Q.out.g.bl⟩⟩
  have H6 := Lib.hid h6
  have hz6 : l6.length ≤ 1000000 := by have := rdNum_len h6; omega
  have hN0 : 0 ≤ N := (rdNum_back h6).2.1
  replace Q := Lib.hid (Q.out.set l6)
  clear h6
  generalize World.setCell _ _ (.string (strL l6)) = W7 at *
  by_cases hN : N ≤ 10000
  case neg =>
    have qt : decide (N ≤ 10000) = false := decide_eq_false hN
    have HN := Lib.hid hN
    clear hN
    go_wp2_with fail
    refine (pwant_no _).mono ?_
    rintro e W12 ⟨rfl, rfl⟩
    unfold panE
    go_wp2_with fail
    exact ⟨rfl, .inr ⟨by simp [rdReply, H1.out, H2.out, H3.out, H4.out, H5.out, H6.out]; intro h; have := HN.out; omega, rfl, Q.out.g.bl⟩⟩
  obtain ⟨pn, rfl⟩ := Int.eq_ofNat_of_zero_le hN0
  have hpn : pn ≤ 10000 := by omega
  have qt : decide ((pn : Int) ≤ 10000) = true := decide_eq_true hN
  clear hN hN0
  go_wp2_with fail
  refine (pwant_yes _).mono ?_
  rintro e W12 ⟨rfl, rfl⟩
  clear qt
  go_wp2_with fail
  have HRD : Hid (rdReply l0 = (rdPairs pn l6).bind fun p => if p.2 = [] then some ⟨code, num, xs, ⟨t, x, m, s⟩, p.1, strL text⟩ else none) := Lib.hid (by
    unfold rdReply
    rw [H1.out, Option.bind_some, H2.out, Option.bind_some, H3.out, Option.bind_some, H4.out, Option.bind_some, H5.out, Option.bind_some, H6.out, Option.bind_some, if_pos (by omega)]
    rfl)
  clear H1 H2 H3 H4 H5 H6 hz1 hz2 hz3 hz4 hz5
  go_loopw [29] (fun i wr => ∃ (k : Nat) (lk : List UInt8) (acc : List (ByteArray × ValL)) (pd : Option Addr) (pc : Nat), k ≤ pn ∧ i = .int .i64 k ∧ PG w wr lk gx (repCs code num ad n ca t x m s pd k pc (strL text)) ad n xs (.slice pd k pc) k acc ∧ lk.length ≤ 1000000 ∧ rdPairs pn l6 = (rdPairs (pn - k) lk).map fun p => (acc ++ p.1, p.2)) (fun i _ => pn - (intOf i).toNat)
  case atStart => exact ⟨0, l6, [], none, 0, Nat.zero_le _, rfl, Q.out, hz6, by simp⟩
  case round =>
    clear Q hz6
    obtain ⟨k, lk, acc, pd, pc, hk, rfl, hP, hzk, hrd⟩ := hrel
    have Q := Lib.hid hP
    have HD := Lib.hid hrd
    have HZ := Lib.hid hzk
    clear hP hrd hzk
    by_cases hlt : k < pn
    · obtain ⟨j, hj⟩ : ∃ j, pn - k = j + 1 := ⟨pn - k - 1, by omega⟩
      rw [hj] at HD
      go_upto_region 8 with fail
      have Q1 := Lib.hid (Q.out.keep (Bl.refl wr).drew)
      refine wp_region_panics [0, 1, 2, 4] 7 (HasBox gx (repCs code num ad n ca t x m s pd k pc (strL text))) HasBox.keep Q1.out.a [10] (fun c W' => c = [{ v := .iface 26 (.int .i64 4), recovered := false }] ∧ rdPairs pn l6 = none ∧ Bl w W') ?hR (by kernel_rfl) rfl (by kernel_rfl) (by kernel_rfl) (by kernel_rfl) ?_
      case hR =>
        rintro c tt W' ⟨rfl, hn, hb⟩
        go_simp
        go_wp2_with fail
        exact ⟨rfl, .inr ⟨by rw [HRD.out, hn]; rfl, rfl, hb⟩⟩
      generalize wr.drew = WD at *
      haveI : Nonempty (ExtC (HasBox gx (repCs code num ad n ca t x m s pd k pc (strL text)))) := ⟨⟨WD, Q1.out.a⟩⟩
      have d7 : ∀ q : ExtC (HasBox gx (repCs code num ad n ca t x m s pd k pc (strL text))), _ := fun q => (AC.rep q.ok).2.2.2.2.2.2.2.1
      repeat (refine wpI_step rfl (fun K hK => ?_); go_simp; first | (refine hK _ ?_; clear hK K) | (apply Exists.intro; refine ⟨fun q => ?_, hK _ ?_⟩; fail))
      refine wpI_nil ?_
      clear d7 this
      refine wpAnyP_one (i := 3) (by kernel_rfl) ?_
      intro W8 hb8
      go_simp
      have Q2 := Lib.hid (Q1.out.keep hb8)
      clear hb8
      refine (ptext_any (w.heap.size + 1) lk W8 Q2.out.g.c HZ.out).mono ?_
      rintro e W9 (⟨key, la, ha, rfl, hb⟩ | ⟨hn, rfl, r, hb⟩)
      case inr =>
        exact .inr ⟨_, rfl, rfl, by rw [HD.out]; simp [rdPairs, rdPair, hn], Q2.out.g.bad hb⟩
      have HA := Lib.hid ha
      have hza : la.length ≤ 1000000 := by have := (rdText_len ha).1; have := HZ.out; omega
      have Q3 := Lib.hid ((Q2.out.set la).keep hb)
      clear ha hb Q2
      refine .inl ⟨_, rfl, Q3.out.a, ?_⟩
      refine wpAnyP_one (i := 5) (by kernel_rfl) ?_
      intro W10 hb10
      go_simp
      have Q4 := Lib.hid (Q3.out.keep hb10)
      clear hb10 Q3
      refine (pval_any (w.heap.size + 1) la W10 Q4.out.g.c hza).mono ?_
      rintro e W11 (⟨⟨vt, vx, vm, vs⟩, lb, hlb, rfl, hb⟩ | ⟨hn, rfl, r, hb⟩)
      case inr =>
        exact .inr ⟨_, rfl, rfl, by rw [HD.out]; simp [rdPairs, rdPair, HA.out, hn], Q4.out.g.bad hb⟩
      have hzb : lb.length ≤ 1000000 := by have := (rdVal_back hlb).2.2.2.2; omega
      have HS : Hid (rdPairs pn l6 = (rdPairs j lb).map fun p => ((acc ++ [(strL key, ⟨vt, vx, vm, vs⟩)]) ++ p.1, p.2)) := Lib.hid (by
        rw [HD.out]
        simp only [rdPairs, rdPair, HA.out, hlb, Option.bind_some, Option.map_some]
        rw [Option.map_map]
        congr 1
        funext p
        simp [strL])
      have Q5 := Lib.hid ((Q4.out.set lb).keep hb)
      clear hlb hb Q4 HD HA
      refine .inl ⟨_, rfl, Q5.out.a, ?_⟩
      dsimp only
      refine wpAnyP_one (i := 6) (by kernel_rfl) ?_
      intro W12 hb12
      go_simp
      have Q6 := Lib.hid (Q5.out.keep hb12)
      clear hb12 Q5
      refine ⟨Q6.out.a, ?_⟩
      refine wpAnyP_one (i := 7) (by kernel_rfl) ?_
      intro W13 hb13
      go_simp
      have hbl := (Bl.refl W13).alloc (.cells #[.string (strL key), .bool vt, .float .f64 vx, .int .i64 vm, .string vs] 87)
      have hlit : (W13.alloc (.cells #[.string (strL key), .bool vt, .float .f64 vx, .int .i64 vm, .string vs] 87)).heap[W13.heap.size]? = some (.cells (pairCs (strL key, ⟨vt, vx, vm, vs⟩)).toArray 87 (0, 0)) := heap_alloc_new W13 _
      have Q7 := Lib.hid ((Q6.out.keep hb13).keep hbl)
      have HL := Lib.hid (SG.lit (size := 5) hlit rfl (by simp [pairCs, Value.oneCell']))
      clear hlit hbl hb13 Q6
      refine ⟨Q7.out.a, ?_⟩
      generalize W13.alloc _ = W14 at *
      generalize W13.heap.size = gl at *
      refine wpAnyP_one (i := 8) (by kernel_rfl) ?_
      intro W15 hb15
      have Q8 := Lib.hid (Q7.out.keep hb15)
      have HL2 := Lib.hid (HL.out.keep hb15)
      clear HL Q7 hb15
      refine pOp_appG rfl rfl _ _ _ rfl el_pair (gx + 1) (.slice pd k pc) k (cellsP acc) rfl Q8.out.o.2 Q8.out.lt (some ⟨gl, 0, none⟩) 1 1 (pairCs (strL key, ⟨vt, vx, vm, vs⟩)) rfl HL2.out (by unfold maxLen; omega) (by omega) ?_
      intro v' W16 ho hgr
      have Q9 := Lib.hid (Q8.out.app (strL key, ⟨vt, vx, vm, vs⟩) ho hgr)
      clear ho hgr Q8 HL2
      obtain ⟨pd', pc', rfl⟩ := Q9.out.o.form
      refine ⟨fun _ => Q9.out.a, ?_⟩
      simp only [Act.put, List.setIfInBounds_toArray]
      refine wpAnyP_one (i := 9) (by kernel_rfl) ?_
      intro W17 hb17
      go_simp
      have Q10 := Lib.hid (Q9.out.keep hb17)
      clear hb17 Q9
      refine ⟨Q10.out.a, ?_⟩
      refine wpAnyP_one (i := 10) (by kernel_rfl) ?_
      intro W18 hb18
      have Q11 := Lib.hid (Q10.out.keep hb18)
      clear hb18 Q10
      have f7 := Q11.out.a.frozen 7
      have e7 := Q11.out.a.cell 7 _ rfl
      go_simp
      have Q12 := Lib.hid (Q11.out.store 7 (.slice pd' (k + 1) pc'))
      clear f7 e7 Q11
      generalize World.setCell _ _ (.slice pd' (k + 1) pc') = W19 at *
      refine wpAnyP_done (by kernel_rfl) ?_
      intro W20 hb20
      have Q13 : Hid (PG w W20 lb gx (repCs code num ad n ca t x m s pd' (k + 1) pc' (strL text)) ad n xs (.slice pd' (k + 1) pc') (k + 1) (acc ++ [(strL key, ⟨vt, vx, vm, vs⟩)])) := Lib.hid (Q12.out.keep hb20)
      clear Q12 hb20
      go_wp2_with fail
      go_roundw
      case rel => exact ⟨k + 1, lb, _, pd', pc', by omega, by go_num, Q13.out, hzb, by rw [show pn - (k + 1) = j by omega]; exact HS.out⟩
      case measure => simp [intOf]; omega
    · have hkp : k = pn := by omega
      subst hkp
      have HE : Hid (rdReply l0 = if lk = [] then some ⟨code, num, xs, ⟨t, x, m, s⟩, acc, strL text⟩ else none) := Lib.hid (by
        rw [HRD.out, HD.out, Nat.sub_self]
        simp [rdPairs])
      clear HRD HD
      have hc1 := Q.out.g.c.cell
      by_cases h0 : lk = []
      · subst h0
        have q : (strL []).toList.isEmpty = true := by rw [ByteArray.toList_eq]; rfl
        have HF : Hid (FarPA (gx + 1) wr pd k acc) := Lib.hid (Q.out.o.far hpn)
        go_wp2_with fail
        refine (pwant_yes _).mono ?_
        rintro e W12 ⟨rfl, rfl⟩
        obtain ⟨d0, d1, d2, d3, d4, d5, d6, d7, d8⟩ := Q.out.a.rep
        have fr := Q.out.g.r.frozen
        obtain ⟨r0, r1, r2, r3, r4, r5, r6, r7, r8⟩ := AC.rep Q.out.g.r
        go_wp2_with fail
        refine bodyPost_ret (gr_results rfl (Q.out.g.r.fill (repCs code num ad n ca t x m s pd k pc (strL text)) rfl)) rfl (.inl ⟨⟨code, num, xs, ⟨t, x, m, s⟩, acc, strL text⟩, ad, n, ca, pd, k, pc, ?_, rfl, ⟨?_, ?_⟩, ?_, ?_⟩)
        · rw [HE.out]; simp
        · exact IA.fillApart (fun b off e => by have := Q.out.ap b off e; omega) (repCs code num ad n ca t x m s pd k pc (strL text)) _ 0 Q.out.x
        · exact fun b off e => by have := Q.out.ap b off e; omega
        · exact (HF.out.fill (q := w.heap.size) (by have := Q.out.ge; omega) (repCs code num ad n ca t x m s pd k pc (strL text)) _ 0).mono (by have := Q.out.ge; omega)
        · exact Bl.fill (Nat.le_refl _) (repCs code num ad n ca t x m s pd k pc (strL text)) _ 0 Q.out.g.bl
      · have q : (strL lk).toList.isEmpty = false := filled_L h0
        have HN := Lib.hid h0
        clear h0
        go_wp2_with fail
        refine (pwant_no _).mono ?_
        rintro e W12 ⟨rfl, rfl⟩
        unfold panE
        go_wp2_with fail
        exact ⟨rfl, .inr ⟨by rw [HE.out, if_neg HN.out], rfl, Q.out.g.bl⟩⟩
end Go.Proofs.Ytechiehbigmjbaa
