import Derived.Test.YtaokennbpgdngaaCore20
import Derived.Test.YtaokennbpgdngaaCore25
import Derived.Deep.DeepCutAuto
import Derived.Test.YtaokennbpgdngaaCore1
import Derived.Deep.QuietTactic
import Derived.BigQuiet

/- stream.Judge. By an AI agent. -/
section
set_option linter.unusedVariables false
set_option linter.unusedSimpArgs false
namespace Go.Proofs.Ytaokennbpgdngaa
open Go.RowKit
attribute [local go_sem] eOp eOper eUpon

theorem judge_4 {known : List Int} {self : Int} {t : TxnL} (h : validT t = false ∨ t.at_.length ≠ known.length ∨ t.o = self) : judgeL known self t = 4 := by unfold judgeL; rw [if_pos h]
set_option maxHeartbeats 6400000 in
set_option maxRecDepth 100000 in
theorem judge_hid (ka : Option Addr) (kn kc : Nat) (known : List Int) (self : Int) (o num prev : Int) (da : Option Addr) (dn dc : Nat) (ds : List Int) (aa : Option Addr) (an ac : Nat) (xs : List Int) (wa : Option Addr) (wn wc : Nat) (ws : List (ByteArray × ActL)) (w : World)
    (hk : IA w ka kn known) (hd : IA w da dn ds) (hx : IA w aa an xs) (hw : WW w wa wn ws) (R : Int) (HR : Hid (judgeL known self ⟨o, num, prev, ds, xs, ws⟩ = R)) :
    Calls Try.prog 33 #[.slice ka kn kc, .int .i64 self, .agg #[.int .i64 o, .int .i64 num, .int .i64 prev, .slice da dn dc, .slice aa an ac, .slice wa wn wc]] w fun e w' => e = .returned (.int .i64 R) ∧ Bl w w' := by
  have HK := Lib.hid hk
  have HD := Lib.hid hd
  have HX := Lib.hid hx
  have HDL := Lib.hid hd.len
  have HXL := Lib.hid hx.len
  have HKL := Lib.hid hk.len
  have hn1 := hk.cap
  have hn2 := hx.cap
  have hb := (Bl.refl w).alloc (.cells [Value.int .i64 o, .int .i64 num, .int .i64 prev, .slice da dn dc, .slice aa an ac, .slice wa wn wc].toArray 29)
  have HV := Lib.hid (fun W (h : Bl w W) (R : Bool) HR => txValid_hid o num prev da dn dc ds aa an ac xs wa wn wc ws W (hd.keep h) (hx.keep h) (hw.keep h) R HR)
  have hg := AC.new w _ rfl [.int .i64 o, .int .i64 num, .int .i64 prev, .slice da dn dc, .slice aa an ac, .slice wa wn wc] 29
  have c0 := hg.cell 0 _ rfl
  have c1 := hg.cell 1 _ rfl
  have c2 := hg.cell 2 _ rfl
  have c3 := hg.cell 3 _ rfl
  have c4 := hg.cell 4 _ rfl
  have c5 := hg.cell 5 _ rfl
  clear hk hd hx hw
  have hsf := store_float
  go_enter Try.func33, Try.ntmps33
  go_upto_region 1 with fail
  generalize w.alloc _ = W at *
  have HG := Lib.hid hg
  have HB := Lib.hid hb
  clear hg hb
  cases hv : validT ⟨o, num, prev, ds, xs, ws⟩
  · have HF : Hid (R = 4) := Lib.hid (by rw [← HR.out]; exact judge_4 (.inl hv))
    have HVF := Lib.hid hv
    clear hv
    go_wp2_with fail
    refine (HV.out _ HB.out false HVF).mono ?_
    rintro e W1 ⟨rfl, hb1⟩
    go_wp2_with fail
    go_ret
    exact ⟨ret_int HF.out.symm, HB.out.trans hb1⟩
  have HVT := Lib.hid hv
  have hp := validT_parts hv
  clear hv
  by_cases e1 : an = kn
  case neg =>
    have HF : Hid (R = 4) := Lib.hid (by rw [← HR.out]; exact judge_4 (.inr (.inl (by have := HXL.out; have := HKL.out; show xs.length ≠ known.length; omega))))
    have q1 : ((an : Int) != (kn : Int)) = true := by rw [bne_iff_ne]; omega
    clear e1 hp
    go_wp2_with fail
    refine (HV.out _ HB.out true HVT).mono ?_
    rintro e W1 ⟨rfl, hb1⟩
    have c4 := (HG.out.keep hb1).cell 4 _ rfl
    go_wp2_with fail
    go_ret
    exact ⟨ret_int HF.out.symm, HB.out.trans hb1⟩
  subst e1
  have q1 : ((an : Int) != (an : Int)) = false := by simp
  by_cases e2 : o = self
  · have HF : Hid (R = 4) := Lib.hid (by rw [← HR.out]; exact judge_4 (.inr (.inr e2)))
    subst e2
    have q2 : (o == o) = true := by simp
    clear hp
    go_wp2_with fail
    refine (HV.out _ HB.out true HVT).mono ?_
    rintro e W1 ⟨rfl, hb1⟩
    have c4 := (HG.out.keep hb1).cell 4 _ rfl
    have c0 := (HG.out.keep hb1).cell 0 _ rfl
    go_wp2_with fail
    go_ret
    exact ⟨ret_int HF.out.symm, HB.out.trans hb1⟩
  have q2 : (o == self) = false := by rw [beq_eq_false_iff_ne]; exact e2
  have ho0 := hp.o0
  have ho1 := hp.o1
  dsimp only at ho0 ho1
  obtain ⟨oi, rfl⟩ := Int.eq_ofNat_of_zero_le ho0
  have hlt : oi < an := by have := HXL.out; omega
  have HRR : Hid (R = if nth xs oi ≤ nth known oi then 1 else if prev ≠ nth known oi then 2 else if leqL (withL ds (oi : Int) (nth known oi)) known = false then 3 else 0) := Lib.hid (by
    rw [← HR.out]
    unfold judgeL
    rw [if_neg (by rw [HVT.out]; have := HXL.out; have := HKL.out; simp; exact ⟨by omega, e2⟩)]
    unfold atT
    dsimp only
    rw [Int.toNat_natCast])
  clear e2 hp ho0 ho1
  go_wp2_with fail
  refine (HV.out _ HB.out true HVT).mono ?_
  rintro e W1 ⟨rfl, hb1⟩
  have HG1 := Lib.hid (HG.out.keep hb1)
  have HB1 := Lib.hid (HB.out.trans hb1)
  clear c0 c1 c2 c3 c4 c5 hb1 HG HB HV
  have c4 := HG1.out.cell 4 _ rfl
  have c0 := HG1.out.cell 0 _ rfl
  go_upto_region 3 with fail
  clear c0 c4 q1 q2
  obtain ⟨bx, ox, rfl, hcx⟩ := HX.out.cells oi hlt
  obtain ⟨bk, ok, rfl, hck⟩ := HK.out.cells oi hlt
  have HCX := Lib.hid (hcx oi hlt)
  have HCK := Lib.hid (hck oi hlt)
  clear hcx hck
  have HWFK := Lib.hid (HK.out.wf_get oi)
  generalize nth xs oi = m at *
  generalize nth known oi = r at *
  have hoi : decide ((oi : Int) < (an : Int)) = true := decide_eq_true (by omega)
  refine wp_region_extall (by kernel_rfl) (by kernel_rfl) ?_
  have HGZ := Lib.hid (HG1.out.keep ((Bl.refl W1).drew))
  have HBZ := Lib.hid (HB1.out.drew)
  clear HG1 HB1
  generalize W1.drew = Z at *
  have k0 : ∀ q : Ext Z, _ := fun q => (HGZ.out.keep q.bl).cell 0 _ rfl
  have k4 : ∀ q : Ext Z, _ := fun q => (HGZ.out.keep q.bl).cell 4 _ rfl
  have kx : ∀ q : Ext Z, _ := fun q => (HBZ.out.trans q.bl).cell HCX.out
  have kk : ∀ q : Ext Z, _ := fun q => (HBZ.out.trans q.bl).cell HCK.out
  repeat (refine wpE_step (fun K hK => ?_); go_simp; first | (refine hK _ ?_; clear hK K) | (apply Exists.intro; refine ⟨fun m => ?_, hK _ ?_⟩; (fail); clear hK K))
  refine wpE_nil ?_
  intro q1
  have HGY := Lib.hid (HGZ.out.keep q1.bl)
  have HBY := Lib.hid (HBZ.out.trans q1.bl)
  clear k0 k4 kx kk HGZ HBZ
  generalize ExtC.at q1 = Y at *
  by_cases e3 : m ≤ r
  · have HF : Hid (R = 1) := Lib.hid (by rw [HRR.out, if_pos e3])
    have d3 : decide (m ≤ r) = true := decide_eq_true e3
    go_wp2_with fail
    go_ret
    exact ⟨ret_int HF.out.symm, HBY.out⟩
  have HRR2 : Hid (R = if prev ≠ r then 2 else if leqL (withL ds (oi : Int) r) known = false then 3 else 0) := Lib.hid (by rw [HRR.out, if_neg e3])
  have d3 : decide (m ≤ r) = false := decide_eq_false e3
  clear HRR
  go_upto_region 5 with fail
  clear d3 e3
  refine wp_region_extall (by kernel_rfl) (by kernel_rfl) ?_
  have HGZ := Lib.hid (HGY.out.keep ((Bl.refl Y).drew))
  have HBZ := Lib.hid (HBY.out.drew)
  clear HGY HBY
  generalize Y.drew = Z2 at *
  have k0 : ∀ q : Ext Z2, _ := fun q => (HGZ.out.keep q.bl).cell 0 _ rfl
  have k2 : ∀ q : Ext Z2, _ := fun q => (HGZ.out.keep q.bl).cell 2 _ rfl
  have kk : ∀ q : Ext Z2, _ := fun q => (HBZ.out.trans q.bl).cell HCK.out
  repeat (refine wpE_step (fun K hK => ?_); go_simp; first | (refine hK _ ?_; clear hK K) | (apply Exists.intro; refine ⟨fun m => ?_, hK _ ?_⟩; (fail); clear hK K))
  refine wpE_nil ?_
  intro q2
  have HGY := Lib.hid (HGZ.out.keep q2.bl)
  have HBY := Lib.hid (HBZ.out.trans q2.bl)
  clear k0 k2 kk HGZ HBZ
  generalize ExtC.at q2 = Y2 at *
  by_cases e4 : prev = r
  case neg =>
    have HF : Hid (R = 2) := Lib.hid (by rw [HRR2.out, if_pos e4])
    have d4 : (prev != r) = true := by rw [bne_iff_ne]; exact e4
    clear e4
    go_wp2_with fail
    go_ret
    exact ⟨ret_int HF.out.symm, HBY.out⟩
  have HRR3 : Hid (R = if leqL (withL ds (oi : Int) r) known = false then 3 else 0) := Lib.hid (by rw [HRR2.out, if_neg (fun h => h e4)])
  have d4 : (prev != r) = false := by rw [e4]; simp
  clear HRR2
  go_upto_region 7 with fail
  clear d4 e4
  have HGZ := Lib.hid (HGY.out.keep ((Bl.refl Y2).drew))
  have HBZ := Lib.hid (HBY.out.drew)
  clear HGY HBY
  refine wp_region_idx [0, 1, 2, 3, 4, 5, 6, 7, 8, 10] 4 (Bl Y2.drew) (fun _ _ h k => h.trans k) (Bl.refl _) (by kernel_rfl) rfl (by kernel_rfl) (by kernel_rfl) ?_
  generalize Y2.drew = Z3 at *
  haveI : Nonempty (ExtC (Bl Z3)) := ⟨⟨Z3, Bl.refl _⟩⟩
  have k0 : ∀ q : ExtC (Bl Z3), _ := fun q => (HGZ.out.keep q.ok).cell 0 _ rfl
  have k3 : ∀ q : ExtC (Bl Z3), _ := fun q => (HGZ.out.keep q.ok).cell 3 _ rfl
  have kk : ∀ q : ExtC (Bl Z3), _ := fun q => (HBZ.out.trans q.ok).cell HCK.out
  repeat (refine wpI_step rfl (fun K hK => ?_); go_simp; first | (refine hK _ ?_; clear hK K) | (apply Exists.intro; refine ⟨fun q => ?_, hK _ ?_⟩; (fail); clear hK K))
  refine wpI_nil ?_
  clear k0 k3 kk this
  refine wpAnyE_one (i := 9) (by kernel_rfl) ?_
  intro Y3 hy3
  go_simp
  refine (with_any da dn dc ds (oi : Int) r _ (HD.out.keep (HBZ.out.trans hy3)) HWFK.out).mono ?_
  rintro e Y4 ⟨v, rfl, hf, hb4⟩
  obtain ⟨va, vn, vc, rfl, hI⟩ := hf.si
  have HI := Lib.hid hI
  have HB4 := Lib.hid (hy3.trans hb4)
  clear hf hI hy3 hb4
  refine ⟨_, rfl, HB4.out, ?_⟩
  refine wpAnyE_one (i := 11) (by kernel_rfl) ?_
  intro Y5 hy5
  go_simp
  refine (leq_any va (some ⟨bk, ok, none⟩) vn an vc kc _ known _ (HI.out.keep hy5) (HK.out.keep (HBZ.out.trans (HB4.out.trans hy5)))).mono ?_
  rintro e Y6 ⟨rfl, rfl⟩
  have HB5 := Lib.hid (HB4.out.trans hy5)
  clear hy5 HI HB4
  refine ⟨_, rfl, HB5.out, ?_⟩
  generalize leqL (withL ds (oi : Int) r) known = lq at *
  refine wpAnyE_one (i := 12) (by kernel_rfl) ?_
  intro Y7 hy7
  go_simp
  refine ⟨HB5.out.trans hy7, ?_⟩
  refine wpAnyE_one (i := 13) (by kernel_rfl) ?_
  intro Y8 hy8
  go_simp
  refine ⟨HB5.out.trans (hy7.trans hy8), ?_⟩
  refine wpAnyE_done (by kernel_rfl) ?_
  intro Y9 hy9
  have HB9 := Lib.hid (HBZ.out.trans (HB5.out.trans (hy7.trans (hy8.trans hy9))))
  clear hy7 hy8 hy9
  cases lq
  · have HF : Hid (R = 3) := Lib.hid (by rw [HRR3.out, if_pos rfl])
    go_wp2_with fail
    go_ret
    exact ⟨ret_int HF.out.symm, HB9.out⟩
  · have HF : Hid (R = 0) := Lib.hid (by rw [HRR3.out, if_neg (by decide)])
    go_wp2_with fail
    go_ret
    exact ⟨ret_int HF.out.symm, HB9.out⟩
theorem judge_any (ka : Option Addr) (kn kc : Nat) (known : List Int) (self : Int) (t : TxnL) (s : TxAt) (w : World) (hk : IA w ka kn known) (h : TX w s t) :
    Calls Try.prog 33 #[.slice ka kn kc, .int .i64 self, txV t s] w fun e w' => e = .returned (.int .i64 (judgeL known self t)) ∧ Bl w w' := by
  obtain ⟨o, num, prev, ds, xs, ws⟩ := t
  exact judge_hid ka kn kc known self o num prev s.da s.dn s.dc ds s.aa s.an s.ac xs s.wa s.wn s.wc ws w hk h.deps h.at_ h.ws _ (Lib.hid rfl)
end Go.Proofs.Ytaokennbpgdngaa
end

/- bedrockref3: Leq, Same, Valid. By an AI agent. -/
section
namespace Go.Proofs.Ytaokennbpgdngaa
open Go.RowKit

set_option maxHeartbeats 400000 in
theorem rleq_any (a b : Option Addr) (n m ca cb : Nat) (xs ys : List Int) (w : World) (hx : IA w a n xs) (hy : IA w b m ys) :
    Calls Try.prog 71 #[.slice a n ca, .slice b m cb] w fun e w' => e = .returned (.bool (leqL xs ys)) ∧ Bl w w' := by
  have hx1 := hx.cap
  have hy1 := hy.cap
  by_cases hl : n = m
  · subst hl
    have HLL := Lib.hid (hx.len.trans hy.len.symm)
    have HX := Lib.hid hx.len
    have h2 : ((n : Int) != (n : Int)) = false := by simp
    go_enter Try.func71, Try.ntmps71
    go_wp2
    go_loopw [5] (fun i wr => ∃ k : Nat, k ≤ n ∧ i = .int .i64 k ∧ Bl w wr ∧ ∀ j, j < k → nth xs j ≤ nth ys j) (fun i _ => n - (intOf i).toNat)
    case atStart => exact ⟨0, Nat.zero_le _, rfl, Bl.refl _, fun j h => by omega⟩
    case round =>
      obtain ⟨k, hk, rfl, hbl, hle⟩ := hrel
      have HLE := Lib.hid hle; clear hle
      by_cases hlt : k < n
      · obtain ⟨ba, oa, rfl, hca⟩ := hx.cells k hlt
        obtain ⟨bb, ob, rfl, hcb⟩ := hy.cells k hlt
        have ha := hbl.cell (hca k hlt)
        have hb := hbl.cell (hcb k hlt)
        clear hca hcb
        by_cases hgt : nth ys k < nth xs k
        · have HR := Lib.hid (leqL_false HLL.out (by rw [HX.out]; exact hlt) hgt)
          go_wp2
          go_quiet (fail)
          go_wp2
          go_ret
          exact ⟨ret_bool HR.out.symm, hbl.drewN _⟩
        · go_wp2
          go_quiet (fail)
          go_wp2
          go_roundw
          case rel => exact ⟨k + 1, by omega, by go_num, hbl.drewN _, fun j hj => by
            by_cases e : j = k
            · subst e; omega
            · exact HLE.out j (by omega)⟩
          case measure => simp [intOf]; omega
      · have HR := Lib.hid ((leqL_iff HLL.out).2 (fun j hj => HLE.out j (by rw [HX.out] at hj; omega)))
        go_wp2
        go_ret
        exact ⟨ret_bool HR.out.symm, hbl⟩
  · have h2 : ((n : Int) != (m : Int)) = true := by simp; omega
    have HR := Lib.hid (leqL_len (xs := xs) (ys := ys) (by rw [hx.len, hy.len]; exact hl))
    go_enter Try.func71, Try.ntmps71
    go_wp2
    go_ret
    exact ⟨ret_bool HR.out.symm, Bl.refl _⟩

theorem leq_both (xs ys : List Int) : (leqL xs ys && leqL ys xs) = decide (xs = ys) := by
  by_cases hl : xs.length = ys.length
  · rw [Bool.eq_iff_iff, Bool.and_eq_true, decide_eq_true_eq, leqL_iff hl, leqL_iff hl.symm]
    constructor
    · rintro ⟨h1, h2⟩
      exact getD_ext hl fun j hj => Int.le_antisymm (h1 j hj) (h2 j (by omega))
    · rintro rfl
      exact ⟨fun _ _ => Int.le_refl _, fun _ _ => Int.le_refl _⟩
  · rw [leqL_len hl, decide_eq_false (fun e => hl (by rw [e]))]; rfl

theorem rsame_any (a b : Option Addr) (n m ca cb : Nat) (xs ys : List Int) (w : World) (hx : IA w a n xs) (hy : IA w b m ys) :
    Calls Try.prog 34 #[.slice a n ca, .slice b m cb] w fun e w' => e = .returned (.bool (decide (xs = ys))) ∧ Bl w w' := by
  have HB := Lib.hid (leq_both xs ys)
  cases h1 : leqL xs ys
  · have HQ := Lib.hid h1
    go_enter Try.func34, Try.ntmps34
    go_wp2_with fail
    refine (rleq_any a b n m ca cb xs ys _ hx hy).mono ?_
    rintro e w1 ⟨rfl, hb1⟩
    rw [h1]
    clear h1
    go_wp2_with fail
    go_ret
    exact ⟨ret_bool (by rw [← HB.out, HQ.out]; rfl), hb1⟩
  · have HQ := Lib.hid h1
    go_enter Try.func34, Try.ntmps34
    go_wp2_with fail
    refine (rleq_any a b n m ca cb xs ys _ hx hy).mono ?_
    rintro e w1 ⟨rfl, hb1⟩
    rw [h1]
    clear h1
    go_wp2_with fail
    refine (rleq_any b a m n cb ca ys xs _ (hy.keep hb1) (hx.keep hb1)).mono ?_
    rintro e w2 ⟨rfl, hb2⟩
    go_wp2_with fail
    go_ret
    exact ⟨ret_bool (by rw [← HB.out, HQ.out]; rfl), hb1.trans hb2⟩
end Go.Proofs.Ytaokennbpgdngaa
end
