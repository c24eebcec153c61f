import Derived.Test.YtibabgokmacnaaaGreatQGossipPlaysUptoP20
import Derived.Test.YtibabgokmacnaaaGreatQGossipPlaysUptoP43
import Derived.Test.YtibabgokmacnaaaGreatQGossipPlaysUptoP44
import Derived.Test.YtibabgokmacnaaaGreatQGossipPlaysUptoP45
import Derived.Test.YtibabgokmacnaaaGreatQGossipPlaysUptoP25
import Derived.Test.YtibabgokmacnaaaGreatQGossipPlaysUptoP19

/- gossip.Row of no place; what is done, opened. By an AI agent. -/
section
set_option linter.unusedVariables false
set_option linter.unusedSimpArgs false
namespace Go.Proofs.YtibabgokmacnaaaGreat
open Go.RowKit

theorem row_no (B g : Nat) (i : Int) (rows : List (List Int)) (w : World) (hr : RG B w g rows) (h1 : 1 ≤ rows.length) (hn8 : rows.length ≤ 8) (hi : i < 0 ∨ (rows.length : Int) ≤ i) :
    Calls Tryz.prog 47 #[.pointer (some ⟨g, 0, none⟩), .int .i64 i] w fun e w' => e = .returned (.slice none 0 0) ∧ w = w' := by
  obtain ⟨v, hc, _, hor⟩ := hr
  obtain ⟨a0, cap, rfl⟩ := hor.slice
  have hcc := hc.cell
  have q0 : decide (rows.length = 0) = false := decide_eq_false (by omega)
  by_cases h0 : i < 0
  · clear hi
    go_enter Tryz.func47, Tryz.ntmps47
    go_wp2_with fail
    refine (none_any g _ _ _ _ hc).mono ?_
    rintro e w1 ⟨rfl, rfl⟩
    rw [q0]
    go_wp2_with fail
    go_ret
    exact ⟨rfl, rfl⟩
  · have h2 : (rows.length : Int) ≤ i := by omega
    clear hi
    go_enter Tryz.func47, Tryz.ntmps47
    go_wp2_with fail
    refine (none_any g _ _ _ _ hc).mono ?_
    rintro e w1 ⟨rfl, rfl⟩
    rw [q0]
    go_wp2_with fail
    go_ret
    exact ⟨rfl, rfl⟩
theorem putRows_str {s : ByteArray} {rows : List (List Int)} {l : List UInt8} (h : SB s ((strOfNums [(rows.length : Int)]).data.toList ++ rows.flatMap putL)) (hp : putRows rows = l) : s = strL l := by
  rw [← hp]
  exact strL_of h
/-- the bytes of rows -/
theorem gput_any (B g : Nat) (rows : List (List Int)) (w : World) (hr : RG B w g rows) (h1 : 1 ≤ rows.length) (hn8 : rows.length ≤ 8) (hv : ∀ r ∈ rows, validL r = true) :
    Calls Tryz.prog 36 #[.pointer (some ⟨g, 0, none⟩)] w fun e w' => e = .returned (.string (strL (putRows rows))) ∧ Bl w w' := by
  refine (rowsPut_any B g rows w hr h1 hn8 hv).mono ?_
  rintro e w' ⟨s, rfl, hs, hb⟩
  exact ⟨by rw [putRows_str hs rfl], hb⟩
/-- a slice at a, of n things that are done, reads as ops -/
structure OK3 (w : World) (a : Option Addr) (n : Nat) (ops : List (Int × Int × List Int)) : Prop where
  len : ops.length = n
  cap : n * 8 ≤ 140737488351232
  cells : ∀ j, j < n → ∃ b off, a = some ⟨b, off, none⟩ ∧ ∃ k i aj nj cj xs, w.cell? ⟨b, off + j * 3, none⟩ = some (.int .i64 k) ∧ w.cell? ⟨b, off + j * 3 + 1, none⟩ = some (.int .i64 i) ∧ w.cell? ⟨b, off + j * 3 + 2, none⟩ = some (.slice aj nj cj) ∧ IA w aj nj xs ∧
    (-9223372036854775808 ≤ k ∧ k ≤ 9223372036854775807) ∧ (-9223372036854775808 ≤ i ∧ i ≤ 9223372036854775807)
end Go.Proofs.YtibabgokmacnaaaGreat
end

/- the walk of GossipPlays. By an AI agent. -/
section
set_option linter.unusedVariables false
set_option linter.unusedSimpArgs false
namespace Go.Proofs.YtibabgokmacnaaaGreat
open Go.RowKit Go.Shelf
attribute [local go_sem] eOp eOper eUpon

theorem LV.fr {S : Nat → Prop} {B : Nat} {W W' : World} {g n c : Nat} {xs : List Int} (h : LV B W g n c xs) (hf : Fr S W W') (hs : ∀ b, B ≤ b → ¬ S b) : LV B W' g n c xs :=
  ⟨hf.own h.own (fun b e => hs b (World.ownsRow.lt h.own b e).1), h.len, h.cap, h.wf⟩
theorem BP.of {B : Nat} {W : World} {g : Nat} {v : Value} {xs : List Int} {T : Nat → Prop} (h : BP B W g [] T) (hB : B ≤ W.heap.size) (hv : FI W.heap.size W v xs) (hl : xs.length ≤ 50000) : BP B W g [(v, xs)] T := h.push (Bl.refl W) hB hv hl

set_option maxHeartbeats 12800000 in
set_option maxRecDepth 100000 in
theorem plays_in (N : Nat) (h1 : 1 ≤ N) (h8 : N ≤ 8) (ad : Option Addr) (m c : Nat) (ops : List (Int × Int × List Int)) (w : World) (ho : OK3 w ad m ops) (hm : m ≤ 200) :
    Calls Tryz.prog 4 #[.int .i64 N, .slice ad m c] w fun e w' => e = .returned (.bool true) ∧ Bl w w' := by
  have HO := Lib.hid ho
  clear ho
  have q1 : decide ((N : Int) < 1) = false := decide_eq_false (by omega)
  have q8 : decide (8 < (N : Int)) = false := decide_eq_false (by omega)
  have hm0 : (m : Int) ≤ 200 := by omega
  go_enter Tryz.func4, Tryz.ntmps4
  go_wp2_with fail
  refine (new_yes N _ h1 h8).mono ?_
  rintro e w1 ⟨gr, rfl, hrg, hb1⟩
  obtain ⟨hr, hrt⟩ := hrg.rt (T := fun b => w.heap.size ≤ b ∧ b < w1.heap.size) (by simp; omega) (fun b a c => ⟨a, c⟩)
  have HRT := Lib.hid hrt
  have HB1 := Lib.hid hb1
  clear hrg hrt hb1
  go_wp2_with fail
  refine (rnew_yes N _ h1 h8).mono ?_
  rintro e w2 ⟨gq, rfl, hqg, hty, hb2⟩
  obtain ⟨hq, hqt⟩ := hqg.rt (T := fun b => w1.heap.size ≤ b ∧ b < w2.heap.size) (by simp; omega) (fun b a c => ⟨a, c⟩)
  have HP := Lib.hid (fun X => show PS w (w2.alloc (.cells (bookCs (.slice none 0 0) (.slice none 0 0)).toArray X)) w2.heap.size (fun b => w.heap.size ≤ b ∧ b < w1.heap.size) (fun b => w1.heap.size ≤ b ∧ b < w2.heap.size) gr hr gq hq (List.replicate N (zeroL N)) (List.replicate N (zeroL N)) by
    have hA := (Bl.refl w2).alloc (.cells (bookCs (.slice none 0 0) (.slice none 0 0)).toArray X)
    have s1 := HB1.out.size
    have s2 := hb2.size
    have sA : (w2.alloc (.cells (bookCs (.slice none 0 0) (.slice none 0 0)).toArray X)).heap.size = w2.heap.size + 1 := by simp
    exact ⟨(HB1.out.trans hb2).trans hA, (HRT.out.keep hb2).keep hA, (hqt.keep hA).mono (fun _ q => q) (by omega), hty.keep hA, fun b p q => by omega, fun b q => by omega, fun b q => by omega, BP.new (by omega) (AC.new w2 _ rfl _ X) (fun b q => by
      rcases q with q | q | q <;> omega)⟩)
  clear hqg hqt hty HRT HB1 hb2
  go_wp2_with fail
  go_loopw [5, 8] (fun rv kv wr => ∃ (k gr hr hq : Nat) (T1 T2 : Nat → Prop) (R : List (List Int)), k ≤ m ∧ rv = .pointer (some ⟨gr, 0, none⟩) ∧ kv = .int .i64 k ∧ PS w wr w2.heap.size T1 T2 gr hr gq hq R R ∧ InvR N R) (fun _ kv _ => m - (intOf kv).toNat)
  case atStart => exact ⟨0, gr, hr, hq, _, _, _, Nat.zero_le _, rfl, rfl, HP.out _, InvR.zero h1 h8⟩
  case round =>
    obtain ⟨k, gr, hr, hq, T1, T2, R, hkm, rfl, rfl, hps, hinv⟩ := hrel
    have HPS := Lib.hid hps
    have HI := Lib.hid hinv
    clear hps hinv HP
    by_cases hlt : k < m
    · obtain ⟨b, off, rfl, kd, i, aj, nj, cj, xs, c0, c1, c2, hx, hkd, hi⟩ := HO.out.cells k hlt
      have HX := Lib.hid hx
      have HC := Lib.hid (And.intro c0 (And.intro c1 c2))
      have d0 := HPS.out.bl.cell c0
      have d1 := HPS.out.bl.cell c1
      have d2 := HPS.out.bl.cell c2
      have HOCAP := HO.out.cap
      clear hx c0 c1 c2
      by_cases hn : nj ≤ 60
      case neg =>
        have hn6 : decide ((60 : Int) < (nj : Int)) = true := decide_eq_true (by omega)
        go_wp2_with fail
        go_ret
        exact ⟨rfl, HPS.out.bl⟩
      have hn6 : decide ((60 : Int) < (nj : Int)) = false := decide_eq_false (by omega)
      by_cases hk2 : kd = 2
      · have hkq : ((kd : Int) == 2) = true := by rw [beq_iff_eq]; exact hk2
        have hlR : R.length ≤ 8 := by rw [HI.out.len]; exact h8
        have hlR1 : 1 ≤ R.length := by rw [HI.out.len]; exact h1
        go_wp2_with fail
        refine (gput_any _ gr R _ HPS.out.r.rg hlR1 hlR (fun r q => (HI.out.all r q).1)).mono ?_
        rintro e w3 ⟨rfl, hb3⟩
        have H3 := Lib.hid (HPS.out.keep hb3)
        clear hb3 HPS d0 d1 d2
        have hload := Lib.hid (fun W => gload_any (putRows R) W (HI.out.put_len h8))
        obtain ⟨sp, hsp⟩ : ∃ s, s = strL (putRows R) := ⟨_, rfl⟩
        rw [← hsp] at hload ⊢
        have HSP := Lib.hid hsp
        clear hsp
        go_wp2_with fail
        refine (hload.out _).mono ?_
        rintro e w4 (⟨R4, gr4, e4, rfl, hr4, hb4⟩ | ⟨e4, -, -⟩)
        case inr => rw [rdRows_put HI.out h1 h8] at e4; cases e4
        rw [rdRows_put HI.out h1 h8] at e4
        cases e4
        have H4 := Lib.hid (H3.out.keep hb4)
        obtain ⟨hr5, H5⟩ := H3.out.load hb4 hr4 hlR1
        have H5 := Lib.hid H5
        clear hr4 hb4 H3 hload
        go_wp2_with fail
        refine (gput_any _ gr R _ H4.out.r.rg hlR1 hlR (fun r q => (HI.out.all r q).1)).mono ?_
        rintro e w5 ⟨rfl, hb5⟩
        have H6 := Lib.hid (H5.out.keep hb5)
        clear hb5 H4 H5
        rw [← HSP.out]
        go_wp2_with fail
        refine (rrowsPut_any _ gq R _ H6.out.q.rg hlR1 hlR (fun r q => (HI.out.all r q).1)).mono ?_
        rintro e w6 ⟨rfl, hb6⟩
        have H7 := Lib.hid (H6.out.keep hb6)
        clear hb6 H6
        rw [← HSP.out]
        go_wp2_with fail
        go_roundw
        case rel => exact ⟨k + 1, gr4, hr5, hq, _, T2, R, by omega, rfl, by go_num, H7.out, HI.out⟩
        case measure => simp [intOf]; omega
      · have hkq : ((kd : Int) == 2) = false := by rw [beq_eq_false_iff_ne]; exact hk2
        go_wp2_with fail
        refine (lentVec_any aj nj cj xs _ (HX.out.keep HPS.out.bl) (Nat.le_trans hn (by decide))).mono ?_
        rintro e w3 ⟨gx, cx, rfl, lx, hb3⟩
        have H3 := Lib.hid (HPS.out.keep hb3)
        have L3 := Lib.hid lx
        have HLT := Lib.hid (And.intro (HPS.out.t1 hr HPS.out.r.hT.2).2 (HPS.out.t2 gq HPS.out.q.hT.1).2)
        have HLR := Lib.hid (show 1 ≤ R.length ∧ R.length ≤ 8 from ⟨by rw [HI.out.len]; exact h1, by rw [HI.out.len]; exact h8⟩)
        clear lx hb3 HPS d0 d1 d2
        go_upto_region 21 with fail
        refine wp_region_idx [0, 1, 2, 3, 4, 5, 6, 8, 9, 10, 11, 12, 13, 14, 15, 16, 17, 18] 13 (Bl w) (fun _ _ h k => h.trans k) H3.out.bl.drew (by kernel_rfl) rfl (by kernel_rfl) (by kernel_rfl) ?_
        have HZ := Lib.hid (H3.out.keep (Bl.refl w3).drew)
        have LZ := Lib.hid (L3.out.keep (Bl.refl w3).drew)
        clear H3 L3
        generalize w3.drew = Z at *
        haveI : Nonempty (ExtC (Bl w)) := ⟨⟨Z, HZ.out.bl⟩⟩
        have f1 : ∀ q : ExtC (Bl w), _ := fun q => q.ok.cell HC.out.2.1
        have f2 : ∀ q : ExtC (Bl w), _ := fun q => q.ok.cell HC.out.2.2
        repeat (refine wpI_step rfl (fun K hK => ?_); go_simp; first | (refine hK _ ?_; clear hK K) | (apply Exists.intro; refine ⟨fun q => ?_, hK _ ?_⟩; fail; clear hK K))
        refine wpI_nil ?_
        clear f1 f2 this
        refine wpAnyE_one (i := 7) (by kernel_rfl) ?_
        intro X1 hx1
        have HX1 := Lib.hid (HZ.out.keep hx1)
        have LX1 := Lib.hid (LZ.out.keep hx1)
        clear hx1 HZ LZ
        go_simp
        refine (gset_any T1 w.heap.size gr hr nj cx (some ⟨gx, 0, none⟩) i R xs X1 HX1.out.r HLR.out.1 HLR.out.2 LX1.out.ia).mono ?_
        rintro e X2 ⟨rfl, hf2, hr2⟩
        have HX2 := Lib.hid (HX1.out.setR hf2 hr2)
        have LX2 := Lib.hid (LX1.out.fr hf2 (fun b q e => by have := HLT.out.1; omega))
        clear hf2 hr2 HX1 LX1
        refine ⟨_, rfl, HX2.out.bl, ?_⟩
        refine wpAnyE_one (i := 19) (by kernel_rfl) ?_
        intro X3 hx3
        have HX3 := Lib.hid (HX2.out.keep hx3)
        have LX3 := Lib.hid (LX2.out.keep hx3)
        clear hx3 HX2 LX2
        go_simp
        refine (rset_any T2 w.heap.size gq hq nj cj aj i R xs X3 HX3.out.q HLR.out.1 HLR.out.2 (HX.out.keep HX3.out.bl)).mono ?_
        rintro e X4 ⟨rfl, hf4, hty4, hq4, hr4⟩
        have HX4 := Lib.hid (HX3.out.setQ hf4 hr4 (hty4 _ HX3.out.ty))
        have LX4 := Lib.hid (LX3.out.fr hf4 (fun b q e => by have := HLT.out.2; omega))
        clear hf4 hr4 hty4 HX3 LX3 HLT
        refine ⟨_, rfl, HX4.out.bl, ?_⟩
        generalize TN T1 _ _ = T1' at *
        generalize TN T2 _ _ = T2' at *
        have HI2 := Lib.hid (HI.out.set i xs)
        generalize setE R i xs = se at *
        generalize setR R i xs = R2 at *
        have qs : (se != se) = false := by simp
        refine wpAnyE_sub (C' := Bl X4) (fun _ h => HX4.out.bl.trans h) ?_
        refine wpAnyE_idx (C := Bl X4) (fun _ _ h k => h.trans k) (by kernel_rfl) 0 _ (Bl.refl _) [20, 21, 22, 23, 24, 25, 26, 27, 28, 29, 30] _ _ (by kernel_rfl) ?_
        haveI : Nonempty (ExtC (Bl X4)) := ⟨⟨X4, Bl.refl _⟩⟩
        have f2 : ∀ q : ExtC (Bl X4), _ := fun q => (HX4.out.bl.trans q.ok).cell HC.out.2.2
        have V5 := Lib.hid (fun q : ExtC (Bl X4) => staysVec_any _ gx nj cx aj nj cj xs q.at (LX4.out.keep q.ok) (HX.out.keep (HX4.out.bl.trans q.ok)) (Nat.le_trans hn (by decide)))
        repeat (refine wpI_step rfl (fun K hK => ?_); go_simp; first | (refine hK _ ?_; clear hK K) | (apply Exists.intro; refine ⟨fun q => ?_, hK _ ?_⟩; (with_reducible exact V5.out q); clear hK K))
        refine wpI_nil ?_
        clear f2 this V5
        refine wpAnyE_done (by kernel_rfl) ?_
        intro X5 hx5
        have H5 := Lib.hid (HX4.out.keep hx5)
        clear hx5 HX4 LX4 HI qs
        have HL2 := Lib.hid (show 0 < R2.length ∧ R2.length ≤ 8 from ⟨by rw [HI2.out.len]; exact h1, by rw [HI2.out.len]; exact h8⟩)
        go_wp2_with fail
        refine (stable_yes _ gr R2 _ H5.out.r.rg HL2.out.2 HL2.out.1).mono ?_
        rintro e X6 ⟨v1, rfl, f1, hb6⟩
        have P6 := Lib.hid (H5.out.bp.push hb6 H5.out.bl.size f1 (by rw [HI2.out.all_len h1]; omega))
        have F6 := Lib.hid f1
        have H6 := Lib.hid (H5.out.keep hb6)
        clear f1 hb6 H5
        go_wp2_with fail
        refine (best_yes _ gr R2 _ H6.out.r.rg HL2.out.2 HL2.out.1).mono ?_
        rintro e X7 ⟨v2, rfl, f2, hb7⟩
        have P7 := Lib.hid (P6.out.push hb7 H6.out.bl.size f2 (by rw [HI2.out.all_len h1]; omega)).pend
        have F7 := Lib.hid (F6.out.keep hb7)
        have G7 := Lib.hid f2
        have H7 := Lib.hid (H6.out.keep hb7)
        clear f2 hb7 H6 F6 P6
        go_wp2_with fail
        refine (bp_vec _ _ v1 _ _ _ _ H7.out.bl.size P7.out).mono ?_
        rintro e X8 ⟨rfl, p8, fr8⟩
        have P8 := Lib.hid p8
        have FR8 := Lib.hid fr8
        clear p8 fr8 P7
        go_wp2_with fail
        refine (bp_vec _ _ v2 _ _ _ _ (Nat.le_trans H7.out.bl.size FR8.out.size) P8.out).mono ?_
        rintro e X9 ⟨rfl, p9, fr9⟩
        have FR9 := FR8.out.trans fr9
        have H9 := Lib.hid (H7.out.book FR9 (fun b q => .inl q) p9)
        have F9 := F7.out.fr FR9 (fun b q => not_not_intro (.inr ⟨(v1, allL min R2), by simp, q⟩))
        have G9 := G7.out.fr FR9 (fun b q => not_not_intro (.inr ⟨(v2, allL max R2), by simp, q⟩))
        obtain ⟨a1, n1, c1, rfl, I1⟩ := F9.si
        obtain ⟨a2, n2, c2, rfl, I2⟩ := G9.si
        have I1 := Lib.hid I1
        have I2 := Lib.hid I2
        clear p9 fr9 FR9 F9 G9 F7 G7 H7 P8 FR8
        go_wp2_with fail
        refine (rstable_any _ gq R2 _ H9.out.q.rg HL2.out.2 HL2.out.1).mono ?_
        rintro e Y1 ⟨u1, rfl, f1, hb1⟩
        obtain ⟨a3, n3, c3, rfl, J1⟩ := f1.si
        have K1 := Lib.hid (H9.out.keep hb1)
        have I1b := Lib.hid (I1.out.keep hb1)
        have I2b := Lib.hid (I2.out.keep hb1)
        clear f1 hb1 H9 I1 I2
        have S1 := rsame_any a1 a3 n1 n3 c1 c3 (allL min R2) (allL min R2) Y1 I1b.out J1
        rw [decide_eq_true (rfl : allL min R2 = allL min R2)] at S1
        have S1 := Lib.hid S1
        clear J1
        go_wp2_with fail
        refine S1.out.mono ?_
        rintro e Y2 ⟨rfl, hb2⟩
        have K2 := Lib.hid (K1.out.keep hb2)
        have I2c := Lib.hid (I2b.out.keep hb2)
        clear hb2 K1 I1b I2b S1
        go_wp2_with fail
        refine (rbest_any _ gq R2 _ K2.out.q.rg HL2.out.2 HL2.out.1).mono ?_
        rintro e Y3 ⟨u2, rfl, f2, hb3⟩
        obtain ⟨a4, n4, c4, rfl, J2⟩ := f2.si
        have K3 := Lib.hid (K2.out.keep hb3)
        have I2d := Lib.hid (I2c.out.keep hb3)
        clear f2 hb3 K2 I2c
        have S2 := rsame_any a2 a4 n2 n4 c2 c4 (allL max R2) (allL max R2) Y3 I2d.out J2
        rw [decide_eq_true (rfl : allL max R2 = allL max R2)] at S2
        have S2 := Lib.hid S2
        clear J2
        go_wp2_with fail
        refine S2.out.mono ?_
        rintro e Y4 ⟨rfl, hb4⟩
        have K4 := Lib.hid (K3.out.keep hb4)
        clear hb4 K3 I2d S2
        have LL := Lib.hid (show (allL min R2).length = (allL max R2).length ∧ 0 < (allL min R2).length from ⟨by rw [HI2.out.all_len h1, HI2.out.all_len h1], by rw [HI2.out.all_len h1]; omega⟩)
        go_wp2_with fail
        refine (lag_yes _ gr R2 _ K4.out.r.rg HL2.out.2 HL2.out.1 LL.out.1).mono ?_
        rintro e Y5 ⟨x, rfl, hx1, hx2, hb5⟩
        have K5 := Lib.hid (K4.out.keep hb5)
        have HX2 := Lib.hid hx2
        clear hb5 K4 hx2
        go_wp2_with fail
        refine (rlag_any _ gq R2 _ K5.out.q.rg HL2.out.2 HL2.out.1 LL.out.1 LL.out.2).mono ?_
        rintro e Y6 ⟨y, rfl, hy1, hy2, hb6⟩
        have K6 := Lib.hid (K5.out.keep hb6)
        have SF := Lib.hid (refSame_any x y Y6 hx1 hy1)
        rw [decide_eq_true (HX2.out.trans hy2.symm)] at SF
        clear hb6 K5 hy2 HX2
        go_wp2_with fail
        refine SF.out.mono ?_
        rintro e Y7 ⟨rfl, rfl⟩
        clear SF
        go_wp2_with fail
        go_roundw
        case rel => exact ⟨k + 1, gr, hr, hq4, T1', T2', R2, by omega, rfl, by go_num, K6.out, HI2.out⟩
        case measure => simp [intOf]; omega
    · have HL2 := Lib.hid (show 0 < R.length ∧ R.length ≤ 8 from ⟨by rw [HI.out.len]; exact h1, by rw [HI.out.len]; exact h8⟩)
      go_wp2_with fail
      go_loopw [14] (fun iv wr => ∃ i : Int, -1 ≤ i ∧ i ≤ (N : Int) + 1 ∧ iv = .int .i64 i ∧ PS w wr w2.heap.size T1 T2 gr hr gq hq R R) (fun iv _ => ((N : Int) + 1 - intOf iv).toNat)
      case atStart => exact ⟨-1, by omega, by omega, rfl, HPS.out⟩
      case round =>
        obtain ⟨i, hi0, hi1, rfl, hps⟩ := hrel
        have HP := Lib.hid hps
        clear hps HPS
        by_cases hle : i ≤ (N : Int)
        · by_cases hneg : i < 0
          · have qn : decide (i < 0) = true := decide_eq_true hneg
            go_wp2_with fail
            refine (row_no _ gr i R _ HP.out.r.rg HL2.out.1 HL2.out.2 (by have := HI.out.len; omega)).mono ?_
            rintro e Y1 ⟨rfl, rfl⟩
            go_wp2_with fail
            refine (bp_vec _ _ _ _ _ _ _ HP.out.bl.size (HP.out.bp.of HP.out.bl.size (FI.nil _ _) (by simp))).mono ?_
            rintro e Y2 ⟨rfl, p, fr⟩
            have K2 := Lib.hid (HP.out.book fr (fun b q => q) p)
            clear p fr HP
            go_wp2_with fail
            go_roundw
            case rel => exact ⟨i + 1, by omega, by omega, by go_num, K2.out⟩
            case measure => simp [intOf]; omega
          have qn : decide (i < 0) = false := decide_eq_false hneg
          by_cases hN : i = (N : Int)
          · subst hN
            go_wp2_with fail
            refine (row_no _ gr (N : Int) R _ HP.out.r.rg HL2.out.1 HL2.out.2 (by have := HI.out.len; omega)).mono ?_
            rintro e Y1 ⟨rfl, rfl⟩
            go_wp2_with fail
            refine (bp_vec _ _ _ _ _ _ _ HP.out.bl.size (HP.out.bp.of HP.out.bl.size (FI.nil _ _) (by simp))).mono ?_
            rintro e Y2 ⟨rfl, p, fr⟩
            have K2 := Lib.hid (HP.out.book fr (fun b q => q) p)
            clear p fr HP
            go_wp2_with fail
            go_roundw
            case rel => exact ⟨(N : Int) + 1, by omega, by omega, by go_num, K2.out⟩
            case measure => simp [intOf] <;> omega
          · obtain ⟨k, rfl⟩ : ∃ k : Nat, i = k := ⟨i.toNat, by omega⟩
            have hkN : k < N := by omega
            have hkR : k < R.length := by rw [HI.out.len]; exact hkN
            have qN : ((k : Int) == (N : Int)) = false := by rw [beq_eq_false_iff_ne]; omega
            have HKR := Lib.hid hkR
            clear hkR
            go_wp2_with fail
            refine (row_yes _ gr k R _ HP.out.r.rg HKR.out).mono ?_
            rintro e Y1 ⟨v, rfl, f1, hb1⟩
            have P1 := Lib.hid (HP.out.bp.push hb1 HP.out.bl.size f1 (by rw [(HI.out.row hkN).2]; omega)).pend
            have K1 := Lib.hid (HP.out.keep hb1)
            have F1 := Lib.hid f1
            clear f1 hb1 HP
            go_wp2_with fail
            refine (bp_vec _ _ _ _ _ _ _ K1.out.bl.size P1.out).mono ?_
            rintro e Y2 ⟨rfl, p, fr⟩
            have K2 := Lib.hid (K1.out.book fr (fun b q => .inl q) p)
            have F2 := F1.out.fr fr (fun b q => not_not_intro (.inr ⟨(v, nthR R k), by simp, q⟩))
            obtain ⟨a1, n1, c1, rfl, I1⟩ := F2.si
            obtain ⟨cap, vs, hc, _, hown, hvl, hrr, _⟩ := K2.out.q
            obtain ⟨h0, cap', e1, _, hcell, _⟩ := OR.cellAt hown HKR.out
            obtain ⟨rfl, rfl⟩ : hq = h0 ∧ cap = cap' := by simp at e1; exact e1
            obtain ⟨a2, n2, c2, hvk, I2⟩ := (hrr k).si
            rw [hvk] at hcell
            have hcc := hc.cell
            have S1 := rsame_any a1 a2 n1 n2 c1 c2 (nthR R k) (nthR R k) Y2 I1 I2
            rw [decide_eq_true (rfl : nthR R k = nthR R k)] at S1
            have S1 := Lib.hid S1
            have hkl : ¬ R.length ≤ k := by have := HKR.out; omega
            have hkl2 : (k : Int) < (R.length : Int) := by omega
            clear p fr F1 F2 P1 K1 e1 hown hvl hrr hvk I1 I2 hc
            go_wp2_with fail
            refine S1.out.mono ?_
            rintro e Y3 ⟨rfl, hb3⟩
            have K3 := Lib.hid (K2.out.keep hb3)
            clear hb3 K2 S1 hcc hcell
            go_wp2_with fail
            go_roundw
            case rel => exact ⟨(k : Int) + 1, by omega, by omega, by go_num, K3.out⟩
            case measure => simp [intOf]; omega
        · go_wp2_with fail
          refine (alive20_any _).mono ?_
          rintro e Y1 ⟨rfl, hb⟩
          have K1 := Lib.hid (HP.out.keep hb)
          clear hb HP
          go_wp2_with fail
          refine (bp_apart _ _ _ _ K1.out.bl.size K1.out.bp).mono ?_
          rintro e Y2 ⟨rfl, hf⟩
          go_wp2_with fail
          go_ret
          exact ⟨rfl, K1.out.bl.fr hf (fun b q => q)⟩
set_option maxHeartbeats 1600000 in
set_option maxRecDepth 100000 in
theorem gossipPlays_walk (n : Int) (ad : Option Addr) (m c : Nat) (ops : List (Int × Int × List Int)) (w : World) (hn : -9223372036854775808 ≤ n ∧ n ≤ 9223372036854775807) (ho : OK3 w ad m ops) :
    Calls Tryz.prog 4 #[.int .i64 n, .slice ad m c] w fun e w' => e = .returned (.bool true) ∧ Bl w w' := by
  by_cases hm : m ≤ 200
  · by_cases h : 1 ≤ n ∧ n ≤ 8
    · obtain ⟨N, rfl⟩ : ∃ N : Nat, n = N := ⟨n.toNat, by omega⟩
      exact plays_in N (by omega) (by omega) ad m c ops w ho hm
    · have hm0 : (m : Int) ≤ 200 := by omega
      clear ho
      have hq : n < 1 ∨ 8 < n := by omega
      by_cases h1 : n < 1
      · have q1 : decide (n < 1) = true := decide_eq_true h1
        go_enter Tryz.func4, Tryz.ntmps4
        go_wp2_with fail
        refine (new_no n _ hq).mono ?_
        rintro e w1 ⟨rfl, rfl⟩
        go_wp2_with fail
        refine (alive20_any _).mono ?_
        rintro e Y1 ⟨rfl, hb⟩
        go_wp2_with fail
        go_ret
        exact ⟨rfl, hb⟩
      · have q1 : decide (n < 1) = false := decide_eq_false h1
        have q2 : decide (8 < n) = true := decide_eq_true (by omega)
        go_enter Tryz.func4, Tryz.ntmps4
        go_wp2_with fail
        refine (new_no n _ hq).mono ?_
        rintro e w1 ⟨rfl, rfl⟩
        go_wp2_with fail
        refine (alive20_any _).mono ?_
        rintro e Y1 ⟨rfl, hb⟩
        go_wp2_with fail
        go_ret
        exact ⟨rfl, hb⟩
  · have hm0 : ¬ ((m : Int) ≤ 200) := by omega
    have hm1 : (200 : Int) < (m : Int) := by omega
    clear ho
    go_enter Tryz.func4, Tryz.ntmps4
    go_wp2_with fail
    refine (alive20_any _).mono ?_
    rintro e Y1 ⟨rfl, hb⟩
    go_wp2_with fail
    go_ret
    exact ⟨rfl, hb⟩
end Go.Proofs.YtibabgokmacnaaaGreat
end
