import Derived.Test.YtibabgokmacnaaaGreatQVecTellsUptoP25
import Derived.Test.YtibabgokmacnaaaGreatQVecTellsUptoP26
import Derived.Test.YtibabgokmacnaaaGreatQVecTellsUptoP31
import Derived.Test.YtibabgokmacnaaaGreatQVecTellsUptoP1
import Derived.ProofKit
import Derived.SizedLaws
import Derived.Deep.CondSized
import Derived.OpenShut

/- the walk of VecTells. By an AI agent. -/
section
set_option linter.unusedVariables false
set_option linter.unusedSimpArgs false
namespace Go.Proofs.YtibabgokmacnaaaGreat
open Go.RowKit Go.Shelf

/-- the round's state: w the world at the call, W now; x and y the lent vectors; ps the vectors to be kept -/
structure TS (w W : World) (ps : List (Value × List Int)) (gx n cx : Nat) (xs : List Int) (gy m cy : Nat) (ys : List Int) : Prop where
  bl : Bl w W
  bp : BP w.heap.size W w.heap.size ps (fun b => b < w.heap.size)
  x : ∃ B, LV B W gx n cx xs
  y : ∃ B, LV B W gy m cy ys
theorem TS.keep {w W W' : World} {ps : List (Value × List Int)} {gx n cx : Nat} {xs : List Int} {gy m cy : Nat} {ys : List Int} (h : TS w W ps gx n cx xs gy m cy ys) (hb : Bl W W') : TS w W' ps gx n cx xs gy m cy ys := by
  obtain ⟨B, hx⟩ := h.x
  obtain ⟨B2, hy⟩ := h.y
  exact ⟨h.bl.trans hb, h.bp.keep hb, ⟨B, hx.keep hb⟩, ⟨B2, hy.keep hb⟩⟩
theorem TS.push {w W W' : World} {ps : List (Value × List Int)} {gx n cx : Nat} {xs : List Int} {gy m cy : Nat} {ys : List Int} (h : TS w W ps gx n cx xs gy m cy ys) (hb : Bl W W') {v : Value} {zs : List Int} (hv : FI W.heap.size W' v zs) (hl : zs.length ≤ 50000) : TS w W' (ps ++ [(v, zs)]) gx n cx xs gy m cy ys := by
  have k := h.keep hb
  exact ⟨k.bl, h.bp.push hb h.bl.size hv hl, k.x, k.y⟩
theorem BP.si {B : Nat} {W : World} {g : Nat} {ps : List (Value × List Int)} {T : Nat → Prop} (h : BP B W g ps T) {v : Value} {zs : List Int} (hp : (v, zs) ∈ ps) : SI W v zs := by
  obtain ⟨n, vv, wv, vs, us, xs, h⟩ := h
  exact (h.fi _ hp).1.si
theorem TS.xa {w W : World} {ps : List (Value × List Int)} {gx n cx : Nat} {xs : List Int} {gy m cy : Nat} {ys : List Int} (h : TS w W ps gx n cx xs gy m cy ys) : IA W (some ⟨gx, 0, none⟩) n xs := by
  obtain ⟨B, hx⟩ := h.x
  exact hx.ia
theorem TS.ya {w W : World} {ps : List (Value × List Int)} {gx n cx : Nat} {xs : List Int} {gy m cy : Nat} {ys : List Int} (h : TS w W ps gx n cx xs gy m cy ys) : IA W (some ⟨gy, 0, none⟩) m ys := by
  obtain ⟨B, hx⟩ := h.y
  exact hx.ia
theorem bp_vecS (w : World) (v : Value) (zs : List Int) (ps : List (Value × List Int)) (W : World) (hb : Bl w W) (h : BP w.heap.size W w.heap.size ((v, zs) :: ps) (fun b => b < w.heap.size)) :
    Calls Tryz.prog 30 #[.pointer (some ⟨w.heap.size, 0, none⟩), v] W fun e W' => e = .returned (.tuple #[]) ∧ BP w.heap.size W' w.heap.size ps (fun b => b < w.heap.size) ∧ Bl w W' := by
  refine (bp_vec _ _ v zs ps _ W hb.size h).mono ?_
  rintro e W' ⟨rfl, hp, hf⟩
  exact ⟨rfl, hp, hb.fr hf (fun b q => Nat.le_of_not_lt q)⟩

set_option maxHeartbeats 3200000 in
set_option maxRecDepth 100000 in
theorem vecTells_no (a b : Option Addr) (n m ca cb : Nat) (i t : Int) (s : ByteArray) (w : World) (h : ¬ (n ≤ 60 ∧ m ≤ 60)) :
    Calls Tryz.prog 3 #[.slice a n ca, .slice b m cb, .int .i64 i, .int .i64 t, .string s] w fun e w' => e = .returned (.bool true) ∧ Bl w w' := by
  have HL := Lib.hid (show (decide (n ≤ 60) && decide (m ≤ 60)) = false by
    by_cases h1 : n ≤ 60
    · simp [h1]; omega
    · simp [h1])
  go_enter Tryz.func3, Tryz.ntmps3
  go_wp2_with fail
  refine (light3_any a b n m ca cb _).mono ?_
  rintro e w1 ⟨rfl, rfl⟩
  rw [HL.out]
  go_wp2_with fail
  refine (alive3_any _).mono ?_
  rintro e w1 ⟨rfl, hb⟩
  go_wp2_with fail
  go_ret
  exact ⟨rfl, hb⟩

set_option maxHeartbeats 6400000 in
set_option maxRecDepth 100000 in
theorem vecTells_yes (a b : Option Addr) (n m ca cb : Nat) (xs ys : List Int) (i t : Int) (l : List UInt8) (w : World) (hx : IA w a n xs) (hy : IA w b m ys) (hi : -9223372036854775808 ≤ i ∧ i ≤ 9223372036854775807) (ht : -9223372036854775808 ≤ t ∧ t ≤ 9223372036854775807) (hz : l.length ≤ 1900000) (hn : n ≤ 60) (hm : m ≤ 60) :
    Calls Tryz.prog 3 #[.slice a n ca, .slice b m cb, .int .i64 i, .int .i64 t, .string (strL l)] w fun e w' => e = .returned (.bool true) ∧ Bl w w' := by
  have HX := Lib.hid hx
  have HY := Lib.hid hy
  have HLX := Lib.hid (show xs.length ≤ 60 by rw [hx.len]; exact hn)
  have HN := Lib.hid hn
  have HM := Lib.hid hm
  have HG1 := Lib.hid (fun w => (vget_rdc (strL l) l w rfl (by omega)).mono (fun _ _ h => rdAll_of h))
  have HG2 := Lib.hid (fun w => (rget3_c l w hz).mono (fun _ _ h => rdAll_of h))
  have HL := Lib.hid (show (decide (n ≤ 60) && decide (m ≤ 60)) = true by simp [hn, hm])
  generalize strL l = s at *
  clear hx hy hn hm hz
  go_enter Tryz.func3, Tryz.ntmps3
  go_wp2_with fail
  refine (light3_any a b n m ca cb _).mono ?_
  rintro e w1 ⟨rfl, rfl⟩
  rw [HL.out]
  have HB0 := Lib.hid (fun T => BP.new (T := fun b => b < w.heap.size) (Nat.le_refl w.heap.size) (AC.new w _ rfl (bookCs (.slice none 0 0) (.slice none 0 0)) T) (fun b hb => ⟨by simp; omega, by omega⟩))
  go_wp2_with fail
  go_loopw [12] (fun kv wr => ∃ k : Nat, k ≤ 2 ∧ kv = .int .i64 k ∧ Bl w wr ∧ BP w.heap.size wr w.heap.size [] (fun b => b < w.heap.size)) (fun kv _ => 2 - (intOf kv).toNat)
  case atStart => exact ⟨0, by omega, rfl, (Bl.refl w).alloc _, HB0.out _⟩
  case round =>
    obtain ⟨k, hk, rfl, hb, hbp⟩ := hrel
    have HBL := Lib.hid hb
    have HBP := Lib.hid hbp
    clear hb hbp HB0
    by_cases hlt : k < 2
    · go_wp2_with fail
      refine (lentVec_any a n ca xs _ (HX.out.keep HBL.out) (Nat.le_trans HN.out (by decide))).mono ?_
      rintro e w1 ⟨gx, cx, rfl, lx, hb1⟩
      have LX := Lib.hid lx
      have B1 := Lib.hid hb1
      clear lx hb1
      go_wp2_with fail
      refine (lentVec_any b m cb ys _ (HY.out.keep (HBL.out.trans B1.out)) (Nat.le_trans HM.out (by decide))).mono ?_
      rintro e w2 ⟨gy, cy, rfl, ly, hb2⟩
      have H := Lib.hid (show TS w w2 [] gx n cx xs gy m cy ys from ⟨(HBL.out.trans B1.out).trans hb2, (HBP.out.keep B1.out).keep hb2, ⟨_, LX.out.keep hb2⟩, ⟨_, ly⟩⟩)
      clear ly hb2 LX B1 HBL HBP
      go_wp2_with fail
      refine (join_any _ _ _ _ _ _ xs ys _ H.out.xa H.out.ya).mono ?_
      rintro e w3 ⟨vj, rfl, hf, hb⟩
      have H3 := Lib.hid (H.out.push hb hf (Nat.le_trans (each_len8 _ _ _) (Nat.le_trans HLX.out (by decide))))
      clear hf hb H
      go_wp2_with fail
      refine (meet_any _ _ _ _ _ _ xs ys _ H3.out.xa H3.out.ya).mono ?_
      rintro e w4 ⟨vm, rfl, hf, hb⟩
      have H4 := Lib.hid (H3.out.push hb hf (Nat.le_trans (each_len8 _ _ _) (Nat.le_trans HLX.out (by decide))))
      clear hf hb H3
      go_wp2_with fail
      refine (with_any _ _ _ xs i t _ H4.out.xa ht).mono ?_
      rintro e w5 ⟨vw, rfl, hf, hb⟩
      have H5 := Lib.hid (H4.out.push hb hf (by rw [withL_len]; exact Nat.le_trans HLX.out (by decide)))
      clear hf hb H4
      go_wp2_with fail
      refine (zero_any i _ hi.1 hi.2).mono ?_
      rintro e w6 ⟨vz, rfl, hf, hb⟩
      have H6 := Lib.hid (H5.out.push hb hf (Nat.le_trans (zeroI_len i) (by decide)))
      clear hf hb H5
      go_wp2_with fail
      refine (HG1.out _).mono ?_
      rintro e w7 ⟨vg, rfl, hf, hb⟩
      have H7 := Lib.hid (H6.out.push hb hf (Nat.le_trans (rdX_len l) (by decide)))
      clear hf hb H6
      go_wp2_with fail
      refine (HG2.out _).mono ?_
      rintro e w8 ⟨vh, rfl, hf, hb⟩
      have SH := Lib.hid hf.si
      have H8 := Lib.hid (H7.out.keep hb)
      clear hf hb H7
      go_wp2_with fail
      refine (vptL_any _ _ _ xs _ H8.out.xa).mono ?_
      rintro e w9 ⟨rfl, hb⟩
      have H9 := Lib.hid (H8.out.keep hb)
      have SH9 := Lib.hid (SH.out.keep hb)
      clear hb H8 SH
      go_wp2_with fail
      refine (rptL_any _ _ _ xs _ (HX.out.keep H9.out.bl)).mono ?_
      rintro e w10 ⟨rfl, hb⟩
      have H10 := Lib.hid (H9.out.keep hb)
      have SH10 := Lib.hid (SH9.out.keep hb)
      clear hb H9 SH9
      generalize strL (ptX xs) = sp
      generalize ptE xs = pe
      generalize rdN l = rn
      generalize rdC l = rc
      go_wp2_with fail
      refine (rjoin3_any _ _ _ _ _ _ xs ys _ (HX.out.keep H10.out.bl) (HY.out.keep H10.out.bl)).mono ?_
      rintro e w11 ⟨vu, rfl, hf, hb⟩
      have SU := Lib.hid hf.si
      clear hf
      have H11 := Lib.hid (H10.out.keep hb)
      have SH11 := Lib.hid (SH10.out.keep hb)
      clear hb H10 SH10
      go_wp2_with fail
      refine (rsameY vj vu (joinL xs ys) _ (H11.out.bp.si (by simp)) SU.out).mono ?_
      rintro e w12 ⟨rfl, hb⟩
      clear SU
      have H12 := Lib.hid (H11.out.keep hb)
      have SH12 := Lib.hid (SH11.out.keep hb)
      clear hb H11 SH11
      go_wp2_with fail
      refine (rmeet3_any _ _ _ _ _ _ xs ys _ (HX.out.keep H12.out.bl) (HY.out.keep H12.out.bl)).mono ?_
      rintro e w13 ⟨vu, rfl, hf, hb⟩
      have SU := Lib.hid hf.si
      clear hf
      have H13 := Lib.hid (H12.out.keep hb)
      have SH13 := Lib.hid (SH12.out.keep hb)
      clear hb H12 SH12
      go_wp2_with fail
      refine (rsameY vm vu (meetL xs ys) _ (H13.out.bp.si (by simp)) SU.out).mono ?_
      rintro e w14 ⟨rfl, hb⟩
      clear SU
      have H14 := Lib.hid (H13.out.keep hb)
      have SH14 := Lib.hid (SH13.out.keep hb)
      clear hb H13 SH13
      go_wp2_with fail
      refine (rwith3_any _ _ _ xs i t _ (HX.out.keep H14.out.bl) ht).mono ?_
      rintro e w15 ⟨vu, rfl, hf, hb⟩
      have SU := Lib.hid hf.si
      clear hf
      have H15 := Lib.hid (H14.out.keep hb)
      have SH15 := Lib.hid (SH14.out.keep hb)
      clear hb H14 SH14
      go_wp2_with fail
      refine (rsameY vw vu (withL xs i t) _ (H15.out.bp.si (by simp)) SU.out).mono ?_
      rintro e w16 ⟨rfl, hb⟩
      clear SU
      have H16 := Lib.hid (H15.out.keep hb)
      have SH16 := Lib.hid (SH15.out.keep hb)
      clear hb H15 SH15
      go_wp2_with fail
      refine (rzero3_any i _ hi.1 hi.2).mono ?_
      rintro e w17 ⟨vu, rfl, hf, hb⟩
      have SU := Lib.hid hf.si
      clear hf
      have H17 := Lib.hid (H16.out.keep hb)
      have SH17 := Lib.hid (SH16.out.keep hb)
      clear hb H16 SH16
      go_wp2_with fail
      refine (rsameY vz vu (zeroI i) _ (H17.out.bp.si (by simp)) SU.out).mono ?_
      rintro e w18 ⟨rfl, hb⟩
      clear SU
      have H18 := Lib.hid (H17.out.keep hb)
      have SH18 := Lib.hid (SH17.out.keep hb)
      clear hb H17 SH17
      go_wp2_with fail
      refine (rsameY vg vh (rdX l) _ (H18.out.bp.si (by simp)) SH18.out).mono ?_
      rintro e w19 ⟨rfl, hb⟩
      have H19 := Lib.hid (H18.out.keep hb)
      have SH19 := Lib.hid (SH18.out.keep hb)
      clear hb H18 SH18
      clear SH19
      go_wp2_with fail
      refine (valid_any _ _ _ xs _ H19.out.xa).mono ?_
      rintro e w20 ⟨rfl, rfl⟩
      have H20 := H19
      clear H19
      go_wp2_with fail
      refine (rvalid_any _ _ _ xs _ (HX.out.keep H20.out.bl)).mono ?_
      rintro e w21 ⟨rfl, rfl⟩
      have H21 := H20
      clear H20
      go_wp2_with fail
      refine (leq_any _ _ _ _ _ _ xs ys _ H21.out.xa H21.out.ya).mono ?_
      rintro e w22 ⟨rfl, rfl⟩
      have H22 := H21
      clear H21
      go_wp2_with fail
      refine (rleq_any _ _ _ _ _ _ xs ys _ (HX.out.keep H22.out.bl) (HY.out.keep H22.out.bl)).mono ?_
      rintro e w23 ⟨rfl, hb⟩
      have H23 := Lib.hid (H22.out.keep hb)
      clear hb H22
      go_wp2_with fail
      refine (same_any _ _ _ _ _ _ xs ys _ H23.out.xa H23.out.ya).mono ?_
      rintro e w24 ⟨rfl, hb⟩
      have H24 := Lib.hid (H23.out.keep hb)
      clear hb H23
      go_wp2_with fail
      refine (rsame_any _ _ _ _ _ _ xs ys _ (HX.out.keep H24.out.bl) (HY.out.keep H24.out.bl)).mono ?_
      rintro e w25 ⟨rfl, hb⟩
      have H25 := Lib.hid (H24.out.keep hb)
      clear hb H24
      go_wp2_with fail
      refine (text_same _ _ _ xs _ H25.out.xa (Nat.le_trans HN.out (by decide))).mono ?_
      rintro e w26 ⟨rfl, hb⟩
      have H26 := Lib.hid (H25.out.keep hb)
      clear hb H25
      go_wp2_with fail
      refine (rtext_any _ _ _ xs _ (HX.out.keep H26.out.bl) (Nat.le_trans HN.out (by decide))).mono ?_
      rintro e w27 ⟨rfl, hb⟩
      have H27 := Lib.hid (H26.out.keep hb)
      clear hb H26
      obtain ⟨Bx, lx⟩ := H27.out.x
      go_wp2_with fail
      refine (staysVec_any Bx _ _ _ _ _ _ xs _ lx (HX.out.keep H27.out.bl) (Nat.le_trans HN.out (by decide))).mono ?_
      rintro e w28 ⟨rfl, hb⟩
      clear lx
      have H28 := Lib.hid (H27.out.keep hb)
      clear hb H27
      obtain ⟨By, ly⟩ := H28.out.y
      go_wp2_with fail
      refine (staysVec_any By _ _ _ _ _ _ ys _ ly (HY.out.keep H28.out.bl) (Nat.le_trans HM.out (by decide))).mono ?_
      rintro e w29 ⟨rfl, hb⟩
      clear ly
      have H29 := Lib.hid (H28.out.keep hb)
      clear hb H28
      have HB := Lib.hid H29.out.bl
      have HP := Lib.hid (show BP w.heap.size _ w.heap.size [(vj, joinL xs ys), (vm, meetL xs ys), (vw, withL xs i t), (vz, zeroI i), (vg, rdX l)] (fun b => b < w.heap.size) from H29.out.bp)
      clear H29
      go_wp2_with fail
      refine (bp_vecS w _ _ _ _ HB.out HP.out).mono ?_
      rintro e w30 ⟨rfl, hp, hb⟩
      clear HB HP
      have HB := Lib.hid hb
      have HP := Lib.hid hp
      clear hb hp
      go_wp2_with fail
      refine (bp_vecS w _ _ _ _ HB.out HP.out).mono ?_
      rintro e w31 ⟨rfl, hp, hb⟩
      clear HB HP
      have HB := Lib.hid hb
      have HP := Lib.hid hp
      clear hb hp
      go_wp2_with fail
      refine (bp_vecS w _ _ _ _ HB.out HP.out).mono ?_
      rintro e w32 ⟨rfl, hp, hb⟩
      clear HB HP
      have HB := Lib.hid hb
      have HP := Lib.hid hp
      clear hb hp
      go_wp2_with fail
      refine (bp_vecS w _ _ _ _ HB.out HP.out).mono ?_
      rintro e w33 ⟨rfl, hp, hb⟩
      clear HB HP
      have HB := Lib.hid hb
      have HP := Lib.hid hp
      clear hb hp
      go_wp2_with fail
      refine (bp_vecS w _ _ _ _ HB.out HP.out).mono ?_
      rintro e w34 ⟨rfl, hp, hb⟩
      clear HB HP
      have HB := Lib.hid hb
      have HP := Lib.hid hp
      clear hb hp
      go_wp2_with fail
      go_roundw
      case rel => exact ⟨k + 1, by omega, by go_num, HB.out, HP.out⟩
      case measure => simp [intOf]; omega
    · go_wp2_with fail
      refine (alive3_any _).mono ?_
      rintro e w1 ⟨rfl, hb⟩
      have HB := Lib.hid (HBL.out.trans hb)
      have HP := Lib.hid (HBP.out.keep hb)
      clear hb HBL HBP
      go_wp2_with fail
      refine (bp_apart _ _ _ _ HB.out.size HP.out).mono ?_
      rintro e w2 ⟨rfl, hf⟩
      go_wp2_with fail
      go_ret
      exact ⟨rfl, HB.out.fr hf (fun b q => q)⟩
theorem vecTells_walk (a : Option Addr) (n ca : Nat) (xs : List Int) (b : Option Addr) (m cb : Nat) (ys : List Int) (i t : Int) (s : ByteArray) (w : World) (hx : IA w a n xs) (hy : IA w b m ys) (hi : -9223372036854775808 ≤ i ∧ i ≤ 9223372036854775807) (ht : -9223372036854775808 ≤ t ∧ t ≤ 9223372036854775807) (hz : s.size ≤ 1048576) :
    Calls Tryz.prog 3 #[.slice a n ca, .slice b m cb, .int .i64 i, .int .i64 t, .string s] w fun e w' => e = .returned (.bool true) ∧ Bl w w' := by
  by_cases h : n ≤ 60 ∧ m ≤ 60
  · have := vecTells_yes a b n m ca cb xs ys i t s.data.toList w hx hy hi ht (by rw [Array.length_toList]; exact Nat.le_trans hz (by decide)) h.1 h.2
    exact this
  · exact vecTells_no a b n m ca cb i t s w h
end Go.Proofs.YtibabgokmacnaaaGreat
end

/- From a walk ('it returns true, and nothing that was there has turned') to the given statement. By an AI agent. -/
section
namespace Go.Proofs.YtibabgokmacnaaaGreat
open Go.ChangeShapes Go.WideShapes Go.ChangeAt Go.RowKit

theorem own : ownKnob Tryz.prog.godebug = none := by kernel_rfl
theorem laidOut : laidOutB Tryz.prog = true := by kernel_rfl

section
variable {H : Type} {enc : TypeId × Value → H}

/-- arguments that can be read, read as they did -/
theorem trodAll_keep {W W' : World} (hb : Bl W W') : ∀ (ts : List TypeId) (vs : List Value) (ds : List (DataW H)) (ps : List MemPlace),
    (∀ t ∈ ts, Tryz.prog.readableRec t = true ∧ t < Tryz.prog.types.size) → (∀ x ∈ ps, x.block < W.heap.size) →
    DataW.TrodAll enc Tryz.prog W 0 (fun _ => true) true ts vs ds ps → DataW.TrodAll enc Tryz.prog W' 0 (fun b => decide (b < W.heap.size)) true ts vs ds ps
  | [], [], [], ps, _, _, h => h
  | t :: ts, v :: vs, d :: ds, ps, hr, hlt, h => by
    obtain ⟨p, q, h1, h2, rfl⟩ := h
    exact ⟨p, q, Below.trod laidOut (hr t (by simp)).1 (hr t (by simp)).2 h1 hb (fun x hx => hlt x (by simp [hx])), trodAll_keep hb ts vs ds q (fun t ht => hr t (by simp [ht])) (fun x hx => hlt x (by simp [hx])) h2, rfl⟩
  | [], [], _ :: _, _, _, _, h => h.elim
  | [], _ :: _, _, _, _, _, h => h.elim
  | _ :: _, [], _, _, _, _, h => h.elim
  | _ :: _, _ :: _, [], _, _, _, h => h.elim

theorem trodAll_len {P : Program} {w : World} {b : Nat} {sp : Nat → Bool} {hd : Bool} : ∀ (ts : List TypeId) (vs : List Value) (ds : List (DataW H)) (ps : List MemPlace), DataW.TrodAll enc P w b sp hd ts vs ds ps → ds.length = ts.length
  | [], [], [], _, _ => rfl
  | _ :: ts, _ :: vs, _ :: ds, _, h => by
    obtain ⟨p, q, h1, h2, e⟩ := h
    simp [trodAll_len ts vs ds q h2]
  | [], [], _ :: _, _, h => h.elim
  | [], _ :: _, _, _, h => h.elim
  | _ :: _, [], _, _, h => h.elim
  | _ :: _, _ :: _, [], _, h => h.elim

/-- THE LAW's POST, out of its walk -/
theorem law_post {f : FuncId} {fn : Func} {s : ChangeSpec} {W : World} {args : Array Value} {ds gs : List (DataW H)} {before : List MemPlace}
    (hres : fn.resultTypes = #[4]) (hvars : s.vars = []) (hread : ∀ t ∈ fn.params.toList, Tryz.prog.readableRec t = true ∧ t < Tryz.prog.types.size)
    (hfn : ∀ ds : List (DataW H), ds.length = fn.params.toList.length → s.fn H ds = { results := [.lit (.bool true)], args := ds })
    (hW : DataW.Whole enc Tryz.prog fn.params.toList s.vars false W args.toList ds gs before)
    (hc : Calls Tryz.prog f args W fun e W' => e = .returned (.bool true) ∧ Bl W W') :
    Calls Tryz.prog f args W fun e W' => ∃ v, e = .returned v ∧ s.post enc Tryz.prog fn false true false false W args v W' := by
  refine hc.mono fun e W' ⟨he, hb⟩ => ?_
  subst he
  have hW' := hW
  obtain ⟨p, q, hA, hV, rfl, _, _⟩ := hW
  rw [hvars] at hV
  obtain ⟨rfl, rfl⟩ := trodVars_none hV
  have hl : ds.length = fn.params.toList.length := trodAll_len _ _ _ _ hA
  have e1 := hfn (ds ++ []) (by simpa using hl)
  simp only [List.append_nil] at hW' e1
  refine ⟨_, rfl, ds, [], p, [], p, [], hW', ?_, ?_, ?_, Below.frame hb _, fun h => by cases h⟩
  · simp only [List.append_nil, e1, hres]
    exact trodAll_mk1 (shut_bool Tryz.underlying4 _)
  · simp only [List.append_nil, e1]
    exact trodAll_keep hb _ _ _ _ hread (fun x hx => by have := hW'.lt x hx; simpa using this) hA
  · simp only [List.append_nil, e1, hvars]
    rfl

theorem cells_int : Tryz.prog.cellsOf 3 = 1 := by kernel_rfl
theorem bytes_int : Tryz.prog.bytesOf 3 = 8 := by kernel_rfl

set_option maxRecDepth 100000 in
/-- an argument that is a vector -/
theorem open_vec {W : World} {base : Nat} {v : Value} {d : DataW H} {p : List MemPlace} (hval : Value.okWide Tryz.prog W .any base 23 v) (h : DataW.Trod enc Tryz.prog W 0 (fun _ => true) true 23 v d p)
    (hsz : ∀ elems spare, d = .slice elems spare → (elems.length + spare.length) * Tryz.prog.bytesOf 3 ≤ reachBytes) : ∃ a n cap xs, v = .slice a n cap ∧ IA W a n xs := by
  obtain ⟨a0, len, cap, rfl⟩ := okWide_slice Tryz.underlying23 hval
  obtain ⟨fuel, hf⟩ := h
  rcases open_ints Tryz.underlying23 Tryz.underlying3 cells_int hf with ⟨hcs, hx⟩ | ⟨a, len', cap', zs, hcs, _, hl, hm, hz, hx, hcell, hwz⟩
  · simp [Value.cells] at hcs
    obtain ⟨rfl, rfl, rfl⟩ := hcs
    exact ⟨none, 0, 0, [], rfl, IA.nil _ _⟩
  · simp [Value.cells] at hcs
    obtain ⟨rfl, rfl, rfl⟩ := hcs
    simp only [Prod.mk.injEq] at hx
    obtain ⟨rfl, rfl⟩ := hx
    simp only [if_true] at hz
    have hreach := hsz _ _ rfl
    rw [bytes_int] at hreach
    simp only [lits, List.length_map, List.length_take, List.length_drop, reachBytes] at hreach
    refine ⟨some a, len, cap, zs.take len, rfl, by rw [List.length_take]; omega, by omega, fun j hj => ?_, fun x hx => ?_⟩
    · obtain ⟨b, off, spot⟩ := a
      have hspot : spot = none := by simpa [Addr.add] using World.cell?_spot (hcell 0 (by omega))
      subst hspot
      refine ⟨b, off, rfl, fun j hj => ?_⟩
      rw [← add_plain, hcell j (by omega)]
      simp [nth, List.getD, hj]
    · exact bounds_i64 (hwz x (List.mem_of_mem_take hx))
end
end Go.Proofs.YtibabgokmacnaaaGreat
end
