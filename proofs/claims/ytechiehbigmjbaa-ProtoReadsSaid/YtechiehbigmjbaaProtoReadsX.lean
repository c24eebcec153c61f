/- the walk of ProtoReads. By an AI agent. -/
import Derived.Test.YtechiehbigmjbaaReads0
import Derived.Test.YtechiehbigmjbaaExt2
import Derived.StillTailTactics
set_option linter.unusedVariables false
set_option linter.unusedSimpArgs false
namespace Go.Proofs.Ytechiehbigmjbaa
open Go.RowKit
attribute [local go_sem] eOp eOper eUpon

/-- the j-th thing that is done -/
def nthP (ops : List (Int × ByteArray)) (j : Nat) : Int × ByteArray := ops.getD j (0, ⟨#[]⟩)
/-- a slice that reads as things that are done -/
structure PO (w : World) (a : Option Addr) (n : Nat) (ops : List (Int × ByteArray)) : Prop where
  len : ops.length = n
  cap : n * 24 ≤ 140737488351232
  cells : ∀ j, j < n → ∃ b off, a = some ⟨b, off, none⟩ ∧ ∀ j, j < n → w.cell? ⟨b, off + j * 2, none⟩ = some (.int .i64 (nthP ops j).1) ∧ w.cell? ⟨b, off + j * 2 + 1, none⟩ = some (.string (nthP ops j).2)
  sz : ∀ j, (nthP ops j).2.size ≤ 140737488351232
theorem PO.keep {w w' : World} {a : Option Addr} {n : Nat} {ops : List (Int × ByteArray)} (h : PO w a n ops) (hb : Bl w w') : PO w' a n ops :=
  ⟨h.len, h.cap, fun j hj => by
    obtain ⟨b, off, e, hc⟩ := h.cells j hj
    exact ⟨b, off, e, fun j hj => ⟨hb.cell (hc j hj).1, hb.cell (hc j hj).2⟩⟩, h.sz⟩
theorem PO.get {w W : World} {b : Nat} {off : Nat} {n : Nat} {ops : List (Int × ByteArray)} (h : PO w (some ⟨b, off, none⟩) n ops) (hb : Bl w W) {k : Nat} (hk : k < n) :
    W.cell? ⟨b, off + k * 2, none⟩ = some (.int .i64 (nthP ops k).1) ∧ W.cell? ⟨b, off + k * 2 + 1, none⟩ = some (.string (nthP ops k).2) := by
  obtain ⟨b', off', e, hc⟩ := h.cells k hk
  cases e
  exact ⟨hb.cell (hc k hk).1, hb.cell (hc k hk).2⟩
/-- the two readers, which tell the same -/
structure RP (w W : World) (gr gq : Nat) (l : List UInt8) (b : Bool) : Prop where
  bl : Bl w W
  r : RB2 W gr l b
  q : RB2 W gq l b
  ne : gr ≠ gq
  lr : w.heap.size ≤ gr
  lq : w.heap.size ≤ gq
theorem RP.keep {w W W' : World} {gr gq : Nat} {l : List UInt8} {b : Bool} (h : RP w W gr gq l b) (k : Bl W W') : RP w W' gr gq l b := ⟨h.bl.trans k, h.r.keep k, h.q.keep k, h.ne, h.lr, h.lq⟩
theorem RP.new {w W : World} (hb : Bl w W) (T U : TypeId) : RP w ((W.alloc (.cells #[.string ⟨#[]⟩, .bool false] T)).alloc (.cells #[.string ⟨#[]⟩, .bool false] U)) W.heap.size (W.heap.size + 1) [] false :=
  ⟨(hb.alloc _).alloc _, (show RB2 _ _ [] false from AC.new W _ rfl [.string ⟨#[]⟩, .bool false] T).keep ((Bl.refl _).alloc _), AC.new _ (W.heap.size + 1) (by simp) [.string ⟨#[]⟩, .bool false] U, by omega, hb.size, by have := hb.size; omega⟩
/-- both are at another rest -/
theorem RP.both {w W W1 W2 : World} {gr gq : Nat} {l : List UInt8} {b : Bool} (h : RP w W gr gq l b) (m : List UInt8) (h1 : Bl (W.setCell ⟨gr, 0, none⟩ (.string (strL m))) W1) (h2 : Bl W1 W2) : RP w (W2.setCell ⟨gq, 0, none⟩ (.string (strL m))) gr gq m b :=
  ⟨((show Bl w _ from (show Bl w (W.setCell ⟨gr, 0, none⟩ (.string (strL m))) from h.bl.setCell (p := ⟨gr, 0, none⟩) h.lr _).trans (h1.trans h2))).setCell (p := ⟨gq, 0, none⟩) h.lq _,
   AC.other (((h.r.fed m).keep (h1.trans h2))) h.ne, ((show RB2 _ gq l b from (AC.other h.q (Ne.symm h.ne))).keep (h1.trans h2)).fed m, h.ne, h.lr, h.lq⟩
theorem RP.bad {w W W1 W2 : World} {gr gq : Nat} {l : List UInt8} {b : Bool} (h : RP w W gr gq l b) (h1 : (W.setCell ⟨gr, 0, none⟩ (.string (strL []))).setCell ⟨gr, 1, none⟩ (.bool true) = W1) (h2 : Bl W1 W2) : RP w ((W2.setCell ⟨gq, 1, none⟩ (.bool true)).setCell ⟨gq, 0, none⟩ (.string (strL []))) gr gq [] true := by
  subst h1
  have k1 : Bl w ((W.setCell ⟨gr, 0, none⟩ (.string (strL []))).setCell ⟨gr, 1, none⟩ (.bool true)) := (show Bl w (W.setCell ⟨gr, 0, none⟩ (.string (strL []))) from h.bl.setCell (p := ⟨gr, 0, none⟩) h.lr _).setCell (p := ⟨gr, 1, none⟩) h.lr _
  have r1 : RB2 W2 gr [] true := (show RB2 _ gr [] true from (AC.setj (h.r.fed []) 1 (.bool true))).keep h2
  have q1 : RB2 W2 gq l b := (show RB2 _ gq l b from (AC.other (AC.other h.q (Ne.symm h.ne)) (Ne.symm h.ne))).keep h2
  refine ⟨?_, AC.other (AC.other r1 h.ne) h.ne, ?_, h.ne, h.lr, h.lq⟩
  · exact (show Bl w (W2.setCell ⟨gq, 1, none⟩ (.bool true)) from (k1.trans h2).setCell (p := ⟨gq, 1, none⟩) h.lq _).setCell (p := ⟨gq, 0, none⟩) h.lq _
  · exact AC.setj (AC.setj q1 1 (.bool true)) 0 (.string (strL []))
/-- what is framed, on both sides -/
theorem frames_any (l : List UInt8) (hl : l.length ≤ 70000) : ∃ (f : ByteArray) (c : Int), (∀ w, Calls Try.prog 27 #[.string (strL l)] w fun e w' => e = .returned (.tuple #[.string f, .int .i64 c]) ∧ Bl w w') ∧
    (∀ w, Calls Try.prog 28 #[.string (strL l)] w fun e w' => e = .returned (.tuple #[.string f, .int .i64 c]) ∧ Bl w w') := by
  by_cases h : l.length ≤ 65536
  · exact ⟨_, _, fun w => frame_yes l w h, fun w => rframe_yes l w h⟩
  · exact ⟨_, _, fun w => frame_no l w (by omega), fun w => rframe_no l w (by omega)⟩

set_option maxHeartbeats 3200000 in
set_option maxRecDepth 100000 in
theorem protoReads_early (a : Option Addr) (n ca : Nat) (ops : List (Int × ByteArray)) (s : ByteArray) (w : World) (ho : PO w a n ops) (hs : s.size ≤ 140737488351232) (h : 200 < n ∨ 70000 < s.size) :
    Calls Try.prog 4 #[.slice a n ca, .string s] w fun e w' => e = .returned (.bool true) ∧ Bl w w' := by
  have hc := ho.cap
  by_cases h1 : 200 < n
  · clear h
    go_enter Try.func4, Try.ntmps4
    go_wp2_with fail
    refine (alive25_any _).mono ?_
    rintro e w2 ⟨rfl, hb2⟩
    go_wp2_with fail
    go_ret
    exact ⟨rfl, hb2⟩
  · have h2 : 70000 < s.size := by omega
    clear h
    go_enter Try.func4, Try.ntmps4
    go_wp2_with fail
    refine (alive25_any _).mono ?_
    rintro e w2 ⟨rfl, hb2⟩
    go_wp2_with fail
    go_ret
    exact ⟨rfl, hb2⟩
set_option maxHeartbeats 6400000 in
set_option maxRecDepth 100000 in
theorem protoReads_main (a : Option Addr) (n ca : Nat) (ops : List (Int × ByteArray)) (l : List UInt8) (w : World) (ho : PO w a n ops) (h1 : n ≤ 200) (h2 : l.length ≤ 70000) :
    Calls Try.prog 4 #[.slice a n ca, .string (strL l)] w fun e w' => e = .returned (.bool true) ∧ Bl w w' := by
  have z := strL_size l
  obtain ⟨f, fc, F1o, F2o⟩ := frames_any l h2
  have F1 := Lib.hid F1o
  have F2 := Lib.hid F2o
  clear F1o F2o
  have HO := Lib.hid ho
  clear ho
  obtain ⟨s, hs⟩ : ∃ s, s = strL l := ⟨_, rfl⟩
  rw [← hs] at F1 F2 z ⊢
  clear hs
  have q1 : (f.toList == f.toList) = true := by simp
  have q2 : ((fc : Int) != fc) = false := by simp
  have q3 : decide (200 < (n : Int)) = false := by rw [decide_eq_false_iff_not]; omega
  have q4 : decide (70000 < (s.size : Int)) = false := by rw [decide_eq_false_iff_not]; omega
  go_enter Try.func4, Try.ntmps4
  go_wp2_with fail
  refine (F1.out _).mono ?_
  rintro e w1 ⟨rfl, hb1⟩
  go_wp2_with fail
  refine (F2.out _).mono ?_
  rintro e w2 ⟨rfl, hb2⟩
  have G := RP.new (hb1.trans hb2) 48 51
  have GH := Lib.hid G
  clear G hb1 hb2 F1 F2
  go_wp2_with fail
  generalize hgr : w2.heap.size = gr at *
  generalize World.alloc _ _ = W at *
  clear hgr
  go_loopw [11] (fun i wr => ∃ (k : Nat) (m : List UInt8) (b : Bool), k ≤ n ∧ i = .int .i64 k ∧ m.length ≤ 3000 * k ∧ RP w wr gr (gr + 1) m b ∧ Hid (b = true → m = [])) (fun i _ => n - (intOf i).toNat)
  case atStart => exact ⟨0, [], false, Nat.zero_le _, rfl, by simp, GH.out, Lib.hid (fun h => by cases h)⟩
  case round =>
    clear GH
    obtain ⟨k, m, b, hk, rfl, hm, G, HE⟩ := hrel
    have GH := Lib.hid G
    clear G
    by_cases hlt : k < n
    · obtain ⟨ba, oa, rfl, hc⟩ := (HO.out.keep GH.out.bl).cells k hlt
      obtain ⟨ck, cd⟩ := hc k hlt
      clear hc
      obtain ⟨o, ho⟩ : ∃ o, nthP ops k = o := ⟨_, rfl⟩
      rw [ho] at ck cd
      obtain ⟨kd, d⟩ := o
      have HOP := Lib.hid ho
      clear ho
      dsimp only at ck cd
      by_cases h3 : 3000 < d.size
      · go_wp2_with fail
        go_ret
        exact ⟨rfl, GH.out.bl⟩
      · have q5 : decide (3000 < (d.size : Int)) = false := by rw [decide_eq_false_iff_not]; omega
        have zd : d.data.toList.length = d.size := by simp
        have HD : Hid (strL d.data.toList = d) := Lib.hid rfl
        by_cases hkd : kd = 1
        · subst hkd
          cases b
          · have hm2 : (m ++ d.data.toList).length ≤ 3000 * (k + 1) := by rw [List.length_append]; omega
            have HM2 := Lib.hid hm2
            have HF := Lib.hid (feed_any gr d.data.toList m wr GH.out.r (by omega))
            rw [HD.out] at HF
            clear hm2
            go_wp2_with fail
            refine HF.out.mono ?_
            clear HF
            rintro e w3 ⟨rfl, rfl⟩
            have c0 : World.cell? (wr.setCell ⟨gr, 0, none⟩ (.string (strL (m ++ d.data.toList)))) ⟨gr + 1, 0, none⟩ = some (.string (strL m)) := AC.cell (AC.other GH.out.q (Ne.symm GH.out.ne)) 0 _ rfl
            have c1 : World.cell? (wr.setCell ⟨gr, 0, none⟩ (.string (strL (m ++ d.data.toList)))) ⟨gr + 1, 1, none⟩ = some (.bool false) := AC.cell (AC.other GH.out.q (Ne.symm GH.out.ne)) 1 _ rfl
            have hX := Bl.refl (wr.setCell ⟨gr, 0, none⟩ (.string (strL (m ++ d.data.toList))))
            have HX : Hid (AC (wr.setCell ⟨gr, 0, none⟩ (.string (strL (m ++ d.data.toList)))) (gr + 1) [.string (strL m), .bool false]) := Lib.hid (AC.other GH.out.q (Ne.symm GH.out.ne))
            have HO3 : Hid (∀ W, Bl (wr.setCell ⟨gr, 0, none⟩ (.string (strL (m ++ d.data.toList)))) W → RP w (W.setCell ⟨gr + 1, 0, none⟩ (.string (strL (m ++ d.data.toList)))) gr (gr + 1) (m ++ d.data.toList) false) := Lib.hid (fun W hb => GH.out.both (m ++ d.data.toList) hX hb)
            have B1 : Bl w (wr.setCell ⟨gr, 0, none⟩ (.string (strL (m ++ d.data.toList)))) := GH.out.bl.setCell (p := ⟨gr, 0, none⟩) GH.out.lr _
            have cd3 := (HO.out.get B1 hlt).2
            have HG3 := Lib.hid GH.out
            rw [HOP.out] at cd3
            have hl := GH.out.lr
            have HS := Lib.hid (show strL m ++ d = strL (m ++ d.data.toList) from strL_app m d.data.toList)
            have zm := strL_size m
            have sz : (9223372036854775807 < (strL m).size + d.size) = False := eq_false (by omega)
            have sz2 : (9223372036854775807 < m.length + d.size) = False := eq_false (by omega)
            clear hX ck cd GH
            generalize hW3 : wr.setCell ⟨gr, 0, none⟩ (.string (strL (m ++ d.data.toList))) = W3 at *
            obtain ⟨s1, hs1⟩ : ∃ s, s = strL m := ⟨_, rfl⟩
            rw [← hs1] at c0 HS zm sz HX
            have hs1' := Lib.hid hs1
            have HW3 := Lib.hid hW3
            clear hs1 hW3
            go_wp2_with fail
            obtain ⟨wd, hwd⟩ : ∃ wd, wd = W3.drew := ⟨_, rfl⟩
            have hbd : Bl W3 wd := by rw [hwd]; exact (Bl.refl W3).drew
            go_still_tail 13, (by kernel_rfl)
            change wpList _ _ _ _ _ W3.drew
            rw [← hwd]
            have HX2 := HX.out.keep hbd
            have B2 := B1.trans hbd
            have cd4 := (HO.out.get B2 hlt).2
            rw [HOP.out] at cd4
            have x0 := HX2.cell 0 _ rfl
            have xf := HX2.frozen 0
            have HO4 := Lib.hid (HO3.out wd hbd)
            have hs2 := HS.out
            clear hwd c0 c1 cd3 hbd HX2 HX
            go_wp2_with fail
            generalize World.setCell wd _ _ = WX at *
            clear x0 xf cd4 hs2 sz
            go_upto_region 21 with fail
            refine wp_region_extall (by kernel_rfl) (by kernel_rfl) ?_
            have G2 := Lib.hid (HO4.out.keep (Bl.refl _).drew)
            clear HO4
            generalize World.drew WX = WD at *
            have x0 : ∀ q : Ext WD, q.at.cell? ⟨gr + 1, 0, none⟩ = some (.string (strL (m ++ d.data.toList))) := fun q => AC.cell (G2.out.q.keep q.bl) 0 _ rfl
            have x1 : ∀ q : Ext WD, q.at.cell? ⟨gr + 1, 1, none⟩ = some (.bool false) := fun q => AC.cell (G2.out.q.keep q.bl) 1 _ rfl
            have HBD := Lib.hid (fun q : Ext WD => badR_any gr (m ++ d.data.toList) false q.at (G2.out.r.keep q.bl))
            have HLF := Lib.hid (fun q : Ext WD => left_any gr (m ++ d.data.toList) false q.at (G2.out.r.keep q.bl) (by have := HM2.out; omega))
            have zM := strL_size (m ++ d.data.toList)
            have qn : ((((m ++ d.data.toList)).length : Int) != (((m ++ d.data.toList)).length : Int)) = false := by simp
            repeat (refine wpE_step (fun K hK => ?_); go_simp; first | (refine hK _ ?_; clear hK K) | (apply Exists.intro; refine ⟨fun q => ?_, hK _ ?_⟩; (first | with_reducible exact ((HBD.out q).mono fun e w h => ⟨h.1, by rw [h.2]; exact Bl.refl _⟩) | with_reducible exact ((HLF.out q).mono fun e w h => ⟨h.1, by rw [h.2]; exact Bl.refl _⟩)); clear hK K))
            refine wpE_nil ?_
            intro q
            have G3 := Lib.hid (G2.out.keep q.bl)
            clear x0 x1 HBD HLF zM qn G2
            go_wp2_with fail
            go_roundw
            case rel => exact ⟨k + 1, (m ++ d.data.toList), false, by omega, by go_num, HM2.out, G3.out, Lib.hid (fun h => by cases h)⟩
            case measure => simp [intOf]; omega
          · obtain rfl : m = [] := HE.out rfl
            have HM0 := Lib.hid (show ([] : List UInt8).length ≤ 3000 * (k + 1) by simp)
            have HF := Lib.hid (feed_bad gr d [] wr GH.out.r)
            have c1 := AC.cell GH.out.q 1 _ rfl
            go_wp2_with fail
            refine HF.out.mono ?_
            clear HF
            rintro e w3 ⟨rfl, rfl⟩
            go_wp2_with fail
            clear c1 ck cd
            go_upto_region 21 with fail
            refine wp_region_extall (by kernel_rfl) (by kernel_rfl) ?_
            have G2 := Lib.hid (GH.out.keep (Bl.refl _).drew)
            clear GH
            generalize World.drew wr = WD at *
            have x0 : ∀ q : Ext WD, q.at.cell? ⟨gr + 1, 0, none⟩ = some (.string (strL ([] : List UInt8))) := fun q => AC.cell (G2.out.q.keep q.bl) 0 _ rfl
            have x1 : ∀ q : Ext WD, q.at.cell? ⟨gr + 1, 1, none⟩ = some (.bool true) := fun q => AC.cell (G2.out.q.keep q.bl) 1 _ rfl
            have HBD := Lib.hid (fun q : Ext WD => badR_any gr ([] : List UInt8) true q.at (G2.out.r.keep q.bl))
            have HLF := Lib.hid (fun q : Ext WD => left_any gr ([] : List UInt8) true q.at (G2.out.r.keep q.bl) (by have := HM0.out; omega))
            have zM := strL_size ([] : List UInt8)
            have qn : (((([] : List UInt8)).length : Int) != ((([] : List UInt8)).length : Int)) = false := by simp
            repeat (refine wpE_step (fun K hK => ?_); go_simp; first | (refine hK _ ?_; clear hK K) | (apply Exists.intro; refine ⟨fun q => ?_, hK _ ?_⟩; (first | with_reducible exact ((HBD.out q).mono fun e w h => ⟨h.1, by rw [h.2]; exact Bl.refl _⟩) | with_reducible exact ((HLF.out q).mono fun e w h => ⟨h.1, by rw [h.2]; exact Bl.refl _⟩)); clear hK K))
            refine wpE_nil ?_
            intro q
            have G3 := Lib.hid (G2.out.keep q.bl)
            clear x0 x1 HBD HLF zM qn G2
            go_wp2_with fail
            go_roundw
            case rel => exact ⟨k + 1, ([] : List UInt8), true, by omega, by go_num, HM0.out, G3.out, Lib.hid (fun _ => rfl)⟩
            case measure => simp [intOf]; omega
        · have qk : ((kd : Int) == 1) = false := by rw [beq_eq_false_iff_ne]; exact hkd
          have qk2 := hkd
          cases b
          · rcases headF_cases m with h0 | h0 | h0
            · have HM0 := Lib.hid (show m.length ≤ 3000 * (k + 1) by omega)
              have HN := Lib.hid (next0 gr m wr GH.out.r (by omega) h0)
              have HQ := Lib.hid (rnext0 (gr + 1) m wr GH.out.q (by omega) h0)
              clear h0
              go_wp2_with fail
              refine HN.out.mono ?_
              rintro e w3 ⟨rfl, rfl⟩
              go_wp2_with fail
              refine HQ.out.mono ?_
              rintro e w3 ⟨rfl, rfl⟩
              clear HN HQ ck cd
              go_wp2_with fail
              go_upto_region 21 with fail
              refine wp_region_extall (by kernel_rfl) (by kernel_rfl) ?_
              have G2 := Lib.hid (GH.out.keep (Bl.refl _).drew)
              clear GH
              generalize World.drew wr = WD at *
              have x0 : ∀ q : Ext WD, q.at.cell? ⟨gr + 1, 0, none⟩ = some (.string (strL m)) := fun q => AC.cell (G2.out.q.keep q.bl) 0 _ rfl
              have x1 : ∀ q : Ext WD, q.at.cell? ⟨gr + 1, 1, none⟩ = some (.bool false) := fun q => AC.cell (G2.out.q.keep q.bl) 1 _ rfl
              have HBD := Lib.hid (fun q : Ext WD => badR_any gr m false q.at (G2.out.r.keep q.bl))
              have HLF := Lib.hid (fun q : Ext WD => left_any gr m false q.at (G2.out.r.keep q.bl) (by have := HM0.out; omega))
              have zM := strL_size m
              have qn : (((m).length : Int) != ((m).length : Int)) = false := by simp
              repeat (refine wpE_step (fun K hK => ?_); go_simp; first | (refine hK _ ?_; clear hK K) | (apply Exists.intro; refine ⟨fun q => ?_, hK _ ?_⟩; (first | with_reducible exact ((HBD.out q).mono fun e w h => ⟨h.1, by rw [h.2]; exact Bl.refl _⟩) | with_reducible exact ((HLF.out q).mono fun e w h => ⟨h.1, by rw [h.2]; exact Bl.refl _⟩)); clear hK K))
              refine wpE_nil ?_
              intro q
              have G3 := Lib.hid (G2.out.keep q.bl)
              clear x0 x1 HBD HLF zM qn G2
              go_wp2_with fail
              go_roundw
              case rel => exact ⟨k + 1, m, false, by omega, by go_num, HM0.out, G3.out, Lib.hid (fun h => by cases h)⟩
              case measure => simp [intOf]; omega
            · have HM0 : Hid ((restF m).length ≤ 3000 * (k + 1)) := Lib.hid (by unfold restF; rw [List.length_drop]; omega)
              have HN := Lib.hid (next1 gr m wr GH.out.r (by omega) h0)
              have H0 := Lib.hid h0
              clear h0
              go_wp2_with fail
              refine HN.out.mono ?_
              rintro e w3 ⟨rfl, hb3⟩
              have HQ := Lib.hid (rnext1 (gr + 1) m w3 ((show RB2 _ (gr + 1) m false from (AC.other GH.out.q (Ne.symm GH.out.ne))).keep hb3) (by omega) H0.out)
              have HB3 := Lib.hid hb3
              clear hb3 HN ck cd
              generalize hsb : strL (bodyF m) = sb at *
              clear hsb
              go_wp2_with fail
              refine HQ.out.mono ?_
              rintro e w4 ⟨rfl, w5, hb5, rfl⟩
              have HG5 := Lib.hid (GH.out.both (restF m) HB3.out hb5)
              clear HQ GH HB3 hb5
              have qs : (sb.toList == sb.toList) = true := by simp
              generalize restF m = mr at *
              generalize World.setCell w5 _ _ = WY at *
              go_wp2_with fail
              go_upto_region 21 with fail
              refine wp_region_extall (by kernel_rfl) (by kernel_rfl) ?_
              have G2 := Lib.hid (HG5.out.keep (Bl.refl _).drew)
              clear HG5
              generalize World.drew WY = WD at *
              have x0 : ∀ q : Ext WD, q.at.cell? ⟨gr + 1, 0, none⟩ = some (.string (strL mr)) := fun q => AC.cell (G2.out.q.keep q.bl) 0 _ rfl
              have x1 : ∀ q : Ext WD, q.at.cell? ⟨gr + 1, 1, none⟩ = some (.bool false) := fun q => AC.cell (G2.out.q.keep q.bl) 1 _ rfl
              have HBD := Lib.hid (fun q : Ext WD => badR_any gr mr false q.at (G2.out.r.keep q.bl))
              have HLF := Lib.hid (fun q : Ext WD => left_any gr mr false q.at (G2.out.r.keep q.bl) (by have := HM0.out; omega))
              have zM := strL_size mr
              have qn : (((mr).length : Int) != ((mr).length : Int)) = false := by simp
              repeat (refine wpE_step (fun K hK => ?_); go_simp; first | (refine hK _ ?_; clear hK K) | (apply Exists.intro; refine ⟨fun q => ?_, hK _ ?_⟩; (first | with_reducible exact ((HBD.out q).mono fun e w h => ⟨h.1, by rw [h.2]; exact Bl.refl _⟩) | with_reducible exact ((HLF.out q).mono fun e w h => ⟨h.1, by rw [h.2]; exact Bl.refl _⟩)); clear hK K))
              refine wpE_nil ?_
              intro q
              have G3 := Lib.hid (G2.out.keep q.bl)
              clear x0 x1 HBD HLF zM qn G2
              go_wp2_with fail
              go_roundw
              case rel => exact ⟨k + 1, mr, false, by omega, by go_num, HM0.out, G3.out, Lib.hid (fun h => by cases h)⟩
              case measure => simp [intOf]; omega
            · have HM0 := Lib.hid (show ([] : List UInt8).length ≤ 3000 * (k + 1) by simp)
              have HN := Lib.hid (next2 gr m wr GH.out.r (by omega) h0)
              have H0 := Lib.hid h0
              clear h0
              go_wp2_with fail
              refine HN.out.mono ?_
              rintro e w3 ⟨rfl, hw3⟩
              have HQ := Lib.hid (rnext2 (gr + 1) m w3 (by rw [hw3]; exact AC.other (AC.other GH.out.q (Ne.symm GH.out.ne)) (Ne.symm GH.out.ne)) (by omega) H0.out)
              have HW3 := Lib.hid hw3
              clear hw3 HN ck cd
              go_wp2_with fail
              refine HQ.out.mono ?_
              rintro e w4 ⟨rfl, w5, hb5, rfl⟩
              have HG5 := Lib.hid (GH.out.bad HW3.out.symm hb5)
              clear HQ GH HW3 hb5
              generalize World.setCell (World.setCell w5 _ _) _ _ = WY at *
              go_wp2_with fail
              go_upto_region 21 with fail
              refine wp_region_extall (by kernel_rfl) (by kernel_rfl) ?_
              have G2 := Lib.hid (HG5.out.keep (Bl.refl _).drew)
              clear HG5
              generalize World.drew WY = WD at *
              have x0 : ∀ q : Ext WD, q.at.cell? ⟨gr + 1, 0, none⟩ = some (.string (strL ([] : List UInt8))) := fun q => AC.cell (G2.out.q.keep q.bl) 0 _ rfl
              have x1 : ∀ q : Ext WD, q.at.cell? ⟨gr + 1, 1, none⟩ = some (.bool true) := fun q => AC.cell (G2.out.q.keep q.bl) 1 _ rfl
              have HBD := Lib.hid (fun q : Ext WD => badR_any gr ([] : List UInt8) true q.at (G2.out.r.keep q.bl))
              have HLF := Lib.hid (fun q : Ext WD => left_any gr ([] : List UInt8) true q.at (G2.out.r.keep q.bl) (by have := HM0.out; omega))
              have zM := strL_size ([] : List UInt8)
              have qn : (((([] : List UInt8)).length : Int) != ((([] : List UInt8)).length : Int)) = false := by simp
              repeat (refine wpE_step (fun K hK => ?_); go_simp; first | (refine hK _ ?_; clear hK K) | (apply Exists.intro; refine ⟨fun q => ?_, hK _ ?_⟩; (first | with_reducible exact ((HBD.out q).mono fun e w h => ⟨h.1, by rw [h.2]; exact Bl.refl _⟩) | with_reducible exact ((HLF.out q).mono fun e w h => ⟨h.1, by rw [h.2]; exact Bl.refl _⟩)); clear hK K))
              refine wpE_nil ?_
              intro q
              have G3 := Lib.hid (G2.out.keep q.bl)
              clear x0 x1 HBD HLF zM qn G2
              go_wp2_with fail
              go_roundw
              case rel => exact ⟨k + 1, ([] : List UInt8), true, by omega, by go_num, HM0.out, G3.out, Lib.hid (fun _ => rfl)⟩
              case measure => simp [intOf]; omega
          · obtain rfl : m = [] := HE.out rfl
            have HM0 := Lib.hid (show ([] : List UInt8).length ≤ 3000 * (k + 1) by simp)
            have HN := Lib.hid (next_bad gr [] wr GH.out.r)
            have HQ := Lib.hid (rnext_bad (gr + 1) [] wr GH.out.q)
            go_wp2_with fail
            refine HN.out.mono ?_
            rintro e w3 ⟨rfl, rfl⟩
            go_wp2_with fail
            refine HQ.out.mono ?_
            rintro e w3 ⟨rfl, rfl⟩
            clear HN HQ ck cd
            go_wp2_with fail
            go_upto_region 21 with fail
            refine wp_region_extall (by kernel_rfl) (by kernel_rfl) ?_
            have G2 := Lib.hid (GH.out.keep (Bl.refl _).drew)
            clear GH
            generalize World.drew wr = WD at *
            have x0 : ∀ q : Ext WD, q.at.cell? ⟨gr + 1, 0, none⟩ = some (.string (strL ([] : List UInt8))) := fun q => AC.cell (G2.out.q.keep q.bl) 0 _ rfl
            have x1 : ∀ q : Ext WD, q.at.cell? ⟨gr + 1, 1, none⟩ = some (.bool true) := fun q => AC.cell (G2.out.q.keep q.bl) 1 _ rfl
            have HBD := Lib.hid (fun q : Ext WD => badR_any gr ([] : List UInt8) true q.at (G2.out.r.keep q.bl))
            have HLF := Lib.hid (fun q : Ext WD => left_any gr ([] : List UInt8) true q.at (G2.out.r.keep q.bl) (by have := HM0.out; omega))
            have zM := strL_size ([] : List UInt8)
            have qn : (((([] : List UInt8)).length : Int) != ((([] : List UInt8)).length : Int)) = false := by simp
            repeat (refine wpE_step (fun K hK => ?_); go_simp; first | (refine hK _ ?_; clear hK K) | (apply Exists.intro; refine ⟨fun q => ?_, hK _ ?_⟩; (first | with_reducible exact ((HBD.out q).mono fun e w h => ⟨h.1, by rw [h.2]; exact Bl.refl _⟩) | with_reducible exact ((HLF.out q).mono fun e w h => ⟨h.1, by rw [h.2]; exact Bl.refl _⟩)); clear hK K))
            refine wpE_nil ?_
            intro q
            have G3 := Lib.hid (G2.out.keep q.bl)
            clear x0 x1 HBD HLF zM qn G2
            go_wp2_with fail
            go_roundw
            case rel => exact ⟨k + 1, ([] : List UInt8), true, by omega, by go_num, HM0.out, G3.out, Lib.hid (fun _ => rfl)⟩
            case measure => simp [intOf]; omega
    · have e : k = n := by omega
      subst e
      have HB := Lib.hid GH.out.bl
      clear GH
      go_wp2_with fail
      refine (feed_nil s _).mono ?_
      rintro e w3 ⟨rfl, rfl⟩
      go_wp2_with fail
      refine (next_nil _).mono ?_
      rintro e w3 ⟨rfl, rfl⟩
      go_wp2_with fail
      refine (alive25_any _).mono ?_
      rintro e w3 ⟨rfl, hb3⟩
      go_wp2_with fail
      refine (bad_nil _).mono ?_
      rintro e w4 ⟨rfl, rfl⟩
      go_wp2_with fail
      refine (left_nil _).mono ?_
      rintro e w4 ⟨rfl, rfl⟩
      go_wp2_with fail
      go_ret
      exact ⟨rfl, HB.out.trans hb3⟩
theorem protoReads_walk (a : Option Addr) (n ca : Nat) (ops : List (Int × ByteArray)) (s : ByteArray) (w : World) (ho : PO w a n ops) (hs : s.size ≤ 140737488351232) :
    Calls Try.prog 4 #[.slice a n ca, .string s] w fun e w' => e = .returned (.bool true) ∧ Bl w w' := by
  by_cases h : 200 < n ∨ 70000 < s.size
  · exact protoReads_early a n ca ops s w ho hs h
  · exact protoReads_main a n ca ops s.data.toList w ho (by omega) (by have h2 : s.data.toList.length = s.size := (by simp); omega)
end Go.Proofs.Ytechiehbigmjbaa
