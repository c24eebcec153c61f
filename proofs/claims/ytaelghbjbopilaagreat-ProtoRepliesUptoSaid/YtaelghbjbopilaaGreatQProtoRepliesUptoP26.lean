import Derived.Test.YtaelghbjbopilaaGreatQProtoRepliesUptoP6
import Derived.Test.YtaelghbjbopilaaGreatQProtoRepliesUptoP25

/- what is the same, part by part. By an AI agent. -/
section
set_option linter.unusedVariables false
namespace Go.Proofs.YtaelghbjbopilaaGreat
open Go.RowKit

theorem toList_inj {s t : ByteArray} (h : s.toList = t.toList) : s = t := by
  rw [ByteArray.toList_eq, ByteArray.toList_eq] at h
  exact ByteArray.ext (Array.toList_inj.1 h)
end Go.Proofs.YtaelghbjbopilaaGreat
end

/- bedrockref5.SamePairs. By an AI agent. -/
section
set_option linter.unusedVariables false
set_option linter.unusedSimpArgs false
namespace Go.Proofs.YtaelghbjbopilaaGreat
open Go.RowKit
attribute [local go_sem] eOp eOper eUpon

def samePs (a b : List (ByteArray × ValL)) : Bool := decide (a.length = b.length) && (List.range a.length).all fun i => decide ((nthQ a i).1 = (nthQ b i).1) && sameV (nthQ a i).2 (nthQ b i).2
theorem samePs_iff {a b : List (ByteArray × ValL)} : samePs a b = true ↔ a.length = b.length ∧ ∀ i, i < a.length → (nthQ a i).1 = (nthQ b i).1 ∧ sameV (nthQ a i).2 (nthQ b i).2 = true := by
  unfold samePs
  rw [Bool.and_eq_true, decide_eq_true_eq, List.all_eq_true]
  constructor
  · rintro ⟨h1, h2⟩
    refine ⟨h1, fun i hi => ?_⟩
    have := h2 i (List.mem_range.2 hi)
    rw [Bool.and_eq_true, decide_eq_true_eq] at this
    exact this
  · rintro ⟨h1, h2⟩
    refine ⟨h1, fun i hi => ?_⟩
    rw [Bool.and_eq_true, decide_eq_true_eq]
    exact h2 i (List.mem_range.1 hi)
theorem refSameVP_any (a d : ValL) (w : World) (oa : a.Ok) (ob : d.Ok) :
    Calls Tryz.prog 36 #[.agg #[.bool a.there, .float .f64 a.x, .int .i64 a.n, .string a.s], .agg #[.bool d.there, .float .f64 d.x, .int .i64 d.n, .string d.s]] w fun e w' => e = .returned (.bool (sameV a d)) ∧ Bl w w' := refSameV_any a d w oa ob
theorem beq_keyP (a b : ByteArray) : (a.toList == b.toList) = decide (a = b) := by
  by_cases h : a = b
  · subst h; simp
  · rw [decide_eq_false h, beq_eq_false_iff_ne]
    exact fun e => h (toList_inj e)
set_option maxHeartbeats 6400000 in
set_option maxRecDepth 100000 in
theorem rsamePs_any (a : Option Addr) (n ca : Nat) (xs : List (ByteArray × ValL)) (b : Option Addr) (m cb : Nat) (ys : List (ByteArray × ValL)) (w : World) (hx : PP w a n xs) (hy : PP w b m ys) :
    Calls Tryz.prog 37 #[.slice a n ca, .slice b m cb] w fun e w' => e = .returned (.bool (samePs xs ys)) ∧ Bl w w' := by
  have hn := hx.cap
  have hm := hy.cap
  have HX := Lib.hid hx
  have HY := Lib.hid hy
  have HL := Lib.hid hx.len
  have HM := Lib.hid hy.len
  clear hx hy
  by_cases hnm : n = m
  case neg =>
    have q : ((n : Int) != (m : Int)) = true := by rw [bne_iff_ne]; omega
    have HF : Hid (samePs xs ys = false) := Lib.hid (by
      cases h : samePs xs ys
      · rfl
      · have := (samePs_iff.1 h).1; have := HL.out; have := HM.out; omega)
    clear hnm
    go_enter Tryz.func37, Tryz.ntmps37
    go_wp2_with fail
    go_ret
    exact ⟨ret_bool HF.out.symm, Bl.refl _⟩
  subst hnm
  have q : ((n : Int) != (n : Int)) = false := by simp
  go_enter Tryz.func37, Tryz.ntmps37
  go_wp2_with fail
  go_loopw [5] (fun i wr => ∃ k : Nat, k ≤ n ∧ i = .int .i64 k ∧ Bl w wr ∧ ∀ j, j < k → (nthQ xs j).1 = (nthQ ys j).1 ∧ sameV (nthQ xs j).2 (nthQ ys j).2 = true) (fun i _ => n - (intOf i).toNat)
  case atStart => exact ⟨0, Nat.zero_le _, rfl, Bl.refl _, fun j hj => absurd hj (Nat.not_lt_zero _)⟩
  case round =>
    obtain ⟨k, hk, rfl, hbl, hok⟩ := hrel
    have HBL := Lib.hid hbl
    have HOK := Lib.hid hok
    clear hbl hok
    by_cases hlt : k < n
    · have hkx : k < xs.length := by rw [HL.out]; exact hlt
      have hky : k < ys.length := by rw [HM.out]; exact hlt
      obtain ⟨ba, oa, rfl, _⟩ := HX.out.cells k hlt
      obtain ⟨bb, ob, rfl, _⟩ := HY.out.cells k hlt
      have HCX := Lib.hid (HX.out.get HBL.out.drew hlt)
      have HCY := Lib.hid (HY.out.get HBL.out.drew hlt)
      have HOX : Hid (PaOk (nthQ xs k)) := Lib.hid (HX.out.ok _ (by rw [nthQ_eq hkx]; exact List.getElem_mem hkx))
      have HOY : Hid (PaOk (nthQ ys k)) := Lib.hid (HY.out.ok _ (by rw [nthQ_eq hky]; exact List.getElem_mem hky))
      have HNO : Hid (¬ ((nthQ xs k).1 = (nthQ ys k).1 ∧ sameV (nthQ xs k).2 (nthQ ys k).2 = true) → samePs xs ys = false) := Lib.hid (fun h => by
        cases h2 : samePs xs ys
        · rfl
        · exact absurd ((samePs_iff.1 h2).2 k hkx) h)
      have HYES : Hid ((nthQ xs k).1 = (nthQ ys k).1 ∧ sameV (nthQ xs k).2 (nthQ ys k).2 = true → ∀ j, j < k + 1 → (nthQ xs j).1 = (nthQ ys j).1 ∧ sameV (nthQ xs j).2 (nthQ ys j).2 = true) := Lib.hid (fun h j hj => by
        rcases Nat.lt_succ_iff_lt_or_eq.1 hj with h1 | rfl
        · exact HOK.out j h1
        · exact h)
      generalize nthQ xs k = p at *
      generalize nthQ ys k = r at *
      obtain ⟨kx, ax⟩ := p
      obtain ⟨ky, ay⟩ := r
      dsimp only at HNO HYES
      have HA := Lib.hid (fun (q : Ext wr.drew) => refSameVP_any ax ay q.at HOX.out.2 HOY.out.2)
      have x0 : ∀ q : Ext wr.drew, _ := fun q => (HCX.out.keep q.bl).c0
      have x1 : ∀ q : Ext wr.drew, _ := fun q => (HCX.out.keep q.bl).c1
      have x2 : ∀ q : Ext wr.drew, _ := fun q => (HCX.out.keep q.bl).c2
      have x3 : ∀ q : Ext wr.drew, _ := fun q => (HCX.out.keep q.bl).c3
      have x4 : ∀ q : Ext wr.drew, _ := fun q => (HCX.out.keep q.bl).c4
      have y0 : ∀ q : Ext wr.drew, _ := fun q => (HCY.out.keep q.bl).c0
      have y1 : ∀ q : Ext wr.drew, _ := fun q => (HCY.out.keep q.bl).c1
      have y2 : ∀ q : Ext wr.drew, _ := fun q => (HCY.out.keep q.bl).c2
      have y3 : ∀ q : Ext wr.drew, _ := fun q => (HCY.out.keep q.bl).c3
      have y4 : ∀ q : Ext wr.drew, _ := fun q => (HCY.out.keep q.bl).c4
      dsimp only at x0 x1 x2 x3 x4 y0 y1 y2 y3 y4
      clear hkx hky
      by_cases hkey : kx = ky
      case neg =>
        have qk : (kx.toList == ky.toList) = false := by rw [beq_keyP]; exact decide_eq_false hkey
        have HF := Lib.hid (HNO.out (fun h => hkey h.1))
        clear hkey
        go_upto_region 6 with fail
        refine wp_region_allS (by kernel_rfl) (by kernel_rfl) ?_
        repeat (refine wpS_step (fun K hK => ?_); go_simp; first | (refine hK _ ?_; clear hK K) | (apply Exists.intro; refine ⟨fun q => ?_, hK _ ?_⟩; (with_reducible exact HA.out q); clear hK K))
        refine wpS_nil ?_
        intro q1
        have HBN := Lib.hid (HBL.out.trans (((Bl.refl wr).drew).trans q1.bl))
        clear x0 x1 x2 x3 x4 y0 y1 y2 y3 y4
        generalize ExtC.at q1 = Y at *
        go_wp2_with fail
        go_ret
        exact ⟨ret_bool HF.out.symm, HBN.out⟩
      have qk : (kx.toList == ky.toList) = true := by rw [beq_keyP]; exact decide_eq_true hkey
      cases hs : sameV ax ay
      · have HF := Lib.hid (HNO.out (fun h => by rw [hs] at h; cases h.2))
        have HAF := Lib.hid (fun q => by have := HA.out q; rw [hs] at this; exact this)
        clear hkey hs
        go_upto_region 6 with fail
        refine wp_region_allS (by kernel_rfl) (by kernel_rfl) ?_
        repeat (refine wpS_step (fun K hK => ?_); go_simp; first | (refine hK _ ?_; clear hK K) | (apply Exists.intro; refine ⟨fun q => ?_, hK _ ?_⟩; (with_reducible exact HAF.out q); clear hK K))
        refine wpS_nil ?_
        intro q1
        have HBN := Lib.hid (HBL.out.trans (((Bl.refl wr).drew).trans q1.bl))
        clear x0 x1 x2 x3 x4 y0 y1 y2 y3 y4
        generalize ExtC.at q1 = Y at *
        go_wp2_with fail
        go_ret
        exact ⟨ret_bool HF.out.symm, HBN.out⟩
      · have HF := Lib.hid (HYES.out ⟨hkey, hs⟩)
        have HAF := Lib.hid (fun q => by have := HA.out q; rw [hs] at this; exact this)
        clear hkey hs
        go_upto_region 6 with fail
        refine wp_region_allS (by kernel_rfl) (by kernel_rfl) ?_
        repeat (refine wpS_step (fun K hK => ?_); go_simp; first | (refine hK _ ?_; clear hK K) | (apply Exists.intro; refine ⟨fun q => ?_, hK _ ?_⟩; (with_reducible exact HAF.out q); clear hK K))
        refine wpS_nil ?_
        intro q1
        have HBN := Lib.hid (HBL.out.trans (((Bl.refl wr).drew).trans q1.bl))
        clear x0 x1 x2 x3 x4 y0 y1 y2 y3 y4
        generalize ExtC.at q1 = Y at *
        go_wp2_with fail
        go_roundw
        case rel => exact ⟨k + 1, by omega, by go_num, HBN.out, HF.out⟩
        case measure => simp [intOf]; omega
    · obtain rfl : k = n := by omega
      have HF : Hid (samePs xs ys = true) := Lib.hid (samePs_iff.2 ⟨by rw [HL.out, HM.out], fun i hi => HOK.out i (by rw [HL.out] at hi; exact hi)⟩)
      go_wp2_with fail
      go_ret
      exact ⟨ret_bool HF.out.symm, HBL.out⟩
end Go.Proofs.YtaelghbjbopilaaGreat
end
