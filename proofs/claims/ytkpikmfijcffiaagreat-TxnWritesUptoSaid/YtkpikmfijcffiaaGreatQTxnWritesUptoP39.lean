import Derived.Test.YtkpikmfijcffiaaGreatQTxnWritesUptoP12
import Derived.Test.YtkpikmfijcffiaaGreatQTxnWritesUptoP16
import Derived.Deep.DeepCutAuto
import Derived.Test.YtkpikmfijcffiaaGreatQTxnWritesUptoP19
import Derived.Test.YtkpikmfijcffiaaGreatQTxnWritesUptoP11
import Derived.Test.YtkpikmfijcffiaaGreatQRefCmp

/- bedrocklaw21.Light: are writes few and short enough? By an AI agent. -/
section
set_option linter.unusedVariables false
set_option linter.unusedSimpArgs false
namespace Go.Proofs.YtkpikmfijcffiaaGreat
open Go.RowKit
attribute [local go_sem] eOp eOper eUpon

def weightW (p : ByteArray × ActL) : Nat := 20 + p.1.size + p.2.s.size
def sumW (ps : List (ByteArray × ActL)) (k : Nat) : Nat := ((ps.take k).map weightW).sum
theorem sumW_succ {ps : List (ByteArray × ActL)} {k : Nat} (hk : k < ps.length) : sumW ps (k + 1) = sumW ps k + weightW (nthW ps k) := by
  unfold sumW
  rw [List.take_succ_eq_append_getElem hk, List.map_append, List.sum_append, nthW_eq hk]
  simp
theorem sumW_le (ps : List (ByteArray × ActL)) (k : Nat) : sumW ps k ≤ sumW ps ps.length := by
  unfold sumW
  rw [List.take_length]
  conv => rhs; rw [← List.take_append_drop k ps]
  rw [List.map_append, List.sum_append]; omega
theorem sumW_ge (ps : List (ByteArray × ActL)) : 20 * ps.length ≤ sumW ps ps.length := by
  unfold sumW
  rw [List.take_length]
  induction ps with
  | nil => simp
  | cons p ps ih =>
    rw [List.map_cons, List.sum_cons, List.length_cons]
    have : 20 ≤ weightW p := by unfold weightW; omega
    omega
def lightB (ps : List (ByteArray × ActL)) : Bool := decide (sumW ps ps.length < 20000)
theorem lightB_len {ps : List (ByteArray × ActL)} (h : lightB ps = true) : ps.length < 1000 := by
  have := sumW_ge ps
  simp only [lightB, decide_eq_true_eq] at h
  omega
set_option maxHeartbeats 3200000 in
set_option maxRecDepth 100000 in
theorem light21_any (pd : Option Addr) (pn pc : Nat) (ps : List (ByteArray × ActL)) (w : World) (hp : WW w pd pn ps) :
    Calls Tryz.prog 4 #[.slice pd pn pc] w fun e w' => e = .returned (.bool (lightB ps)) ∧ Bl w w' := by
  have hcap := hp.cap
  have HP := Lib.hid hp
  have HL := Lib.hid hp.len
  clear hp
  go_enter Tryz.func4, Tryz.ntmps4
  go_wp2_with fail
  go_loopw [3, 4] (fun sv i wr => ∃ (k s : Nat), k ≤ pn ∧ i = .int .i64 k ∧ sv = .int .i64 s ∧ s = sumW ps k ∧ Bl w wr) (fun _ i _ => pn - (intOf i).toNat)
  case atStart => exact ⟨0, 0, Nat.zero_le _, rfl, rfl, rfl, Bl.refl _⟩
  case round =>
    obtain ⟨k, s, hk, rfl, rfl, hs, hbl⟩ := hrel
    have HS := Lib.hid hs
    have HBL := Lib.hid hbl
    clear hs hbl
    by_cases hlt : k < pn
    · by_cases hs6 : s < 20000
      · have hkl : k < ps.length := by rw [HL.out]; exact hlt
        obtain ⟨ba, oa, rfl, _⟩ := HP.out.cells k hlt
        have HOK := Lib.hid (HP.out.ok _ (nthW_mem hkl))
        have HSU := Lib.hid (sumW_succ hkl)
        have HPC := Lib.hid (HP.out.get HBL.out hlt)
        clear hkl
        generalize nthW ps k = p at *
        obtain ⟨key, ⟨pk, px, pm, pz⟩⟩ := p
        have hks : key.size ≤ 140737488351232 := HOK.out.1
        have hzs : pz.size ≤ 140737488351232 := HOK.out.2.s
        have q1 : decide ((s : Int) < 20000) = true := decide_eq_true (by omega)
        have q2 : decide (s < 20000) = true := decide_eq_true hs6
        have HS6 := Lib.hid hs6
        have HKS := Lib.hid (And.intro hks hzs)
        clear hs6 hks hzs
        go_upto_region 5 with fail
        have hs6 := HS6.out
        obtain ⟨hks, hzs⟩ := HKS.out
        refine wp_region_extall (by kernel_rfl) (by kernel_rfl) ?_
        have HPZ := Lib.hid (HPC.out.keep ((Bl.refl wr).drew))
        have HBZ := Lib.hid (HBL.out.drew)
        generalize wr.drew = Z at *
        have e0 : ∀ q : Ext Z, _ := fun q => (HPZ.out.keep q.bl).c0
        have e4 : ∀ q : Ext Z, _ := fun q => (HPZ.out.keep q.bl).c4
        dsimp only at e0 e4
        have w1 : IntKind.i64.wrap ((s : Int) + 20) = ((s + 20 : Nat) : Int) := by rw [IntKind.wrap_i64]; omega
        have w2 : IntKind.i64.wrap (((s + 20 : Nat) : Int) + (key.size : Int)) = ((s + 20 + key.size : Nat) : Int) := by rw [IntKind.wrap_i64]; omega
        have w3 : IntKind.i64.wrap (((s + 20 + key.size : Nat) : Int) + (pz.size : Int)) = ((s + 20 + key.size + pz.size : Nat) : Int) := by rw [IntKind.wrap_i64]; omega
        have HT : Hid (s + 20 + key.size + pz.size = sumW ps (k + 1)) := Lib.hid (by rw [HSU.out, ← HS.out]; unfold weightW; dsimp only; omega)
        generalize s + 20 + key.size + pz.size = s3 at *
        generalize s + 20 + key.size = s2 at *
        generalize s + 20 = s1 at *
        repeat (refine wpE_step (fun K hK => ?_); go_simp; first | (refine hK _ ?_; clear hK K) | (apply Exists.intro; refine ⟨fun m => ?_, hK _ ?_⟩; (fail); clear hK K))
        refine wpE_nil ?_
        intro q1
        have HBN := Lib.hid (HBZ.out.trans q1.bl)
        clear e0 e4 w1 w2 w3
        generalize ExtC.at q1 = Y at *
        go_wp2_with fail
        go_roundw
        case rel => exact ⟨k + 1, s3, by omega, by go_num, rfl, HT.out, HBN.out⟩
        case measure => simp [intOf]; omega
      · have q1 : decide ((s : Int) < 20000) = false := decide_eq_false (by omega)
        have q2 : decide (s < 20000) = false := decide_eq_false hs6
        have HF : Hid (lightB ps = false) := Lib.hid (by
          have := sumW_le ps k
          have := HS.out
          simp only [lightB, decide_eq_false_iff_not]; omega)
        go_wp2_with fail
        go_ret
        exact ⟨ret_bool HF.out.symm, HBL.out⟩
    · have hkp : k = pn := by omega
      subst hkp
      by_cases hs6 : s < 20000
      · have q1 : decide ((s : Int) < 20000) = true := decide_eq_true (by omega)
        have HF : Hid (lightB ps = true) := Lib.hid (by have := HS.out; simp only [lightB, decide_eq_true_eq, HL.out]; omega)
        go_wp2_with fail
        go_ret
        exact ⟨ret_bool HF.out.symm, HBL.out⟩
      · have q1 : decide ((s : Int) < 20000) = false := decide_eq_false (by omega)
        have q2 : decide (s < 20000) = false := decide_eq_false hs6
        have HF : Hid (lightB ps = false) := Lib.hid (by have := HS.out; simp only [lightB, decide_eq_false_iff_not, HL.out]; omega)
        go_wp2_with fail
        go_ret
        exact ⟨ret_bool HF.out.symm, HBL.out⟩
end Go.Proofs.YtkpikmfijcffiaaGreat
end

/- bedrockbook.LentWrites, StaysWrites. By an AI agent. -/
section
set_option linter.unusedVariables false
namespace Go.Proofs.YtkpikmfijcffiaaGreat
open Go.RowKit

def markT : ByteArray := ⟨#[109, 97, 114, 107]⟩
theorem mark_eq : (markT.toList == [109, 97, 114, 107]) = true := by rw [ByteArray.toList_eq]; rfl
/-- a slice of n writes, behind which a mark stands in the same block -/
structure LWr (B : Nat) (W : World) (g n c : Nat) (ws : List (ByteArray × ActL)) : Prop where
  own : W.ownsRow B 58 5 (.slice (some ⟨g, 0, none⟩) (n + 1) c) (n + 1) (cellsW (ws ++ [(markT, ⟨0, 0, 0, ⟨#[]⟩⟩)]))
  len : ws.length = n
  cap : n ≤ 100000
  ok : ∀ p ∈ ws, WrOk p
theorem LWr.keep {B : Nat} {W W' : World} {g n c : Nat} {ws : List (ByteArray × ActL)} (h : LWr B W g n c ws) (hb : Bl W W') : LWr B W' g n c ws := ⟨ownsRow_bl h.own hb, h.len, h.cap, h.ok⟩
theorem LWr.ww {B : Nat} {W : World} {g n c : Nat} {ws : List (ByteArray × ActL)} (h : LWr B W g n c ws) : WW W (some ⟨g, 0, none⟩) n ws := by
  have hm := WW.own h.own (by simp [h.len]) (by have := h.cap; omega) (fun p hp => by
    rcases List.mem_append.1 hp with q | q
    · exact h.ok p q
    · rw [List.mem_singleton] at q; subst q; exact ⟨by decide, ⟨by decide, by decide, by decide, by decide⟩⟩)
  refine ⟨h.len, by have := h.cap; omega, fun j0 hj0 => ?_, h.ok⟩
  obtain ⟨b, off, e, hc⟩ := hm.cells j0 (by omega)
  refine ⟨b, off, e, fun j hj => ?_⟩
  have := hc j (by omega)
  rw [nthW_eq (by simp [h.len]; omega), List.getElem_append_left (by rw [h.len]; exact hj), ← nthW_eq (by rw [h.len]; exact hj)] at this
  exact this
theorem LWr.mark {B : Nat} {W : World} {g n c : Nat} {ws : List (ByteArray × ActL)} (h : LWr B W g n c ws) : W.cell? ⟨g, n * 5, none⟩ = some (.string markT) ∧ n + 1 ≤ c := by
  refine ⟨?_, ?_⟩
  · rw [h.own.cellAt (n * 5) (by omega)]
    have := cellsW_get (ws ++ [(markT, ⟨0, 0, 0, ⟨#[]⟩⟩)]) n (by simp [h.len]) 0 (by omega)
    rw [Nat.add_zero, nthW_eq (by simp [h.len]), List.getElem_append_right (by rw [h.len]; exact Nat.le_refl _)] at this
    rw [this]
    simp [writeCs, h.len]
  · obtain ⟨_, ⟨e, _⟩ | ⟨g', cap, cur, e, hB, hg, hn, _⟩⟩ := h.own
    · cases e
    · simp only [Value.slice.injEq, Option.some.injEq, Addr.mk.injEq, and_true, true_and] at e
      omega
theorem lentWrites_any (a : Option Addr) (n c : Nat) (ws : List (ByteArray × ActL)) (w : World) (hx : WW w a n ws) (hn : n ≤ 100000) :
    Calls Tryz.prog 6 #[.slice a n c] w fun e w' => ∃ g c', e = .returned (.slice (some ⟨g, 0, none⟩) n c') ∧ LWr w.heap.size w' g n c' ws ∧ Bl w w' := by
  have hsf := store_fl
  have HL := Lib.hid hx.len
  have HO := Lib.hid hx.ok
  have HX := Lib.hid hx.sg5
  clear hx
  go_enter Tryz.func6, Tryz.ntmps6
  go_wp2_with (at_builtin; refine wpList_appG rfl _ _ _ rfl el_wr w.heap.size (.slice none 0 0) 0 [] rfl (World.ownsRow_nil _ _ _ _) (Nat.le_refl _) a n c _ rfl HX.out ?cM ?cN ?_)
  case cM => unfold maxLen; omega
  case cN => omega
  intro v w1 ho hg
  have hb : Bl w w1 := (Bl.refl w).ownRow (World.ownsRow_nil w w.heap.size 58 5) (Nat.le_refl _) hg
  have hoi : w1.ownsRow w.heap.size 58 5 v n (cellsW ws) := by simpa using ho
  have hsz := hb.size
  have HLT := Lib.hid (SG.lit (size := 5) (E := 58) (cs := [.string markT, .int .i64 0, .float .f64 0, .int .i64 0, .string ⟨#[]⟩]) (heap_alloc_new w1 _) rfl (by simp [Value.oneCell']))
  have hoa := ownsRow_bl hoi ((Bl.refl w1).alloc (.cells #[.string markT, .int .i64 0, .float .f64 0, .int .i64 0, .string ⟨#[]⟩] 58))
  have HBA := Lib.hid (hb.alloc (.cells #[.string markT, .int .i64 0, .float .f64 0, .int .i64 0, .string ⟨#[]⟩] 58))
  clear ho hg hb hoi
  go_wp2_with (at_builtin; refine wpList_appG rfl _ _ _ rfl el_wr w.heap.size _ _ _ rfl hoa ?cB2 (some ⟨w1.heap.size, 0, none⟩) 1 1 _ rfl HLT.out ?cM2 ?cN2 ?_)
  case cB2 => simp; omega
  case cM2 => unfold maxLen; omega
  case cN2 => omega
  intro v2 w2 ho2 hg2
  have hb2 : Bl w w2 := HBA.out.ownRow hoa (Nat.le_refl _) hg2
  obtain ⟨g, c', rfl⟩ : ∃ g c', v2 = .slice (some ⟨g, 0, none⟩) (n + 1) c' := by
    obtain ⟨_, ⟨_, e⟩ | ⟨g', cap, cur, e, _⟩⟩ := ho2
    · omega
    · exact ⟨g', cap, e⟩
  have hlv : LWr w.heap.size w2 g n c' ws := ⟨by rw [cellsW_snoc]; exact ho2, HL.out, hn, HO.out⟩
  have hmc := hlv.mark.2
  have HLV := Lib.hid hlv
  have HB2 := Lib.hid hb2
  clear ho2 hg2 hoa HLT HBA hlv hb2
  go_wp2_with fail
  go_ret
  exact ⟨_, _, rfl, HLV.out, HB2.out⟩
theorem staysWrites_any (B g n c : Nat) (a : Option Addr) (ca : Nat) (ws : List (ByteArray × ActL)) (w : World) (h : LWr B w g n c ws) (hx : WW w a n ws) :
    Calls Tryz.prog 17 #[.slice (some ⟨g, 0, none⟩) n c, .slice a n ca] w fun e w' => e = .returned (.bool true) ∧ Bl w w' := by
  have HS := Lib.hid (bookSameWs_anyY (some ⟨g, 0, none⟩) n c ws a ca w h.ww hx)
  have HM := Lib.hid h.mark
  have hc := h.mark.2
  have hcap := h.cap
  have hmm : (markT.toList == markT.toList) = true := by simp
  go_enter Tryz.func17, Tryz.ntmps17
  go_wp2_with fail
  refine HS.out.mono ?_
  rintro e w1 ⟨rfl, hb⟩
  have c0 := hb.cell HM.out.1
  go_wp2_with fail
  go_ret
  exact ⟨by show Ending.returned (.bool (markT.toList == [109, 97, 114, 107])) = _; rw [mark_eq], hb⟩
end Go.Proofs.YtkpikmfijcffiaaGreat
end

/- bedrockref1.Sum. By an AI agent. -/
section
set_option linter.unusedVariables false
set_option linter.unusedSimpArgs false
namespace Go.Proofs.YtkpikmfijcffiaaGreat
open Go.RowKit

theorem xor_halfI (y : Nat) (h : y < 4294967296) : bits .xor .i64 ((y : Int) / 2) 2197175160 = ((y / 2 ^^^ 2197175160 : Nat) : Int) := by
  rw [show ((y : Int) / 2) = ((y / 2 : Nat) : Int) by omega]
  exact xor_i64 (y / 2) 2197175160 (by omega) (by decide)
theorem xor_halfT (y : Nat) (h : y < 4294967296) : bits .xor .i64 ((y : Int).tdiv 2) 2197175160 = ((y / 2 ^^^ 2197175160 : Nat) : Int) := by
  rw [Int.tdiv_eq_ediv_of_nonneg (by omega)]
  exact xor_halfI y h
theorem half_i64 (y : Nat) : (y : Int).tdiv 2 = ((y / 2 : Nat) : Int) := by rw [Int.tdiv_eq_ediv_of_nonneg (by omega)]; omega
theorem odd_i64 (y : Nat) : (y : Int).tmod 2 = ((y % 2 : Nat) : Int) := by rw [Int.tmod_eq_emod_of_nonneg (by omega)]; omega
theorem sum_endI (x : Nat) (h : x < 4294967296) : bits .xor .i64 (x : Int) 4294967295 = ((x ^^^ 4294967295 : Nat) : Int) := xor_i64 x 4294967295 h (by decide)
set_option maxHeartbeats 800000 in
set_option maxRecDepth 100000 in
theorem refSum_any (s : ByteArray) (w : World) (hs : s.size ≤ 140737488351232) :
    Calls Tryz.prog 35 #[.string s] w fun e w' => e = .returned (.int .i64 (sumL s.data.toList)) ∧ w = w' := by
  go_enter Tryz.func35, Tryz.ntmps35
  go_wp2
  go_loop [3, 4] (fun x i => ∃ k : Nat, k ≤ s.size ∧ i = .int .i64 k ∧ x = .int .i64 (crcL (s.data.toList.take k) : Nat)) (fun _ i => s.size - (intOf i).toNat)
  case atStart => exact ⟨0, Nat.zero_le _, rfl, rfl⟩
  case round =>
    obtain ⟨k, hk, rfl, rfl⟩ := hrel
    have hc := crcL_lt (s.data.toList.take k)
    by_cases hlt : k < s.size
    · have hT := Lib.hid (crcL_take hlt)
      have hb := byte32 s[k]
      have hx := xor_i64 (crcL (s.data.toList.take k)) s[k].toNat hc hb
      have hx2 := xor32 hc hb
      have hb8 := UInt8.toNat_lt s[k]
      generalize crcL (s.data.toList.take k) = c at *
      have HB := Lib.hid (crcN_full c s[k])
      clear hb
      generalize c ^^^ s[k].toNat = c0 at *
      go_wp2
      go_loop [3, 5] (fun x i => ∃ j : Nat, j ≤ 8 ∧ i = .int .i64 j ∧ x = .int .i64 (crcN j c0 : Nat)) (fun _ i => 8 - (intOf i).toNat)
      case atStart => exact ⟨0, Nat.zero_le _, rfl, rfl⟩
      case round =>
        obtain ⟨j, hj, rfl, rfl⟩ := hrel
        have hcj := crcN_lt hx2 j
        by_cases hj8 : j < 8
        · have hS : crcN (j + 1) c0 = crcStep (crcN j c0) := rfl
          have HS := Lib.hid hS
          clear hS
          generalize crcN j c0 = y at *
          have ho := odd_i64 y
          have hd := half_i64 y
          by_cases hodd : y % 2 = 1
          · rw [hodd] at ho
            have hxo := xor_halfI y hcj
            have hxo2 := xor_halfT y hcj
            have HE := Lib.hid (crc_odd hodd)
            clear hodd
            go_wp2
            go_round
            case rel => exact ⟨j + 1, by omega, by go_num, by rw [HS.out, HE.out]⟩
            case measure => simp [intOf]; omega
          · have he : y % 2 = 0 := by omega
            rw [he] at ho
            have HE := Lib.hid (crc_even he)
            clear hodd he
            go_wp2
            go_round
            case rel => exact ⟨j + 1, by omega, by go_num, by rw [HS.out, HE.out]; exact congrArg (Value.int .i64) (by omega)⟩
            case measure => simp [intOf]; omega
        · have e8 : j = 8 := by omega
          subst e8
          have HE := Lib.hid (hT.out.trans HB.out.symm)
          generalize crcN 8 c0 = y at *
          go_wp2
          go_round
          case rel => exact ⟨k + 1, by omega, by go_num, by rw [HE.out]⟩
          case measure => simp [intOf]; omega
    · have e : s.data.toList.take k = s.data.toList := List.take_of_length_le (by simp; omega)
      have he := sum_endI _ hc
      have hr := sumL_lt s.data.toList
      rw [e] at hc he ⊢
      change bits .xor .i64 _ _ = ((sumL s.data.toList : Nat) : Int) at he
      go_wp2
      go_ret
      exact ⟨ret_int rfl, rfl⟩
end Go.Proofs.YtkpikmfijcffiaaGreat
end

/- bedrockref2.Max. By an AI agent. -/
section
set_option linter.unusedVariables false
namespace Go.Proofs.YtkpikmfijcffiaaGreat
open Go.RowKit

theorem refMax_any (x y : Nat) (w : World) (hx : x < two64) (hy : y < two64) : Calls Tryz.prog 120 #[.float .f64 x, .float .f64 y] w fun e w' => e = .returned (.float .f64 (rmax x y)) ∧ w = w' := by
  by_cases h : cmpN (fkey x) (fkey y) < 0
  · have HR := Lib.hid (show rmax x y = y from if_pos h)
    go_enter Tryz.func120, Tryz.ntmps120
    go_wp2_with fail
    refine (refCompare_any x y _ hx hy).mono ?_
    rintro e w1 ⟨rfl, rfl⟩
    go_wp2_with fail
    go_ret
    exact ⟨congrArg (fun b => Ending.returned (.float .f64 b)) HR.out.symm, rfl⟩
  · have HR := Lib.hid (show rmax x y = x from if_neg h)
    go_enter Tryz.func120, Tryz.ntmps120
    go_wp2_with fail
    refine (refCompare_any x y _ hx hy).mono ?_
    rintro e w1 ⟨rfl, rfl⟩
    go_wp2_with fail
    go_ret
    exact ⟨congrArg (fun b => Ending.returned (.float .f64 b)) HR.out.symm, rfl⟩
end Go.Proofs.YtkpikmfijcffiaaGreat
end

/- bedrockref2.Min. By an AI agent. -/
section
set_option linter.unusedVariables false
namespace Go.Proofs.YtkpikmfijcffiaaGreat
open Go.RowKit

theorem refMin_any (x y : Nat) (w : World) (hx : x < two64) (hy : y < two64) : Calls Tryz.prog 121 #[.float .f64 x, .float .f64 y] w fun e w' => e = .returned (.float .f64 (rmin x y)) ∧ w = w' := by
  by_cases h : 0 < cmpN (fkey x) (fkey y)
  · have HR := Lib.hid (show rmin x y = y from if_pos h)
    go_enter Tryz.func121, Tryz.ntmps121
    go_wp2_with fail
    refine (refCompare_any x y _ hx hy).mono ?_
    rintro e w1 ⟨rfl, rfl⟩
    go_wp2_with fail
    go_ret
    exact ⟨congrArg (fun b => Ending.returned (.float .f64 b)) HR.out.symm, rfl⟩
  · have HR := Lib.hid (show rmin x y = x from if_neg h)
    go_enter Tryz.func121, Tryz.ntmps121
    go_wp2_with fail
    refine (refCompare_any x y _ hx hy).mono ?_
    rintro e w1 ⟨rfl, rfl⟩
    go_wp2_with fail
    go_ret
    exact ⟨congrArg (fun b => Ending.returned (.float .f64 b)) HR.out.symm, rfl⟩
end Go.Proofs.YtkpikmfijcffiaaGreat
end
