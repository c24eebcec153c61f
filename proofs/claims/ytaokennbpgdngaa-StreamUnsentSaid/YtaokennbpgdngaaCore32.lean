import Derived.Test.YtaokennbpgdngaaCore1
import Derived.Test.YtaokennbpgdngaaCore27
import Derived.Test.YtaokennbpgdngaaCore28
import Derived.Test.YtaokennbpgdngaaCore30
import Derived.Test.YtaokennbpgdngaaCore31

/- slices of ints that are written out; a string of known bytes. By an AI agent. -/
section
namespace Go.Proofs.Ytaokennbpgdngaa
open Go.RowKit

theorem IA.lit (w : World) (xs : List Int) (t : TypeId) (hc : xs.length ≤ 1000) (hw : ∀ x ∈ xs, -9223372036854775808 ≤ x ∧ x ≤ 9223372036854775807) :
    IA (w.alloc (.cells (xs.map (Value.int .i64)).toArray t)) (some ⟨w.heap.size, 0, none⟩) xs.length xs :=
  ⟨rfl, by omega, fun j hj => ⟨w.heap.size, 0, rfl, fun j hj => by
    rw [Nat.zero_add, cell_of_row _ w.heap.size j _ t (0, 0) (heap_alloc_new w _)]
    simp [nth_eq hj, hj]⟩, hw⟩

theorem IA.lit_at (w : World) (g : Nat) (xs : List Int) (t : TypeId) (hg : g = w.heap.size) (hc : xs.length ≤ 1000) (hw : ∀ x ∈ xs, -9223372036854775808 ≤ x ∧ x ≤ 9223372036854775807) :
    IA (w.alloc (.cells (xs.map (Value.int .i64)).toArray t)) (some ⟨g, 0, none⟩) xs.length xs := by subst hg; exact IA.lit w xs t hc hw

theorem str_eq {s : ByteArray} {l m : List UInt8} (h : SB s l) (e : l = m) : s = ⟨m.toArray⟩ := by
  rw [SB, e] at h
  exact ByteArray.ext (Array.toList_inj.1 h)

end Go.Proofs.Ytaokennbpgdngaa
end

/- the law's own first call, of chapter 21. By an AI agent. -/
section
set_option linter.unusedVariables false
set_option linter.unusedSimpArgs false
namespace Go.Proofs.Ytaokennbpgdngaa
open Go.RowKit

def k21 : ByteArray := ⟨#[99, 49]⟩
def a21 (n : Int) : ActL := ⟨1, 0, n, ⟨#[]⟩⟩
def t21 : TxnL := ⟨0, 1, 0, [0], [5], [(k21, a21 12)]⟩
theorem t21_valid : validT t21 = true := by decide +kernel
theorem t21_add1 : addLs [] k21 (a21 5) = [(k21, a21 5)] ∧ addC 0 k21 (a21 5) = 0 := by
  have h : fitsB k21 (a21 5) = true := by decide +kernel
  unfold addLs addC
  rw [if_pos ⟨h, by decide⟩, if_pos h, if_pos (by decide)]
  exact ⟨rfl, rfl⟩
theorem t21_add2 : addLs [(k21, a21 5)] k21 (a21 7) = [(k21, a21 5), (k21, a21 7)] ∧ addC 1 k21 (a21 7) = 0 := by
  have h : fitsB k21 (a21 7) = true := by decide +kernel
  unfold addLs addC
  rw [if_pos ⟨h, by decide⟩, if_pos h, if_pos (by decide)]
  exact ⟨rfl, rfl⟩
theorem t21_both : bothL k21 (a21 5) (a21 7) = a21 12 := by
  have h1 : regB k21 = false := by decide +kernel
  have h2 : fitsB k21 (a21 5) = true := by decide +kernel
  have h3 : fitsB k21 (a21 7) = true := by decide +kernel
  unfold bothL
  rw [h1, h2, h3, if_neg (by decide)]
  show (⟨1, 0, wrap64 (5 + 7), nilS⟩ : ActL) = _
  rw [show wrap64 (5 + 7) = 12 by decide +kernel]
  rfl
theorem t21_fold : foldW [(k21, a21 5), (k21, a21 7)] = [(k21, a21 12)] := by
  have e1 : addW [] (k21, a21 5) = [(k21, a21 5)] := addW_fresh rfl
  show addW (addW [] (k21, a21 5)) (k21, a21 7) = _
  have e2 := addW_set (out := [(k21, a21 5)]) (p := (k21, a21 7)) (i := 0) (by decide) rfl (by simp)
  rw [e1, e2]
  show [(k21, bothL k21 (a21 5) (a21 7))] = _
  rw [t21_both]
theorem t21_read : (readW k21 ⟨true, 0, 2, ⟨#[]⟩⟩ [(k21, a21 5), (k21, a21 7)]).n = 14 := by decide +kernel
theorem t21_ok : TxOk t21 := by
  refine ⟨by decide, by decide, by decide, fun p hp => ?_⟩
  obtain rfl : p = (k21, a21 12) := by simpa [t21] using hp
  exact ⟨by decide, by decide, by decide, by decide, by decide⟩
theorem t21_put : ptC t21 = 0 ∧ ptL t21 = putTx t21 := ptC_put t21_valid (by decide +kernel)
theorem t21_rd : rdTx (putTx t21) = some (canonT t21) := rdTx_put t21_valid t21_ok (by decide +kernel)
theorem sameA_symm {a b : ActL} (h : sameA a b = true) : sameA b a = true := by
  rw [sameA_iff] at h ⊢
  exact ⟨h.1.symm, h.2.1.symm, h.2.2.1.symm, h.2.2.2.symm⟩
theorem sameWs_symm {a b : List (ByteArray × ActL)} (h : sameWs a b = true) : sameWs b a = true := by
  obtain ⟨h1, h2⟩ := sameWs_iff.1 h
  exact sameWs_iff.2 ⟨h1.symm, fun i hi => ⟨((h2 i (by omega)).1).symm, sameA_symm (h2 i (by omega)).2⟩⟩
theorem sameT_symm {a b : TxnL} (h : sameT a b = true) : sameT b a = true := by
  obtain ⟨h1, h2, h3, h4, h5, h6⟩ := sameT_iff.1 h
  exact sameT_iff.2 ⟨h1.symm, h2.symm, h3.symm, h4.symm, h5.symm, sameWs_symm h6⟩
theorem t21_same : sameT t21 (canonT t21) = true := sameT_symm (canonT_same (validT_parts t21_valid) t21_ok)
theorem OWR.ww {B : Nat} {w : World} {a : Option Addr} {k k' ca : Nat} {ps : List (ByteArray × ActL)} (h : OWR B w (.slice a k' ca) k ps) (hk : k ≤ 1000000) (ok : ∀ p ∈ ps, WrOk p) : WW w a k ps := (h.far hk).1.ww ok
theorem a21_ok (n : Int) (h : -9223372036854775808 ≤ n ∧ n ≤ 9223372036854775807) : WrOk (k21, a21 n) := ⟨by show (2 : Nat) ≤ _; decide, by show (-9223372036854775808 : Int) ≤ 1 ∧ (1 : Int) ≤ 9223372036854775807; decide, by show (0 : Nat) < two64; decide, h, by show (0 : Nat) ≤ _; decide⟩
theorem canon_ok21 : TxOk (canonT t21) := canonT_ok (validT_parts t21_valid) t21_ok
set_option maxHeartbeats 6400000 in
set_option maxRecDepth 100000 in
theorem alive21_any (w : World) : Calls Try.prog 21 #[] w fun e w' => e = .returned (.bool true) ∧ Bl w w' := by
  have hsf := store_float
  have HA1 := Lib.hid (tadd_any none 0 0 [] k21 (a21 5) w (WW.nil w none) (by decide) (a21_ok 5 (by decide)).2)
  rw [t21_add1.1, t21_add1.2] at HA1
  go_enter Try.func21, Try.ntmps21
  go_wp2_with fail
  refine HA1.out.mono ?_
  rintro e w1 ⟨v1, rfl, ho1, hb1⟩
  obtain ⟨a1, c1, rfl⟩ := ho1.form
  have hok1 : ∀ p ∈ [(k21, a21 5)], WrOk p := fun p hp => by obtain rfl := List.mem_singleton.1 hp; exact a21_ok 5 (by decide)
  have HA2 := Lib.hid (tadd_any a1 1 c1 [(k21, a21 5)] k21 (a21 7) w1 (ho1.ww (by decide) hok1) (by decide) (a21_ok 7 (by decide)).2)
  rw [t21_add2.1, t21_add2.2] at HA2
  have HB1 := Lib.hid hb1
  clear ho1 hb1 hok1 HA1
  go_wp2_with fail
  refine HA2.out.mono ?_
  rintro e w2 ⟨v2, rfl, ho2, hb2⟩
  obtain ⟨a2, c2, rfl⟩ := ho2.form
  have hok2 : ∀ p ∈ [(k21, a21 5), (k21, a21 7)], WrOk p := fun p hp => by
    simp only [List.mem_cons, List.not_mem_nil, or_false] at hp
    rcases hp with rfl | rfl
    · exact a21_ok 5 (by decide)
    · exact a21_ok 7 (by decide)
  have HW2 := Lib.hid (ho2.ww (by decide) hok2)
  have HB2 := Lib.hid (HB1.out.trans hb2)
  have HRD := Lib.hid (tread_any a2 2 c2 [(k21, a21 5), (k21, a21 7)] k21 ⟨true, 0, 2, ⟨#[]⟩⟩ w2 HW2.out (by decide) ⟨by show (0 : Nat) < two64; decide, by decide, by decide⟩)
  obtain ⟨⟨rb, rx, rn, rs⟩, hr⟩ : ∃ r, readW k21 ⟨true, 0, 2, ⟨#[]⟩⟩ [(k21, a21 5), (k21, a21 7)] = r := ⟨_, rfl⟩
  have hr14 := t21_read
  rw [hr] at HRD hr14
  dsimp only at HRD hr14
  subst hr14
  clear ho2 hb2 hok2 HB1 HA2 hr
  go_wp2_with fail
  refine HRD.out.mono ?_
  rintro e w3 ⟨rfl, hb3⟩
  have hgv := AC.new w3 _ rfl [.bool rb, .float .f64 rx, .int .i64 14, .string rs] 51
  have hbv := (Bl.refl w3).alloc (.cells #[.bool rb, .float .f64 rx, .int .i64 14, .string rs] 51)
  have HW3 := Lib.hid (HW2.out.keep (hb3.trans hbv))
  have HB3 := Lib.hid (HB2.out.trans (hb3.trans hbv))
  clear HW2 HB2 hb3 hbv HRD
  go_upto_region 4 with fail
  have HGV := Lib.hid hgv
  generalize w3.alloc _ = X3 at *
  generalize w3.heap.size = gv at *
  clear hgv
  have I0 := (IA.lit X3 [0] 3 (by decide) (by decide)).keep ((Bl.refl _).alloc (.cells #[.int .i64 5] 3))
  have I5 := IA.lit_at (X3.alloc (.cells #[.int .i64 0] 3)) (X3.heap.size + 1) [5] 3 (by simp) (by decide) (by decide)
  have hbx := ((Bl.refl X3).alloc (.cells #[.int .i64 0] 3)).alloc (.cells #[.int .i64 5] 3)
  have HI := Lib.hid (show IA ((X3.alloc (.cells #[.int .i64 0] 3)).alloc (.cells #[.int .i64 5] 3)) (some ⟨X3.heap.size, 0, none⟩) 1 [0] ∧ IA ((X3.alloc (.cells #[.int .i64 0] 3)).alloc (.cells #[.int .i64 5] 3)) (some ⟨X3.heap.size + 1, 0, none⟩) 1 [5] from ⟨I0, I5⟩)
  have HF := Lib.hid (tfold_any a2 2 c2 [(k21, a21 5), (k21, a21 7)] ((X3.alloc (.cells #[.int .i64 0] 3)).alloc (.cells #[.int .i64 5] 3)) (HW3.out.keep hbx))
  rw [t21_fold] at HF
  have HB4 := Lib.hid (HB3.out.trans hbx)
  have HGV4 := Lib.hid (HGV.out.keep hbx)
  clear I0 I5 hbx HB3 HGV HW3
  go_wp2_with fail
  refine HF.out.mono ?_
  clear HF
  generalize hX4 : (X3.alloc (.cells #[.int .i64 0] 3)).alloc _ = X4 at *
  clear hX4
  generalize X3.heap.size = gi at *
  rintro e w5 ⟨v5, rfl, ho5, hb5⟩
  obtain ⟨a5, c5, rfl⟩ := ho5.form
  have hT : TX w5 ⟨some ⟨gi, 0, none⟩, 1, 1, some ⟨gi + 1, 0, none⟩, 1, 1, a5, 1, c5⟩ t21 := ⟨HI.out.1.keep hb5, HI.out.2.keep hb5, ho5.ww (by decide) (fun p hp => by obtain rfl := List.mem_singleton.1 hp; exact a21_ok 12 (by decide)), by decide, by decide, by decide⟩
  have hgt := AC.new w5 _ rfl [.int .i64 0, .int .i64 1, .int .i64 0, .slice (some ⟨gi, 0, none⟩) 1 1, .slice (some ⟨gi + 1, 0, none⟩) 1 1, .slice a5 1 c5] 29
  have hbt := (Bl.refl w5).alloc (.cells #[.int .i64 0, .int .i64 1, .int .i64 0, .slice (some ⟨gi, 0, none⟩) 1 1, .slice (some ⟨gi + 1, 0, none⟩) 1 1, .slice a5 1 c5] 29)
  have HT := Lib.hid (hT.keep hbt)
  have HB5 := Lib.hid (HB4.out.trans (hb5.trans hbt))
  have HGV5 := Lib.hid (HGV4.out.keep (hb5.trans hbt))
  clear hT hbt hb5 HB4 HGV4 HI ho5
  go_upto_region 5 with fail
  have HGT := Lib.hid hgt
  generalize w5.alloc _ = X5 at *
  generalize w5.heap.size = gt at *
  clear hgt
  have b0 := HGT.out.cell 0 _ rfl
  have b1 := HGT.out.cell 1 _ rfl
  have b2 := HGT.out.cell 2 _ rfl
  have b3 := HGT.out.cell 3 _ rfl
  have b4 := HGT.out.cell 4 _ rfl
  have b5 := HGT.out.cell 5 _ rfl
  have HPUT := Lib.hid (txPut_any t21 _ X5 HT.out)
  rw [t21_put.1, t21_put.2] at HPUT
  unfold txV t21 at HPUT
  dsimp only at HPUT
  go_wp2_with fail
  clear b0 b1 b2 b3 b4 b5
  refine HPUT.out.mono ?_
  rintro e w6 ⟨rfl, hb6⟩
  clear HPUT
  have HB6 := Lib.hid (HB5.out.trans hb6)
  have HGV6 := Lib.hid (HGV5.out.keep hb6)
  have HGT6 := Lib.hid (HGT.out.keep hb6)
  have HT6 := Lib.hid (HT.out.keep hb6)
  have HGET := Lib.hid (fun w => txGet_any (putTx t21) w)
  unfold t21 at HGET
  clear hb6 HB5 HGV5 HGT HT
  go_wp2_with fail
  refine (HGET.out _).mono ?_
  rintro e w7 (⟨u, s7, hu, rfl, hx7, hb7⟩ | ⟨hu, _⟩)
  case inr => have := t21_rd; unfold t21 at this; rw [this] at hu; cases hu
  have hu2 : u = canonT t21 := by have := t21_rd; unfold t21 at this; rw [this] at hu; exact (Option.some.inj hu).symm
  have hTU : TX w7 s7 u := hx7.tx (by rw [hu2]; exact canon_ok21)
  have hSM : sameT t21 u = true := by rw [hu2]; exact t21_same
  have HSM := Lib.hid hSM
  clear hu hu2 hSM hx7 HGET
  obtain ⟨uo, unum, uprev, uds, uxs, uws⟩ := u
  obtain ⟨da, dn, dc, aa, an, ac, wa, wn, wc⟩ := s7
  unfold txV
  dsimp only
  have hgu := AC.new w7 _ rfl [.int .i64 uo, .int .i64 unum, .int .i64 uprev, .slice da dn dc, .slice aa an ac, .slice wa wn wc] 29
  have hbu := (Bl.refl w7).alloc (.cells #[.int .i64 uo, .int .i64 unum, .int .i64 uprev, .slice da dn dc, .slice aa an ac, .slice wa wn wc] 29)
  have HU := Lib.hid (hTU.keep hbu)
  have HB8 := Lib.hid (HB6.out.trans (hb7.trans hbu))
  have HGV8 := Lib.hid (HGV6.out.keep (hb7.trans hbu))
  have HGT8 := Lib.hid (HGT6.out.keep (hb7.trans hbu))
  have HT8 := Lib.hid (HT6.out.keep (hb7.trans hbu))
  clear hTU hb7 hbu HB6 HGV6 HGT6 HT6
  go_upto_region 7 with fail
  have HGU := Lib.hid hgu
  generalize w7.alloc _ = X8 at *
  generalize w7.heap.size = gu at *
  clear hgu
  have v2 := HGV8.out.cell 2 _ rfl
  have b0 := HGT8.out.cell 0 _ rfl
  have b1 := HGT8.out.cell 1 _ rfl
  have b2 := HGT8.out.cell 2 _ rfl
  have b3 := HGT8.out.cell 3 _ rfl
  have b4 := HGT8.out.cell 4 _ rfl
  have b5 := HGT8.out.cell 5 _ rfl
  have HVA := Lib.hid (txValid_any t21 _ X8 HT8.out)
  rw [t21_valid] at HVA
  unfold txV t21 at HVA
  dsimp only at HVA
  go_wp2_with fail
  clear b0 b1 b2 b3 b4 b5 v2
  refine HVA.out.mono ?_
  rintro e X9 ⟨rfl, hb9⟩
  have HB9 := Lib.hid (HB8.out.trans hb9)
  have HGT9 := Lib.hid (HGT8.out.keep hb9)
  have HGU9 := Lib.hid (HGU.out.keep hb9)
  have HT9 := Lib.hid (HT8.out.keep hb9)
  have HU9 := Lib.hid (HU.out.keep hb9)
  clear hb9 HB8 HGT8 HGU HT8 HU HGV8 HVA
  have b0 := HGT9.out.cell 0 _ rfl
  have b1 := HGT9.out.cell 1 _ rfl
  have b2 := HGT9.out.cell 2 _ rfl
  have b3 := HGT9.out.cell 3 _ rfl
  have b4 := HGT9.out.cell 4 _ rfl
  have b5 := HGT9.out.cell 5 _ rfl
  have e0 := HGU9.out.cell 0 _ rfl
  have e1 := HGU9.out.cell 1 _ rfl
  have e2 := HGU9.out.cell 2 _ rfl
  have e3 := HGU9.out.cell 3 _ rfl
  have e4 := HGU9.out.cell 4 _ rfl
  have e5 := HGU9.out.cell 5 _ rfl
  have HSA := Lib.hid (txSame_any t21 _ _ _ X9 HT9.out HU9.out)
  rw [HSM.out] at HSA
  unfold txV t21 at HSA
  dsimp only at HSA
  go_wp2_with fail
  clear e0 e1 e2 e3 e4 e5 b0 b1 b2 b3 b4 b5
  refine HSA.out.mono ?_
  rintro e X10 ⟨rfl, hb10⟩
  have HB10 := Lib.hid (HB9.out.trans hb10)
  have HGT10 := Lib.hid (HGT9.out.keep hb10)
  have HT10 := Lib.hid (HT9.out.keep hb10)
  clear hb10 HB9 HGT9 HGU9 HT9 HU9 HSA
  have b0 := HGT10.out.cell 0 _ rfl
  have b1 := HGT10.out.cell 1 _ rfl
  have b2 := HGT10.out.cell 2 _ rfl
  have b3 := HGT10.out.cell 3 _ rfl
  have b4 := HGT10.out.cell 4 _ rfl
  have b5 := HGT10.out.cell 5 _ rfl
  have HVE := Lib.hid (txVers_any t21 _ X10 HT10.out (by show (1 : Nat) ≤ 1000000; decide))
  rw [t21_valid] at HVE
  unfold txV t21 at HVE
  dsimp only at HVE
  rw [if_pos rfl] at HVE
  go_wp2_with fail
  clear b0 b1 b2 b3 b4 b5
  refine HVE.out.mono ?_
  rintro e X11 ⟨ra, rc, rfl, hb11⟩
  go_wp2_with fail
  go_ret
  exact ⟨rfl, HB10.out.trans hb11⟩
end Go.Proofs.Ytaokennbpgdngaa
end
