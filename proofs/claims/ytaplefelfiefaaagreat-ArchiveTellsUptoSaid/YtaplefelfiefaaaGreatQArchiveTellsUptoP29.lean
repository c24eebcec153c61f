import Derived.Test.YtaplefelfiefaaaGreatQArchiveTellsUptoP27
import Derived.Test.YtaplefelfiefaaaGreatQArchiveTellsUptoP28
import Derived.Test.YtaplefelfiefaaaGreatQArchiveTellsUptoP20
import Derived.Test.YtaplefelfiefaaaGreatQArchiveTellsUptoP23
import Derived.Test.YtaplefelfiefaaaGreatQArchiveTellsUptoP21
import Derived.Test.YtaplefelfiefaaaGreatQArchiveTellsUptoP6

/- the law's own first call, of chapter 24; light. · the law's own first call, of chapter 24. By an AI agent. -/
section
set_option linter.unusedVariables false
set_option linter.unusedSimpArgs false
namespace Go.Proofs.YtaplefelfiefaaaGreat
open Go.RowKit
attribute [local go_sem] eOp eOper eUpon

/-- a slice that reads as pairs, however long -/
structure PW (w : World) (a : Option Addr) (n : Nat) (ps : List (ByteArray × ValL)) : Prop where
  len : ps.length = n
  cap : n * 56 ≤ 140737488351232
  cells : ∀ j, j < n → ∃ b off, a = some ⟨b, off, none⟩ ∧ ∀ j, j < n → PC w b (off + j * 5) (nthQ ps j)
  ok : ∀ p ∈ ps, p.1.size ≤ 140737488351232 ∧ p.2.Ok
theorem PW.keep {w w' : World} {a : Option Addr} {n : Nat} {ps : List (ByteArray × ValL)} (h : PW w a n ps) (k : Bl w w') : PW w' a n ps :=
  ⟨h.len, h.cap, fun j hj => by
    obtain ⟨b, off, e, hc⟩ := h.cells j hj
    exact ⟨b, off, e, fun j hj => (hc j hj).keep k⟩, h.ok⟩
theorem PW.get {w W : World} {b off n : Nat} {ps : List (ByteArray × ValL)} (h : PW w (some ⟨b, off, none⟩) n ps) (hb : Bl w W) {k : Nat} (hk : k < n) : PC W b (off + k * 5) (nthQ ps k) := by
  obtain ⟨b', off', e, hc⟩ := h.cells k hk
  cases e
  exact (hc k hk).keep hb
theorem PW.pa {w : World} {a : Option Addr} {n : Nat} {ps : List (ByteArray × ValL)} (h : PW w a n ps) (hn : n ≤ 1000000) : PA w a n ps := ⟨h.len, hn, h.cells⟩
theorem PA.lit1 (w : World) (p : ByteArray × ValL) (T : TypeId) : PA (w.alloc (.cells (pairCs p).toArray T)) (some ⟨w.heap.size, 0, none⟩) 1 [p] := by
  have h := AC.new w _ rfl (pairCs p) T
  refine ⟨rfl, by decide, fun j hj => ⟨_, _, rfl, fun j hj => ?_⟩⟩
  obtain rfl : j = 0 := by omega
  exact ⟨h.cell 0 _ rfl, h.cell 1 _ rfl, h.cell 2 _ rfl, h.cell 3 _ rfl, h.cell 4 _ rfl⟩

/-! ### light -/
def weightP (p : ByteArray × ValL) : Nat := 30 + p.1.size + p.2.s.size
def wSum (ps : List (ByteArray × ValL)) (k : Nat) : Nat := ((ps.take k).map weightP).sum
theorem wSum_succ {ps : List (ByteArray × ValL)} {k : Nat} (hk : k < ps.length) : wSum ps (k + 1) = wSum ps k + weightP (nthQ ps k) := by
  unfold wSum
  rw [List.take_succ_eq_append_getElem hk, List.map_append, List.sum_append, nthQ_eq hk]
  simp
theorem wSum_ge (ps : List (ByteArray × ValL)) : 30 * ps.length ≤ wSum ps ps.length := by
  unfold wSum
  rw [List.take_length]
  induction ps with
  | nil => simp
  | cons p ps ih =>
    rw [List.map_cons, List.sum_cons, List.length_cons]
    have : 30 ≤ weightP p := by unfold weightP; omega
    omega
set_option maxHeartbeats 3200000 in
set_option maxRecDepth 100000 in
theorem light_any (n parts : Int) (ad : Option Addr) (an ac : Nat) (xs : List Int) (pd : Option Addr) (pn pc : Nat) (ps : List (ByteArray × ValL)) (w : World) (hx : IA w ad an xs) (hp : PW w pd pn ps) :
    Calls Tryz.prog 4 #[.agg #[.int .i64 n, .int .i64 parts, .slice ad an ac, .slice pd pn pc]] w fun e w' => ∃ b : Bool, e = .returned (.bool b) ∧ (b = true → wSum ps pn < 60000 ∧ an ≤ 40) ∧ Bl w w' := by
  have hsf := store_float
  have hcap := hp.cap
  have hxc := hx.cap
  have HP := Lib.hid hp
  have hb := (Bl.refl w).alloc (.cells (arcCs n parts ad an ac pd pn pc).toArray 26)
  have hg := AC.new w _ rfl (arcCs n parts ad an ac pd pn pc) 26
  unfold arcCs at hg hb
  clear hx hp
  go_enter Tryz.func4, Tryz.ntmps4
  go_wp2_with fail
  generalize w.alloc _ = W at *
  have HG := Lib.hid hg
  have HB := Lib.hid hb
  clear hg hb
  go_loopw [3, 4] (fun sv i wr => ∃ (k s : Nat), k ≤ pn ∧ i = .int .i64 k ∧ sv = .int .i64 s ∧ s = wSum ps k ∧ Bl W wr) (fun _ i _ => pn - (intOf i).toNat)
  case atStart => exact ⟨0, 0, Nat.zero_le _, rfl, rfl, rfl, Bl.refl _⟩
  case round =>
    obtain ⟨k, s, hk, rfl, rfl, hs, hbl⟩ := hrel
    have HS := Lib.hid hs
    have HBL := Lib.hid hbl
    clear hs hbl
    obtain ⟨c0, c1, c2, c3⟩ := AC.arc (HG.out.keep HBL.out)
    by_cases hlt : k < pn
    · by_cases hs6 : s < 60000
      · have hkl : k < ps.length := by rw [HP.out.len]; exact hlt
        obtain ⟨ba, oa, rfl, _⟩ := HP.out.cells k hlt
        have HOK := Lib.hid (HP.out.ok _ (nthQ_mem hkl))
        have HSU := Lib.hid (wSum_succ hkl)
        have HPC := Lib.hid (HP.out.get (HB.out.trans HBL.out) hlt)
        clear hkl
        generalize nthQ ps k = p at *
        obtain ⟨key, ⟨pt, px, pm, pz⟩⟩ := p
        have hks : key.size ≤ 140737488351232 := HOK.out.1
        have hzs : pz.size ≤ 140737488351232 := HOK.out.2.s
        have q1 : decide ((s : Int) < 60000) = true := decide_eq_true (by omega)
        have q2 : decide (s < 60000) = true := decide_eq_true hs6
        have HS6 := Lib.hid hs6
        have HKS := Lib.hid (And.intro hks hzs)
        clear hs6 hks hzs
        go_upto_region 5 with fail
        have hs6 := HS6.out
        obtain ⟨hks, hzs⟩ := HKS.out
        refine wp_region_extall (by kernel_rfl) (by kernel_rfl) ?_
        have HPZ := Lib.hid (HPC.out.keep ((Bl.refl wr).drew))
        have HGZ := Lib.hid ((HG.out.keep HBL.out).keep ((Bl.refl wr).drew))
        have HBZ := Lib.hid (HBL.out.drew)
        clear c0 c1 c2 c3
        generalize wr.drew = Z at *
        have d3 : ∀ q : Ext Z, _ := fun q => (HGZ.out.keep q.bl).cell 3 _ rfl
        have e0 : ∀ q : Ext Z, _ := fun q => (HPZ.out.keep q.bl).c0
        have e4 : ∀ q : Ext Z, _ := fun q => (HPZ.out.keep q.bl).c4
        dsimp only at e0 e4
        have w1 : IntKind.i64.wrap ((s : Int) + 30) = ((s + 30 : Nat) : Int) := by rw [IntKind.wrap_i64]; omega
        have w2 : IntKind.i64.wrap (((s + 30 : Nat) : Int) + (key.size : Int)) = ((s + 30 + key.size : Nat) : Int) := by rw [IntKind.wrap_i64]; omega
        have w3 : IntKind.i64.wrap (((s + 30 + key.size : Nat) : Int) + (pz.size : Int)) = ((s + 30 + key.size + pz.size : Nat) : Int) := by rw [IntKind.wrap_i64]; omega
        have HT : Hid (s + 30 + key.size + pz.size = wSum ps (k + 1)) := Lib.hid (by rw [HSU.out, ← HS.out]; unfold weightP; dsimp only; omega)
        generalize s + 30 + key.size + pz.size = s3 at *
        generalize s + 30 + key.size = s2 at *
        generalize s + 30 = s1 at *
        repeat (refine wpE_step (fun K hK => ?_); go_simp; first | (refine hK _ ?_; clear hK K) | (apply Exists.intro; refine ⟨fun m => ?_, hK _ ?_⟩; (fail); clear hK K))
        refine wpE_nil ?_
        intro q1
        have HBN := Lib.hid (HBZ.out.trans q1.bl)
        clear d3 e0 e4 w1 w2 w3
        generalize ExtC.at q1 = Y at *
        go_wp2_with fail
        go_roundw
        case rel => exact ⟨k + 1, s3, by omega, by go_num, rfl, HT.out, HBN.out⟩
        case measure => simp [intOf]; omega
      · have q1 : decide ((s : Int) < 60000) = false := decide_eq_false (by omega)
        have q2 : decide (s < 60000) = false := decide_eq_false hs6
        go_wp2_with fail
        go_ret
        exact ⟨false, ret_bool rfl, fun h => absurd h (by decide), HB.out.trans HBL.out⟩
    · have hkp : k = pn := by omega
      subst hkp
      by_cases hs6 : s < 60000
      · have q1 : decide ((s : Int) < 60000) = true := decide_eq_true (by omega)
        go_wp2_with fail
        go_ret
        exact ⟨decide ((an : Int) ≤ 40), ret_bool rfl, fun h => ⟨by rw [← HS.out]; exact hs6, by simp at h; omega⟩, HB.out.trans HBL.out⟩
      · have q1 : decide ((s : Int) < 60000) = false := decide_eq_false (by omega)
        have q2 : decide (s < 60000) = false := decide_eq_false hs6
        go_wp2_with fail
        go_ret
        exact ⟨false, ret_bool rfl, fun h => absurd h (by decide), HB.out.trans HBL.out⟩
end Go.Proofs.YtaplefelfiefaaaGreat

set_option linter.unusedVariables false
set_option linter.unusedSimpArgs false
namespace Go.Proofs.YtaplefelfiefaaaGreat
open Go.RowKit

def c1Key : ByteArray := ⟨#[99, 49]⟩
def aliveArc : ArcL := ⟨1, 1, [5], [(c1Key, ⟨true, 0, 7, nilS⟩)]⟩
theorem aliveArc_valid : validArc aliveArc = true := by decide +kernel
theorem aliveArc_ok : ArcOk aliveArc := by
  intro p hp
  obtain rfl : p = (c1Key, ⟨true, 0, 7, nilS⟩) := by simpa [aliveArc] using hp
  exact ⟨by decide, by decide, by decide, nil_small⟩
theorem aliveArc_len : (putArc aliveArc).length = 39 := by decide +kernel
theorem aliveArc_head : (putArc aliveArc).take 8 = beginL := by decide +kernel
theorem aliveArc_seven : (canonP (c1Key, ⟨true, 0, 7, nilS⟩)).2.n = 7 := by decide +kernel
theorem aliveArc_write : wrL aliveArc = putArc aliveArc ∧ wrC aliveArc = 0 := by
  have h := (wr_iff aliveArc (putArc aliveArc) (by rw [aliveArc_len]; decide)).2 ⟨aliveArc_valid, rfl⟩
  exact ⟨h.2, h.1⟩
set_option maxHeartbeats 3200000 in
set_option maxRecDepth 100000 in
theorem alive24_any (w : World) : Calls Tryz.prog 5 #[] w fun e w' => e = .returned (.bool true) ∧ Bl w w' := by
  have hsf := store_float
  have HWR := Lib.hid (fun ad an ac pd pn pc w hx hp => arcWrite_any aliveArc ad an ac pd pn pc w hx hp aliveArc_ok)
  rw [aliveArc_write.1, aliveArc_write.2] at HWR
  have HRD := Lib.hid (fun w => arRead_any (putArc aliveArc) w)
  have HRE := Lib.hid (fun w => (show Calls Tryz.prog 11 #[.string ⟨#[]⟩] w (RdPostArc w []) from arRead_any [] w))
  have HVA := Lib.hid (fun ad an ac pd pn pc w hx hp => arcValid_hid 1 1 ad an ac [5] pd pn pc [(c1Key, ⟨true, 0, 7, nilS⟩)] w hx hp true (Lib.hid aliveArc_valid) (Lib.hid aliveArc_ok))
  have zs : (strL (putArc aliveArc)).size = 39 := by rw [strL_size, aliveArc_len]
  have q8 : (((strL (putArc aliveArc)).extract 0 8).toList == [66, 69, 68, 82, 79, 67, 75, 49]) = true := by
    rw [strL_take, aliveArc_head, ByteArray.toList_eq]; rfl
  generalize hs : strL (putArc aliveArc) = s at *
  clear hs
  have hi1 := IA.lit w [5] 3 (by decide) (by decide)
  have hb1 := (Bl.refl w).alloc (.cells #[.int .i64 5] 3)
  have hp1 := PA.lit1 (w.alloc (.cells #[.int .i64 5] 3)) (c1Key, ⟨true, 0, 7, nilS⟩) 58
  go_enter Tryz.func5, Tryz.ntmps5
  go_wp2_with fail
  have hA := AC.new ((w.alloc (.cells #[.int .i64 5] 3)).alloc (.cells #[.string ⟨#[99, 49]⟩, .bool true, .float .f64 0, .int .i64 7, .string ⟨#[]⟩] 58)) (w.heap.size + 1 + 1) (by simp) (arcCs 1 1 (some ⟨w.heap.size, 0, none⟩) 1 1 (some ⟨w.heap.size + 1, 0, none⟩) 1 1) 26
  have hb2 := (hb1.alloc (.cells #[.string ⟨#[99, 49]⟩, .bool true, .float .f64 0, .int .i64 7, .string ⟨#[]⟩] 58)).alloc (.cells #[.int .i64 1, .int .i64 1, .slice (some ⟨w.heap.size, 0, none⟩) 1 1, .slice (some ⟨w.heap.size + 1, 0, none⟩) 1 1] 26)
  have hi2 : IA (((w.alloc (.cells #[.int .i64 5] 3)).alloc (.cells #[.string ⟨#[99, 49]⟩, .bool true, .float .f64 0, .int .i64 7, .string ⟨#[]⟩] 58)).alloc (.cells #[.int .i64 1, .int .i64 1, .slice (some ⟨w.heap.size, 0, none⟩) 1 1, .slice (some ⟨w.heap.size + 1, 0, none⟩) 1 1] 26)) (some ⟨w.heap.size, 0, none⟩) 1 [5] := (hi1.keep ((Bl.refl _).alloc _)).keep ((Bl.refl _).alloc _)
  have hp2 : PA (((w.alloc (.cells #[.int .i64 5] 3)).alloc (.cells #[.string ⟨#[99, 49]⟩, .bool true, .float .f64 0, .int .i64 7, .string ⟨#[]⟩] 58)).alloc (.cells #[.int .i64 1, .int .i64 1, .slice (some ⟨w.heap.size, 0, none⟩) 1 1, .slice (some ⟨w.heap.size + 1, 0, none⟩) 1 1] 26)) (some ⟨w.heap.size + 1, 0, none⟩) 1 [(⟨#[99, 49]⟩, ⟨true, 0, 7, ⟨#[]⟩⟩)] := by
    have h := hp1.keep ((Bl.refl _).alloc (.cells #[.int .i64 1, .int .i64 1, .slice (some ⟨w.heap.size, 0, none⟩) 1 1, .slice (some ⟨w.heap.size + 1, 0, none⟩) 1 1] 26))
    have e : (w.alloc (.cells #[.int .i64 5] 3)).heap.size = w.heap.size + 1 := by simp
    rw [e] at h
    exact h
  have HA := Lib.hid hA
  have HB := Lib.hid hb2
  have HI := Lib.hid hi2
  have HP := Lib.hid hp2
  unfold arcCs at HA
  clear hi1 hb1 hp1 hA hb2 hi2 hp2
  generalize ((w.alloc (.cells #[.int .i64 5] 3)).alloc (.cells #[.string ⟨#[99, 49]⟩, .bool true, .float .f64 0, .int .i64 7, .string ⟨#[]⟩] 58)).alloc _ = W at *
  generalize w.heap.size + 1 + 1 = gA at *
  refine (HWR.out _ _ _ _ _ _ _ HI.out HP.out).mono ?_
  rintro e W1 ⟨rfl, hb1⟩
  have HA1 := Lib.hid (HA.out.keep hb1)
  have HB1 := Lib.hid (HB.out.trans hb1)
  have HI1 := Lib.hid (HI.out.keep hb1)
  have HP1 := Lib.hid (HP.out.keep hb1)
  clear HA HB HI HP hb1 HWR
  go_wp2_with fail
  refine (HRD.out _).mono ?_
  rintro e W2 (⟨a, ad, an, ac, pd, pn, pc, hr, rfl, hF, hP, hb2⟩ | ⟨hr, rfl, hb2⟩)
  case inr =>
    rw [rdArc_put aliveArc_valid aliveArc_ok (by rw [aliveArc_len]; decide)] at hr
    cases hr
  rw [rdArc_put aliveArc_valid aliveArc_ok (by rw [aliveArc_len]; decide)] at hr
  obtain rfl := Option.some.inj hr
  have hpn : pn = 1 := by rw [← hP.1]; rfl
  subst hpn
  replace hP := hP.far (by decide)
  obtain ⟨pb, po, rfl, hcell⟩ := hP.1.cells 0 (by decide)
  have hc3 := (hcell 0 (by decide)).c3
  have hnv : nthQ (canonArc aliveArc).pairs 0 = canonP (c1Key, ⟨true, 0, 7, nilS⟩) := rfl
  rw [hnv, aliveArc_seven] at hc3
  have HC3 := Lib.hid hc3
  have HA2 := Lib.hid (HA1.out.keep hb2)
  have HB2 := Lib.hid (HB1.out.trans hb2)
  have HI2 := Lib.hid (HI1.out.keep hb2)
  have HP2 := Lib.hid (HP1.out.keep hb2)
  clear HA1 HB1 HI1 HP1 hb2 hF hP hr hcell hc3 hnv HRD
  unfold arcV
  generalize (canonArc aliveArc).n = bn at *
  generalize (canonArc aliveArc).parts = bp at *
  have hbx := (Bl.refl W2).alloc (.cells #[.int .i64 bn, .int .i64 bp, .slice ad an ac, .slice (some ⟨pb, po, none⟩) 1 pc] 26)
  have hgx := AC.new W2 _ rfl [.int .i64 bn, .int .i64 bp, .slice ad an ac, .slice (some ⟨pb, po, none⟩) 1 pc] 26
  go_wp2_with fail
  have HX := Lib.hid hgx
  have HC3' := Lib.hid (hbx.cell HC3.out)
  have HA3 := Lib.hid (HA2.out.keep hbx)
  have HB3 := Lib.hid (HB2.out.trans hbx)
  have HI3 := Lib.hid (HI2.out.keep hbx)
  have HP3 := Lib.hid (HP2.out.keep hbx)
  clear HA2 HB2 HI2 HP2 hbx hgx HC3
  generalize W2.alloc _ = W3 at *
  generalize W2.heap.size = gX at *
  refine (HRE.out _).mono ?_
  rintro e W4 (⟨a, ad2, an2, ac2, pd2, pn2, pc2, hr, rfl, hF, hP, hb3⟩ | ⟨hr, rfl, hb3⟩)
  case inl => exact absurd hr (by rw [rdArc_short (by decide)]; exact fun h => by cases h)
  unfold arcV
  have hby := (Bl.refl W4).alloc (.cells #[.int .i64 0, .int .i64 0, .slice none 0 0, .slice none 0 0] 26)
  have HX4 := Lib.hid ((HX.out.keep hb3).keep hby)
  have HC4 := Lib.hid (hby.cell (hb3.cell HC3'.out))
  have HA4 := Lib.hid ((HA3.out.keep hb3).keep hby)
  have HB4 := Lib.hid (HB3.out.trans (hb3.trans hby))
  have HI4 := Lib.hid ((HI3.out.keep hb3).keep hby)
  have HP4 := Lib.hid ((HP3.out.keep hb3).keep hby)
  clear HA3 HB3 HI3 HP3 HX HC3' hb3 hby hr HRE
  have x3 := HX4.out.cell 3 _ rfl
  have c3 := HC4.out
  obtain ⟨a0, a1, a2, a3⟩ := AC.arc HA4.out
  go_wp2_with fail
  refine (HVA.out _ _ _ _ _ _ _ HI4.out HP4.out).mono ?_
  rintro e W5 ⟨rfl, hb5⟩
  go_wp2_with fail
  go_ret
  exact ⟨ret_bool rfl, HB4.out.trans hb5⟩
end Go.Proofs.YtaplefelfiefaaaGreat
end

/- bedrockref5.SamePairs, bedrocklaw24.plain, bedrockref24.Same where all is the same. By an AI agent. -/
section
set_option linter.unusedVariables false
set_option linter.unusedSimpArgs false
namespace Go.Proofs.YtaplefelfiefaaaGreat
open Go.RowKit
attribute [local go_sem] eOp eOper eUpon

set_option maxHeartbeats 3200000 in
set_option maxRecDepth 100000 in
theorem samePairs_yes (a b : Option Addr) (n ca cb : Nat) (ps qs : List (ByteArray × ValL)) (w : World) (hp : PA w a n ps) (hq : PA w b n qs) (h : Hid (∀ j, j < n → (nthQ ps j).1 = (nthQ qs j).1 ∧ sameV (nthQ ps j).2 (nthQ qs j).2 = true ∧ (nthQ ps j).2.Ok ∧ (nthQ qs j).2.Ok)) :
    Calls Tryz.prog 19 #[.slice a n ca, .slice b n cb] w fun e w' => e = .returned (.bool true) ∧ Bl w w' := by
  have hsf := store_float
  have hcap := hp.cap
  have HP := Lib.hid hp
  have HQ := Lib.hid hq
  have h2 : ((n : Int) != (n : Int)) = false := by simp
  clear hp hq
  go_enter Tryz.func19, Tryz.ntmps19
  go_wp2_with fail
  go_loopw [5] (fun i wr => ∃ k : Nat, k ≤ n ∧ i = .int .i64 k ∧ Bl w wr) (fun i _ => n - (intOf i).toNat)
  case atStart => exact ⟨0, Nat.zero_le _, rfl, Bl.refl _⟩
  case round =>
    obtain ⟨k, hk, rfl, hbl⟩ := hrel
    have HBL := Lib.hid hbl
    clear hbl
    by_cases hlt : k < n
    · obtain ⟨ba, oa, rfl, _⟩ := HP.out.cells k hlt
      obtain ⟨bb, ob, rfl, _⟩ := HQ.out.cells k hlt
      have HPC := Lib.hid (HP.out.get HBL.out hlt)
      have HQC := Lib.hid (HQ.out.get HBL.out hlt)
      have HS := Lib.hid (h.out k hlt)
      generalize nthQ ps k = p at *
      generalize nthQ qs k = q at *
      obtain ⟨key, ⟨pt, px, pm, pz⟩⟩ := p
      obtain ⟨key2, ⟨qt, qx, qm, qz⟩⟩ := q
      obtain ⟨hkk, hs, ho1, ho2⟩ := HS.out
      dsimp only at hkk
      subst hkk
      have HV := Lib.hid hs
      have HO1 := Lib.hid ho1
      have HO2 := Lib.hid ho2
      clear hs ho1 ho2
      dsimp only at HV HO1 HO2
      go_upto_region 6 with fail
      refine wp_region_extall (by kernel_rfl) (by kernel_rfl) ?_
      have HPZ := Lib.hid (HPC.out.keep ((Bl.refl wr).drew))
      have HQZ := Lib.hid (HQC.out.keep ((Bl.refl wr).drew))
      have HBZ := Lib.hid (HBL.out.drew)
      generalize wr.drew = Z at *
      have p0 : ∀ q : Ext Z, _ := fun q => (HPZ.out.keep q.bl).c0
      have p1 : ∀ q : Ext Z, _ := fun q => (HPZ.out.keep q.bl).c1
      have p2 : ∀ q : Ext Z, _ := fun q => (HPZ.out.keep q.bl).c2
      have p3 : ∀ q : Ext Z, _ := fun q => (HPZ.out.keep q.bl).c3
      have p4 : ∀ q : Ext Z, _ := fun q => (HPZ.out.keep q.bl).c4
      have q0 : ∀ q : Ext Z, _ := fun q => (HQZ.out.keep q.bl).c0
      have q1 : ∀ q : Ext Z, _ := fun q => (HQZ.out.keep q.bl).c1
      have q2 : ∀ q : Ext Z, _ := fun q => (HQZ.out.keep q.bl).c2
      have q3 : ∀ q : Ext Z, _ := fun q => (HQZ.out.keep q.bl).c3
      have q4 : ∀ q : Ext Z, _ := fun q => (HQZ.out.keep q.bl).c4
      dsimp only at p0 p1 p2 p3 p4 q0 q1 q2 q3 q4
      have H1 := Lib.hid (fun w => refSameV_agg pt px pm pz qt qx qm qz true w HV HO1 HO2)
      repeat (refine wpE_step (fun K hK => ?_); go_simp; first | (refine hK _ ?_; clear hK K) | (apply Exists.intro; refine ⟨fun m => ?_, hK _ ?_⟩; (with_reducible exact H1.out _); clear hK K))
      refine wpE_nil ?_
      intro q9
      have HBN := Lib.hid (HBZ.out.trans q9.bl)
      clear p0 p1 p2 p3 p4 q0 q1 q2 q3 q4 H1
      generalize ExtC.at q9 = Y at *
      go_wp2_with fail
      go_roundw
      case rel => exact ⟨k + 1, by omega, by go_num, HBN.out⟩
      case measure => simp [intOf]; omega
    · go_wp2_with fail
      go_ret
      exact ⟨rfl, HBL.out⟩
theorem plain_results {tmps : Array Value} {w : World} {g : Nat} {n parts : Int} {ad : Option Addr} {an ac : Nat} {pd : Option Addr} {pn pc : Nat} (h : tmps.getD 2 undef = .pointer (some ⟨g, 0, none⟩)) (d0 : AC w g (arcCs n parts ad an ac pd pn pc)) :
    (results Tryz.f7 tmps).run Tryz.prog w = .ok (arcV n parts ad an ac pd pn pc) w := by
  rw [Array.getD_eq_getD_getElem?] at h
  obtain ⟨c0, c1, c2, c3⟩ := d0.arc
  simp [results, Tryz.results7, go_sem, h, c0, c1, c2, c3, arcV]
set_option maxRecDepth 100000 in
theorem plain_any (n parts : Int) (ad : Option Addr) (an ac : Nat) (pd : Option Addr) (pn pc : Nat) (w : World) :
    Calls Tryz.prog 7 #[.agg #[.int .i64 n, .int .i64 parts, .slice ad an ac, .slice pd pn pc]] w fun e w' => e = .returned (.agg #[.int .i64 n, .int .i64 parts, .slice ad an ac, .slice pd pn pc]) ∧ Bl w w' := by
  have hA := (AC.new w _ rfl (arcCs n parts ad an ac pd pn pc) 26).keep ((Bl.refl _).alloc (.cells (arcCs 0 0 none 0 0 none 0 0).toArray 52))
  have hB := AC.new (w.alloc (.cells (arcCs n parts ad an ac pd pn pc).toArray 26)) (w.heap.size + 1) (by simp) (arcCs 0 0 none 0 0 none 0 0) 52
  have hb := ((Bl.refl w).alloc (.cells (arcCs n parts ad an ac pd pn pc).toArray 26)).alloc (.cells (arcCs 0 0 none 0 0 none 0 0).toArray 52)
  unfold arcCs at hA hB hb
  go_enter Tryz.func7, Tryz.ntmps7
  go_upto_region 1 with fail
  generalize (w.alloc (.cells #[.int .i64 n, .int .i64 parts, .slice ad an ac, .slice pd pn pc] 26)).alloc _ = W at *
  obtain ⟨a0, a1, a2, a3⟩ := AC.arc hA
  obtain ⟨b0, b1, b2, b3⟩ := AC.arc hB
  have fr := hB.frozen
  have HB := Lib.hid hB
  have HBL := Lib.hid hb
  clear hA hB hb
  go_wp2_with fail
  refine bodyPost_ret (plain_results rfl (HB.out.set4 (.int .i64 n) (.int .i64 parts) (.slice ad an ac) (.slice pd pn pc))) rfl ?_
  exact ⟨rfl, HBL.out.store4 (Nat.le_succ _) _ _ _ _⟩
set_option maxHeartbeats 1600000 in
set_option maxRecDepth 100000 in
theorem refSameArc_yes (n parts : Int) (xs : List Int) (ad bd : Option Addr) (an ac bc : Nat) (pd qd : Option Addr) (pn pc qc : Nat) (ps qs : List (ByteArray × ValL)) (w : World) (hx : IA w ad an xs) (hy : IA w bd an xs) (hp : PA w pd pn ps) (hq : PA w qd pn qs)
    (h : Hid (∀ j, j < pn → (nthQ ps j).1 = (nthQ qs j).1 ∧ sameV (nthQ ps j).2 (nthQ qs j).2 = true ∧ (nthQ ps j).2.Ok ∧ (nthQ qs j).2.Ok)) :
    Calls Tryz.prog 12 #[.agg #[.int .i64 n, .int .i64 parts, .slice ad an ac, .slice pd pn pc], .agg #[.int .i64 n, .int .i64 parts, .slice bd an bc, .slice qd pn qc]] w fun e w' => e = .returned (.bool true) ∧ Bl w w' := by
  have hA := (AC.new w _ rfl (arcCs n parts ad an ac pd pn pc) 52).keep ((Bl.refl _).alloc (.cells (arcCs n parts bd an bc qd pn qc).toArray 52))
  have hB := AC.new (w.alloc (.cells (arcCs n parts ad an ac pd pn pc).toArray 52)) (w.heap.size + 1) (by simp) (arcCs n parts bd an bc qd pn qc) 52
  have hb := ((Bl.refl w).alloc (.cells (arcCs n parts ad an ac pd pn pc).toArray 52)).alloc (.cells (arcCs n parts bd an bc qd pn qc).toArray 52)
  unfold arcCs at hA hB hb
  have HX := Lib.hid hx
  have HY := Lib.hid hy
  have HP := Lib.hid hp
  have HQ := Lib.hid hq
  have h1 : (n == n) = true := by simp
  have h2 : (parts == parts) = true := by simp
  clear hx hy hp hq
  go_enter Tryz.func12, Tryz.ntmps12
  go_upto_region 1 with fail
  generalize (w.alloc (.cells #[.int .i64 n, .int .i64 parts, .slice ad an ac, .slice pd pn pc] 52)).alloc _ = W at *
  obtain ⟨a0, a1, a2, a3⟩ := AC.arc hA
  obtain ⟨b0, b1, b2, b3⟩ := AC.arc hB
  have HA := Lib.hid hA
  have HBB := Lib.hid hB
  have HBL := Lib.hid hb
  clear hA hB hb
  go_wp2_with fail
  refine (rsame_any _ _ _ _ _ _ xs xs _ (HX.out.keep HBL.out) (HY.out.keep HBL.out)).mono ?_
  rintro e w1 ⟨rfl, hb1⟩
  rw [decide_eq_true rfl]
  have HB1 := Lib.hid (HBL.out.trans hb1)
  obtain ⟨a0', a1', a2', a3'⟩ := AC.arc (HA.out.keep hb1)
  obtain ⟨b0', b1', b2', b3'⟩ := AC.arc (HBB.out.keep hb1)
  clear a0 a1 a2 a3 b0 b1 b2 b3 hb1
  go_wp2_with fail
  refine (samePairs_yes _ _ _ _ _ ps qs _ (HP.out.keep HB1.out) (HQ.out.keep HB1.out) h).mono ?_
  rintro e w2 ⟨rfl, hb2⟩
  go_wp2_with fail
  go_ret
  exact ⟨rfl, HB1.out.trans hb2⟩
end Go.Proofs.YtaplefelfiefaaaGreat
end

/- bedrockbook.SamePairs where all is the same; pairs that can be. By an AI agent. -/
section
set_option linter.unusedVariables false
set_option linter.unusedSimpArgs false
namespace Go.Proofs.YtaplefelfiefaaaGreat
open Go.RowKit
attribute [local go_sem] eOp eOper eUpon

def PaOk (p : ByteArray × ValL) : Prop := p.1.size ≤ 140737488351232 ∧ p.2.Ok
/-- a slice that reads as pairs that can be -/
structure PP (w : World) (a : Option Addr) (n : Nat) (ps : List (ByteArray × ValL)) : Prop where
  len : ps.length = n
  cap : n ≤ 1000000
  cells : ∀ j, j < n → ∃ b off, a = some ⟨b, off, none⟩ ∧ ∀ j, j < n → PC w b (off + j * 5) (nthQ ps j)
  ok : ∀ p ∈ ps, PaOk p
theorem PP.pa {w : World} {a : Option Addr} {n : Nat} {ps : List (ByteArray × ValL)} (h : PP w a n ps) : PA w a n ps := ⟨h.len, h.cap, h.cells⟩
theorem PP.keep {w w' : World} {a : Option Addr} {n : Nat} {ps : List (ByteArray × ValL)} (h : PP w a n ps) (k : Bl w w') : PP w' a n ps := ⟨h.len, h.cap, (h.pa.keep k).cells, h.ok⟩
theorem PP.get {w W : World} {b off n : Nat} {ps : List (ByteArray × ValL)} (h : PP w (some ⟨b, off, none⟩) n ps) (hb : Bl w W) {k : Nat} (hk : k < n) : PC W b (off + k * 5) (nthQ ps k) := h.pa.get hb hk
set_option maxHeartbeats 3200000 in
set_option maxRecDepth 100000 in
theorem bookSamePs_yes (a b : Option Addr) (n ca cb : Nat) (ps qs : List (ByteArray × ValL)) (w : World) (hp : PA w a n ps) (hq : PA w b n qs) (h : Hid (∀ j, j < n → (nthQ ps j).1 = (nthQ qs j).1 ∧ sameV (nthQ ps j).2 (nthQ qs j).2 = true ∧ (nthQ ps j).2.Ok ∧ (nthQ qs j).2.Ok)) :
    Calls Tryz.prog 153 #[.slice a n ca, .slice b n cb] w fun e w' => e = .returned (.bool true) ∧ Bl w w' := by
  have hsf := store_float
  have hcap := hp.cap
  have HP := Lib.hid hp
  have HQ := Lib.hid hq
  have h2 : ((n : Int) != (n : Int)) = false := by simp
  clear hp hq
  go_enter Tryz.func153, Tryz.ntmps153
  go_wp2_with fail
  go_loopw [5] (fun i wr => ∃ k : Nat, k ≤ n ∧ i = .int .i64 k ∧ Bl w wr) (fun i _ => n - (intOf i).toNat)
  case atStart => exact ⟨0, Nat.zero_le _, rfl, Bl.refl _⟩
  case round =>
    obtain ⟨k, hk, rfl, hbl⟩ := hrel
    have HBL := Lib.hid hbl
    clear hbl
    by_cases hlt : k < n
    · obtain ⟨ba, oa, rfl, _⟩ := HP.out.cells k hlt
      obtain ⟨bb, ob, rfl, _⟩ := HQ.out.cells k hlt
      have HPC := Lib.hid (HP.out.get HBL.out hlt)
      have HQC := Lib.hid (HQ.out.get HBL.out hlt)
      have HS := Lib.hid (h.out k hlt)
      generalize nthQ ps k = p at *
      generalize nthQ qs k = q at *
      obtain ⟨key, ⟨pt, px, pm, pz⟩⟩ := p
      obtain ⟨key2, ⟨qt, qx, qm, qz⟩⟩ := q
      obtain ⟨hkk, hs, ho1, ho2⟩ := HS.out
      dsimp only at hkk
      subst hkk
      have HV := Lib.hid hs
      have HO1 := Lib.hid ho1
      have HO2 := Lib.hid ho2
      clear hs ho1 ho2
      dsimp only at HV HO1 HO2
      go_upto_region 6 with fail
      refine wp_region_extall (by kernel_rfl) (by kernel_rfl) ?_
      have HPZ := Lib.hid (HPC.out.keep ((Bl.refl wr).drew))
      have HQZ := Lib.hid (HQC.out.keep ((Bl.refl wr).drew))
      have HBZ := Lib.hid (HBL.out.drew)
      generalize wr.drew = Z at *
      have p0 : ∀ q : Ext Z, _ := fun q => (HPZ.out.keep q.bl).c0
      have p1 : ∀ q : Ext Z, _ := fun q => (HPZ.out.keep q.bl).c1
      have p2 : ∀ q : Ext Z, _ := fun q => (HPZ.out.keep q.bl).c2
      have p3 : ∀ q : Ext Z, _ := fun q => (HPZ.out.keep q.bl).c3
      have p4 : ∀ q : Ext Z, _ := fun q => (HPZ.out.keep q.bl).c4
      have q0 : ∀ q : Ext Z, _ := fun q => (HQZ.out.keep q.bl).c0
      have q1 : ∀ q : Ext Z, _ := fun q => (HQZ.out.keep q.bl).c1
      have q2 : ∀ q : Ext Z, _ := fun q => (HQZ.out.keep q.bl).c2
      have q3 : ∀ q : Ext Z, _ := fun q => (HQZ.out.keep q.bl).c3
      have q4 : ∀ q : Ext Z, _ := fun q => (HQZ.out.keep q.bl).c4
      dsimp only at p0 p1 p2 p3 p4 q0 q1 q2 q3 q4
      have H1 := Lib.hid (fun w => refSameV_agg pt px pm pz qt qx qm qz true w HV HO1 HO2)
      repeat (refine wpE_step (fun K hK => ?_); go_simp; first | (refine hK _ ?_; clear hK K) | (apply Exists.intro; refine ⟨fun m => ?_, hK _ ?_⟩; (with_reducible exact H1.out _); clear hK K))
      refine wpE_nil ?_
      intro q9
      have HBN := Lib.hid (HBZ.out.trans q9.bl)
      clear p0 p1 p2 p3 p4 q0 q1 q2 q3 q4 H1
      generalize ExtC.at q9 = Y at *
      go_wp2_with fail
      go_roundw
      case rel => exact ⟨k + 1, by omega, by go_num, HBN.out⟩
      case measure => simp [intOf]; omega
    · go_wp2_with fail
      go_ret
      exact ⟨rfl, HBL.out⟩
theorem bookSamePs_self (a b : Option Addr) (n ca cb : Nat) (ps : List (ByteArray × ValL)) (w : World) (hp : PP w a n ps) (hq : PP w b n ps) :
    Calls Tryz.prog 153 #[.slice a n ca, .slice b n cb] w fun e w' => e = .returned (.bool true) ∧ Bl w w' :=
  bookSamePs_yes a b n ca cb ps ps w hp.pa hq.pa (Lib.hid (fun j hj => ⟨rfl, sameV_refl _, (hp.ok _ (nthQ_mem (by rw [hp.len]; exact hj))).2, (hp.ok _ (nthQ_mem (by rw [hp.len]; exact hj))).2⟩))
end Go.Proofs.YtaplefelfiefaaaGreat
end
