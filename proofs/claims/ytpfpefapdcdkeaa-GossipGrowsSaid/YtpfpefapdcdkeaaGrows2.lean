/- the walk of GossipGrows. By an AI agent. -/
import Derived.Test.YtpfpefapdcdkeaaGrows1
import Derived.Test.YtpfpefapdcdkeaaRef3b
import Derived.Test.YtpfpefapdcdkeaaLags2
import Derived.StillTailTactics
import Derived.Outline
import Derived.IntWalk
namespace Go.Proofs.Ytpfpefapdcdkeaa
open Go.RowKit

/-- a slice at a, of n things that are done, reads as ops -/
structure OA (w : World) (a : Option Addr) (n : Nat) (ops : List (Int × List Int)) : Prop where
  len : ops.length = n
  cap : n * 8 ≤ 140737488351232
  cells : ∀ j, j < n → ∃ b off, a = some ⟨b, off, none⟩ ∧ ∀ j, j < n → ∃ aj nj cj, w.cell? ⟨b, off + j * 3 + 1, none⟩ = some (.int .i64 (nthO ops j).1) ∧ w.cell? ⟨b, off + j * 3 + 2, none⟩ = some (.slice aj nj cj) ∧ IA w aj nj (nthO ops j).2
  wf : ∀ j, j < n → -9223372036854775808 ≤ (nthO ops j).1 ∧ (nthO ops j).1 ≤ 9223372036854775807

theorem after_set {w0 wr wz w1 : World} {h : Nat} (hb : Bl w0 wr) (hz : Bl wr wz) (hg : wz.grownBy w1 (some h)) (hh : w0.heap.size ≤ h) : Bl w0 w1 :=
  Below.grown (hb.trans hz) hg (hb.trans hz).size (fun j e => by obtain rfl : h = j := by simpa using e
                                                                 exact hh)
theorem RH.mono {B B' : Nat} {w : World} {g h : Nat} {rows : List (List Int)} (r : RH B w g h rows) (hB : B' ≤ B) : RH B' w g h rows := by
  obtain ⟨cap, hc, h2, hor⟩ := r
  exact ⟨cap, hc, by omega, hor⟩
theorem FI.other {B : Nat} {w w' : World} {v : Value} {xs : List Int} {h : Nat} (f : FI B w v xs) (hg : w.grownBy w' (some h)) (hv : ∃ cur fz, w.heap[h]? = some (.cells cur 23 fz)) : FI B w' v xs :=
  f.grown hg fun k hk => by
    obtain rfl : h = k := by simpa using hk
    exact hv

/-- rows a and b, behind k steps from the front and from the back -/
structure GR (w wr : World) (ga ha gb hb : Nat) (RA RB : List (List Int)) : Prop where
  a : RH w.heap.size wr ga ha RA
  b : RH w.heap.size wr gb hb RB
  lt : ha < gb
  bl : Bl w wr
theorem GR.keep {w wr wr' : World} {ga ha gb hb : Nat} {RA RB : List (List Int)} (h : GR w wr ga ha gb hb RA RB) (k : Bl wr wr') : GR w wr' ga ha gb hb RA RB :=
  ⟨h.a.keep k, h.b.keep k, h.lt, h.bl.trans k⟩
theorem GR.setA {w wr wz w1 : World} {ga ha gb hb : Nat} {RA RB RA' : List (List Int)} (h : GR w wr ga ha gb hb RA RB) (hz : Bl wr wz) (hg : wz.grownBy w1 (some ha)) (hr : RH w.heap.size w1 ga ha RA') :
    GR w w1 ga ha gb hb RA' RB := by
  have a1 := h.a.block
  have b1 := h.b.block
  have l := h.lt
  have g := h.a.ge
  exact ⟨hr, (h.b.keep hz).other hg (h.a.keep hz).block.2 (by omega) (by omega), h.lt, after_set h.bl hz hg (by omega)⟩
theorem GR.setB {w wr wz w1 : World} {ga ha gb hb : Nat} {RA RB RB' : List (List Int)} (h : GR w wr ga ha gb hb RA RB) (hz : Bl wr wz) (hg : wz.grownBy w1 (some hb)) (hr : RH w.heap.size w1 gb hb RB') :
    GR w w1 ga ha gb hb RA RB' := by
  have a1 := h.a.block
  have b1 := h.b.block
  have l := h.lt
  have g := h.a.ge
  exact ⟨(h.a.keep hz).other hg (h.b.keep hz).block.2 (by omega) (by omega), hr, h.lt, after_set h.bl hz hg (by omega)⟩

def Z3 : List (List Int) := List.replicate 3 (zeroL 3)
def foldA (ops : List (Int × List Int)) (k : Nat) : List (List Int) := (ops.take k).foldl stepR Z3
def foldB (ops : List (Int × List Int)) (k : Nat) : List (List Int) := (ops.reverse.take k).foldl stepR Z3
theorem foldA_three (ops : List (Int × List Int)) (k : Nat) : Three (foldA ops k) := three_fold _ _ three_zero
theorem foldB_three (ops : List (Int × List Int)) (k : Nat) : Three (foldB ops k) := three_fold _ _ three_zero
theorem foldA_succ {ops : List (Int × List Int)} {k : Nat} (h : k < ops.length) : foldA ops (k + 1) = setR (foldA ops k) (nthO ops k).1 (nthO ops k).2 := by
  rw [foldA, take_nthO h, List.foldl_append]; rfl
theorem foldB_succ {ops : List (Int × List Int)} {k : Nat} (h : k < ops.length) : foldB ops (k + 1) = setR (foldB ops k) (nthO ops (ops.length - 1 - k)).1 (nthO ops (ops.length - 1 - k)).2 := by
  rw [foldB, take_nthO (by rw [List.length_reverse]; exact h), List.foldl_append, nthO_rev h]; rfl
theorem fold_end (ops : List (Int × List Int)) : foldB ops ops.length = foldA ops ops.length := by
  rw [foldA, foldB, ← List.length_reverse, List.take_length, List.length_reverse, List.take_length, foldR_rev]

theorem sval_small {x : Nat} (hle : x ≤ oneF) : sval x = (uval x : Int) := by
  obtain ⟨_, h2, _, _, h5⟩ := le_one_fin hle
  rw [sval, if_neg h5, h2]
theorem geq_zero {x : Nat} (hx : x < two64) (hn : nanB x = false) (hle : x ≤ oneF) : (FloatKind.f64.format.order x 0 == some .gt || FloatKind.f64.format.order x 0 == some .eq) = true := by
  have e : FloatKind.f64.format.order x 0 = some (compare (sval x) (sval 0)) := order_eq hx (by decide) hn (by decide)
  rw [e, sval_small hle, sval_small (show (0 : Nat) ≤ oneF by decide)]
  have h := uval_le (Nat.zero_le x)
  rcases Nat.lt_or_eq_of_le h with h1 | h1
  · rw [Int.compare_eq_gt.2 (by omega)]; rfl
  · rw [h1, Int.compare_eq_eq.2 rfl]; rfl
theorem leq_one {x : Nat} (hx : x < two64) (hn : nanB x = false) (hle : x ≤ oneF) : (FloatKind.f64.format.order x 4607182418800017408 == some .lt || FloatKind.f64.format.order x 4607182418800017408 == some .eq) = true := by
  have e : FloatKind.f64.format.order x oneF = some (compare (sval x) (sval oneF)) := order_eq hx (by decide) hn (by decide)
  show (FloatKind.f64.format.order x oneF == some .lt || FloatKind.f64.format.order x oneF == some .eq) = true
  rw [e, sval_small hle, sval_small (Nat.le_refl oneF)]
  have h := uval_le hle
  rcases Nat.lt_or_eq_of_le h with h1 | h1
  · rw [Int.compare_eq_lt.2 (by omega)]; rfl
  · rw [h1, Int.compare_eq_eq.2 rfl]; rfl

theorem alive20_ret (w w' : World) (h : Bl w w') : Calls Try.prog 11 #[] w' fun e w2 => e = .returned (.bool true) ∧ Bl w w2 :=
  (alive20_any w').mono fun _ _ ⟨h1, h2⟩ => ⟨h1, h.trans h2⟩

set_option maxHeartbeats 1600000 in
set_option maxRecDepth 100000 in
theorem grows_yes (ad : Option Addr) (n c : Nat) (ops : List (Int × List Int)) (w : World) (ho : OA w ad n ops) (hn : n ≤ 100) :
    Calls Try.prog 7 #[.slice ad n c] w fun e w' => e = .returned (.bool true) ∧ Bl w w' := by
  have HL := Lib.hid ho.len
  go_enter Try.func7, Try.ntmps7
  go_wp2_with fail
  refine (new_yes 3 _ (by decide) (by decide)).mono ?_
  rintro e w1 ⟨ga, rfl, hra, hb1⟩
  go_wp2_with fail
  refine (new_yes 3 _ (by decide) (by decide)).mono ?_
  rintro e w2 ⟨gb, rfl, hrb, hb2⟩
  obtain ⟨ha, hra⟩ := hra.rh (by decide)
  obtain ⟨hb, hrb⟩ := hrb.rh (by decide)
  have G : GR w w2 ga ha gb hb (foldA ops 0) (foldB ops 0) := ⟨hra.keep hb2, hrb.mono hb1.size, Nat.lt_of_lt_of_le hra.lt hrb.ge, hb1.trans hb2⟩
  clear hra hrb hb1 hb2
  go_wp2_with fail
  refine (rzero_yes 3 _ (by decide) (by decide)).mono ?_
  rintro e w3 ⟨vl, rfl, hfl, hb3⟩
  have hfl := hfl.mono G.bl.size
  have G := G.keep hb3
  clear hb3
  go_wp2_with fail
  go_loopw [5, 6] (fun v i wr => ∃ k : Nat, k ≤ n ∧ i = .int .i64 k ∧ GR w wr ga ha gb hb (foldA ops k) (foldB ops k) ∧ FI w.heap.size wr v (allL min (foldA ops k))) (fun _ i _ => n - (intOf i).toNat)
  case atStart => exact ⟨0, Nat.zero_le _, rfl, G, hfl⟩
  case round =>
    clear G hfl
    obtain ⟨k, hk, rfl, G, hfl⟩ := hrel
    by_cases hlt : k < n
    · obtain ⟨bo, off, rfl, hcs⟩ := ho.cells k hlt
      obtain ⟨aj, nj, cj, HC1, HC2, HIJ⟩ := hcs k hlt
      obtain ⟨m, hm⟩ : ∃ m, m = n - 1 - k := ⟨_, rfl⟩
      obtain ⟨am, nm, cm, HD1, HD2, HIM⟩ := hcs m (by omega)
      have HC1 := Lib.hid HC1
      have HC2 := Lib.hid HC2
      have HD1 := Lib.hid HD1
      have HD2 := Lib.hid HD2
      have hc2 := G.bl.cell HC2.out
      have hIj := HIJ.keep G.bl
      have hj1 := hIj.cap
      clear hcs
      by_cases hv : 20 < nj
      · go_wp2_with fail
        refine (alive20_ret w _ G.bl).mono ?_
        rintro e w4 ⟨rfl, hb4⟩
        go_wp2_with fail
        go_ret
        exact ⟨rfl, hb4⟩
      · go_wp2_with fail
        have hc1 := G.bl.cell HC1.out
        obtain ⟨wd, hwd⟩ : ∃ wd, wd = wr.drew := ⟨_, rfl⟩
        have hbd : Bl wr wd := by rw [hwd]; exact (Bl.refl wr).drew
        have G := G.keep hbd
        have hfl := hfl.keep hbd
        clear hbd
        have hc1' := G.bl.cell HC1.out
        have hc2' := G.bl.cell HC2.out
        have hIj := HIJ.keep G.bl
        go_still_tail 11, (by kernel_rfl)
        change wpList _ _ _ _ _ wr.drew
        rw [← hwd]
        clear hwd
        go_wp2_with fail
        refine (set_step _ ga ha nj cj aj (nthO ops k).1 _ (nthO ops k).2 _ G.a ?_ ?_ hIj).mono ?_
        · rw [(foldA_three ops k).len]; decide
        · rw [(foldA_three ops k).len]; decide
        rintro e w4 ⟨rfl, wz, hz, hg, hr⟩
        have hfl := (hfl.keep hz).other hg (G.a.keep hz).block.2
        have G := G.setA hz hg hr
        have HS := Lib.hid (foldA_succ (ops := ops) (k := k) (by rw [HL.out]; exact hlt))
        rw [← HS.out] at G
        clear hr hg hz hIj hc1 hc2 hc1' hc2' hj1
        go_wp2_with fail
        have hd1 := G.bl.cell HD1.out
        have hd2 := G.bl.cell HD2.out
        obtain ⟨wd, hwd⟩ : ∃ wd, wd = w4.drew := ⟨_, rfl⟩
        have hbd : Bl w4 wd := by rw [hwd]; exact (Bl.refl w4).drew
        have G := G.keep hbd
        have hfl := hfl.keep hbd
        clear hbd
        have hd1' := G.bl.cell HD1.out
        have hd2' := G.bl.cell HD2.out
        have hIm := HIM.keep G.bl
        have e4 : m < n := by omega
        have e1 : IntKind.i64.wrap ((n : Int) - 1) = (n : Int) - 1 := IntWalk.i64_in _ (by omega)
        have e2 : IntKind.i64.wrap ((n : Int) - 1 - (k : Int)) = (m : Int) := (IntWalk.i64_in _ (by omega)).trans (by omega)
        have HM := Lib.hid hm
        clear hm
        go_still_tail 19, (by kernel_rfl)
        change wpList _ _ _ _ _ w4.drew
        rw [← hwd]
        have e3 : (n : Int) - 1 - (k : Int) = (m : Int) := by have := HM.out; omega
        clear hwd e1 e2
        go_wp2_with fail
        refine (set_step _ gb hb nm cm am (nthO ops m).1 _ (nthO ops m).2 _ G.b ?_ ?_ hIm).mono ?_
        · rw [(foldB_three ops k).len]; decide
        · rw [(foldB_three ops k).len]; decide
        rintro e w5 ⟨rfl, wz, hz, hg, hr⟩
        have hfl := (hfl.keep hz).other hg (G.b.keep hz).block.2
        have G := G.setB hz hg hr
        have HT := Lib.hid (foldB_succ (ops := ops) (k := k) (by rw [HL.out]; exact hlt))
        have HTL := Lib.hid HL.out
        have G : GR w w5 ga ha gb hb (foldA ops (k + 1)) (foldB ops (k + 1)) := by
          rw [HT.out, HL.out, ← HM.out]; exact G
        clear hr hg hz hIm e3 e4 hd1 hd2 hd1' hd2'
        have T := foldA_three ops (k + 1)
        have HGR := Lib.hid (show leqL (allL min (foldA ops k)) (allL min (foldA ops (k + 1))) = true by rw [HS.out]; exact (foldA_three ops k).grows _ _)
        have HMM := Lib.hid T.min_max
        go_wp2_with fail
        refine (stable_yes _ ga _ _ G.a.rg ?_ ?_).mono ?_
        · rw [T.len]; decide
        · rw [T.len]; decide
        rintro e w6 ⟨vs, rfl, hfs, hb6⟩
        have hfs := hfs.mono G.bl.size
        have G := G.keep hb6
        have hfl := hfl.keep hb6
        obtain ⟨la, ln, lc, rfl, hIl⟩ := hfl.si
        obtain ⟨sa, sn, sc, rfl, hIs⟩ := hfs.si
        clear hb6 hfl
        go_wp2_with fail
        refine (rleq_any la sa ln sn lc sc _ _ _ hIl hIs).mono ?_
        rintro e w7 ⟨rfl, hb7⟩
        rw [HGR.out]
        have G := G.keep hb7
        have hIs := hIs.keep hb7
        have hfs := hfs.keep hb7
        clear hb7 hIl
        go_wp2_with fail
        refine (best_yes _ ga _ _ G.a.rg ?_ ?_).mono ?_
        · rw [T.len]; decide
        · rw [T.len]; decide
        rintro e w8 ⟨vb, rfl, hfb, hb8⟩
        have G := G.keep hb8
        have hIs := hIs.keep hb8
        have hfs := hfs.keep hb8
        obtain ⟨ba, bn, bc, rfl, hIb⟩ := hfb.si
        clear hb8 hfb
        go_wp2_with fail
        refine (rleq_any sa ba sn bn sc bc _ _ _ hIs hIb).mono ?_
        rintro e w9 ⟨rfl, hb9⟩
        rw [HMM.out]
        have G := G.keep hb9
        have hIs := hIs.keep hb9
        have hfs := hfs.keep hb9
        clear hb9 hIb
        go_wp2_with fail
        go_loopw [8] (fun i wr => ∃ q : Nat, q ≤ 3 ∧ i = .int .i64 q ∧ Bl w9 wr) (fun i _ => 3 - (intOf i).toNat)
        case atStart => exact ⟨0, by decide, rfl, Bl.refl _⟩
        case round =>
          obtain ⟨q, hq, rfl, hbq⟩ := hrel
          have G := G.keep hbq
          have hIs := hIs.keep hbq
          have hfs := hfs.keep hbq
          by_cases hqt : q < 3
          · have HQ1 := Lib.hid (T.min_row q hqt)
            have HQ2 := Lib.hid (T.row_max q hqt)
            go_wp2_with fail
            refine (row_yes _ ga q _ _ G.a.rg ?_).mono ?_
            · rw [T.len]; exact hqt
            rintro e x1 ⟨v1, rfl, hf1, hb1⟩
            obtain ⟨a1, n1, c1, rfl, hI1⟩ := hf1.si
            have G := G.keep hb1
            have hbq := hbq.trans hb1
            have hIs := hIs.keep hb1
            clear hf1 hb1
            go_wp2_with fail
            refine (rleq_any sa a1 sn n1 sc c1 _ _ _ hIs hI1).mono ?_
            rintro e x2 ⟨rfl, hb2⟩
            rw [HQ1.out]
            have G := G.keep hb2
            have hbq := hbq.trans hb2
            clear hb2 hI1
            go_wp2_with fail
            refine (row_yes _ ga q _ _ G.a.rg ?_).mono ?_
            · rw [T.len]; exact hqt
            rintro e x3 ⟨v3, rfl, hf3, hb3⟩
            obtain ⟨a3, n3, c3, rfl, hI3⟩ := hf3.si
            have G := G.keep hb3
            have hbq := hbq.trans hb3
            clear hf3 hb3
            go_wp2_with fail
            refine (best_yes _ ga _ _ G.a.rg ?_ ?_).mono ?_
            · rw [T.len]; decide
            · rw [T.len]; decide
            rintro e x4 ⟨v4, rfl, hf4, hb4⟩
            obtain ⟨a4, n4, c4, rfl, hI4⟩ := hf4.si
            have hbq := hbq.trans hb4
            have hI3 := hI3.keep hb4
            clear hf4 hb4
            go_wp2_with fail
            refine (rleq_any a3 a4 n3 n4 c3 c4 _ _ _ hI3 hI4).mono ?_
            rintro e x5 ⟨rfl, hb5⟩
            rw [HQ2.out]
            have hbq := hbq.trans hb5
            clear hb5 hI3 hI4
            go_wp2_with fail
            go_roundw
            case rel => exact ⟨q + 1, by omega, by go_num, hbq⟩
            case measure => simp [intOf]; omega
          · obtain rfl : q = 3 := by omega
            go_wp2_with fail
            go_roundw
            case rel => exact ⟨k + 1, by omega, by go_num, G, hfs⟩
            case measure => simp [intOf]; omega
    · obtain rfl : k = n := by omega
      have T := foldA_three ops k
      have HE := Lib.hid (show foldB ops k = foldA ops k by rw [← HL.out]; exact fold_end ops)
      rw [HE.out] at G
      clear hfl
      go_wp2_with fail
      refine (lag_yes _ ga _ _ G.a.rg ?_ ?_ ?_).mono ?_
      · rw [T.len]; decide
      · rw [T.len]; decide
      · rw [T.minLen, T.maxLen]
      rintro e w4 ⟨x, rfl, hx, hxk, hb4⟩
      have HI := inOne_word hx (by rw [hxk]; exact T.lag)
      have HI := Lib.hid HI
      have G := G.keep hb4
      clear hxk hb4
      go_wp2_with fail
      refine (alive20_any _).mono ?_
      rintro e w5 ⟨rfl, hb5⟩
      have G := G.keep hb5
      clear hb5
      go_wp2_with fail
      refine (rowsPut_any _ ga _ _ G.a.rg ?_ ?_ T.valid).mono ?_
      · rw [T.len]; decide
      · rw [T.len]; decide
      rintro e w6 ⟨s6, rfl, hs6, hb6⟩
      have G := G.keep hb6
      clear hb6
      go_wp2_with fail
      refine (rowsPut_any _ gb _ _ G.b.rg ?_ ?_ T.valid).mono ?_
      · rw [T.len]; decide
      · rw [T.len]; decide
      rintro e w7 ⟨s7, rfl, hs7, hb7⟩
      have G := G.keep hb7
      have hss : (s6.toList == s7.toList) = true := by rw [SB.eq hs6 hs7]; simp
      clear hb7 hs6 hs7
      go_wp2_with fail
      refine (rowsPut_any _ ga _ _ G.a.rg ?_ ?_ T.valid).mono ?_
      · rw [T.len]; decide
      · rw [T.len]; decide
      rintro e w8 ⟨s8, rfl, hs8, hb8⟩
      have G := G.keep hb8
      have hs8z : ((s8.size : Int) == 58) = true := by
        rw [hs8.size, List.length_append, T.putLen]; rfl
      clear hb8 hs8
      rcases HI.out with hn | ⟨hn, hle⟩
      · have f1 : (FloatKind.f64.format.order x x != some .eq) = true := (self_nan hx).trans hn
        clear hn
        go_wp2_with fail
        go_ret
        exact ⟨rfl, G.bl⟩
      · have f1 : (FloatKind.f64.format.order x x != some .eq) = false := (self_nan hx).trans hn
        have HLE := Lib.hid (And.intro hn hle)
        clear hn hle
        have f2 := geq_zero hx HLE.out.1 HLE.out.2
        have f3 := leq_one hx HLE.out.1 HLE.out.2
        go_wp2_with fail
        go_ret
        exact ⟨rfl, G.bl⟩

theorem grows_walk (ad : Option Addr) (n c : Nat) (ops : List (Int × List Int)) (w : World) (ho : OA w ad n ops) :
    Calls Try.prog 7 #[.slice ad n c] w fun e w' => e = .returned (.bool true) ∧ Bl w w' := by
  by_cases hn : n ≤ 100
  · exact grows_yes ad n c ops w ho hn
  · have hcap := ho.cap
    go_enter Try.func7, Try.ntmps7
    go_wp2_with fail
    refine (alive20_any _).mono ?_
    rintro e w5 ⟨rfl, hb5⟩
    go_wp2_with fail
    go_ret
    exact ⟨rfl, hb5⟩
end Go.Proofs.Ytpfpefapdcdkeaa
