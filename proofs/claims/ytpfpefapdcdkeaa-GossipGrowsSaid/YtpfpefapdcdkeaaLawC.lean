/- the walk of VecLattice. By an AI agent. -/
import Derived.Test.YtpfpefapdcdkeaaVec4
import Derived.Deep.DeepCutAuto
namespace Go.Proofs.Ytpfpefapdcdkeaa
open Go.RowKit Go.Shelf

theorem light_any (a b : Option Addr) (n m ca cb : Nat) (w : World) :
    Calls Try.prog 20 #[.slice a n ca, .slice b m cb] w fun e w' => e = .returned (.bool (decide (n ≤ 60) && decide (m ≤ 60))) ∧ w = w' := by
  by_cases h : n ≤ 60
  · by_cases h2 : m ≤ 60
    · go_enter Try.func20, Try.ntmps20
      go_wp2
      go_ret
      exact ⟨ret_bool (by simp [h, h2]; omega), rfl⟩
    · go_enter Try.func20, Try.ntmps20
      go_wp2
      go_ret
      exact ⟨ret_bool (by simp [h2]; omega), rfl⟩
  · go_enter Try.func20, Try.ntmps20
    go_wp2
    go_ret
    exact ⟨ret_bool (by simp), rfl⟩

/-! ### the lattice, number by number -/
theorem each_len (t : Int → Int → Int) {xs ys : List Int} (h : xs.length = ys.length) : (eachL t xs ys).length = xs.length := by
  rw [eachL, if_pos h]; simp; omega
theorem each_nth (t : Int → Int → Int) {xs ys : List Int} (h : xs.length = ys.length) {j : Nat} (hj : j < xs.length) : nth (eachL t xs ys) j = t (nth xs j) (nth ys j) := by
  have h1 := zip_take (t := t) h hj
  have hl : (List.zipWith t xs ys).length = xs.length := by simp; omega
  rw [eachL, if_pos h, nth_eq (by rw [hl]; exact hj), List.getElem_zipWith, nth_eq hj, nth_eq (by omega)]
theorem join_len' {xs ys : List Int} (h : xs.length = ys.length) : (joinL xs ys).length = xs.length := each_len _ h
theorem meet_len' {xs ys : List Int} (h : xs.length = ys.length) : (meetL xs ys).length = xs.length := each_len _ h
theorem join_nth {xs ys : List Int} (h : xs.length = ys.length) {j : Nat} (hj : j < xs.length) : nth (joinL xs ys) j = max (nth xs j) (nth ys j) := each_nth _ h hj
theorem meet_nth {xs ys : List Int} (h : xs.length = ys.length) {j : Nat} (hj : j < xs.length) : nth (meetL xs ys) j = min (nth xs j) (nth ys j) := each_nth _ h hj

theorem leq_refl (xs : List Int) : leqL xs xs = true := (leqL_iff rfl).2 fun _ _ => Int.le_refl _
theorem leq_trans {xs ys zs : List Int} (h1 : xs.length = ys.length) (h2 : ys.length = zs.length) (ha : leqL xs ys = true) (hb : leqL ys zs = true) : leqL xs zs = true :=
  (leqL_iff (h1.trans h2)).2 fun j hj => Int.le_trans ((leqL_iff h1).1 ha j hj) ((leqL_iff h2).1 hb j (by omega))
theorem leq_anti {xs ys : List Int} (h : xs.length = ys.length) (ha : leqL xs ys = true) : leqL ys xs = decide (xs = ys) := by
  rw [Bool.eq_iff_iff, decide_eq_true_eq]
  constructor
  · intro hb
    exact getD_ext h fun j hj => Int.le_antisymm ((leqL_iff h).1 ha j hj) ((leqL_iff h.symm).1 hb j (by omega))
  · rintro rfl; exact leq_refl _
section
variable {xs ys zs : List Int} (h : xs.length = ys.length) (h2 : ys.length = zs.length)
include h
theorem leq_join1 : leqL xs (joinL xs ys) = true := (leqL_iff (join_len' h).symm).2 fun j hj => by rw [join_nth h hj]; omega
theorem leq_join2 : leqL ys (joinL xs ys) = true := (leqL_iff ((join_len' h).trans h).symm).2 fun j hj => by rw [join_nth h (by omega)]; omega
theorem meet_leq1 : leqL (meetL xs ys) xs = true := (leqL_iff (meet_len' h)).2 fun j hj => by rw [meet_len' h] at hj; rw [meet_nth h hj]; omega
theorem meet_leq2 : leqL (meetL xs ys) ys = true := (leqL_iff ((meet_len' h).trans h)).2 fun j hj => by rw [meet_len' h] at hj; rw [meet_nth h hj]; omega
theorem leq_eq_join : leqL xs ys = decide (joinL xs ys = ys) := by
  rw [Bool.eq_iff_iff, decide_eq_true_eq, leqL_iff h]
  constructor
  · intro ha
    refine getD_ext ((join_len' h).trans h) fun j hj => ?_
    rw [join_len' h] at hj
    rw [join_nth h hj]; have := ha j hj; omega
  · intro e j hj
    have := join_nth h hj
    rw [e] at this; omega
theorem join_comm' : decide (joinL xs ys = joinL ys xs) = true := decide_eq_true (getD_ext ((join_len' h).trans (h.trans (join_len' h.symm).symm)) fun j hj => by
  rw [join_len' h] at hj
  rw [join_nth h hj, join_nth h.symm (by omega)]; omega)
include h2
theorem join_least (ha : leqL xs zs = true) (hb : leqL ys zs = true) : leqL (joinL xs ys) zs = true :=
  (leqL_iff ((join_len' h).trans (h.trans h2))).2 fun j hj => by
    rw [join_len' h] at hj
    have h3 := (leqL_iff (h.trans h2)).1 ha j hj
    have h4 := (leqL_iff h2).1 hb j (by omega)
    rw [join_nth h hj]; omega
theorem meet_most (ha : leqL zs xs = true) (hb : leqL zs ys = true) : leqL zs (meetL xs ys) = true :=
  (leqL_iff ((meet_len' h).trans (h.trans h2)).symm).2 fun j hj => by
    have h3 := (leqL_iff (h.trans h2).symm).1 ha j hj
    have h4 := (leqL_iff h2.symm).1 hb j hj
    rw [meet_nth h (by omega)]; omega
theorem join_assoc' : decide (joinL (joinL xs ys) zs = joinL xs (joinL ys zs)) = true := by
  have l1 := join_len' h
  have l2 := join_len' h2
  refine decide_eq_true (getD_ext ?_ fun j hj => ?_)
  · rw [join_len' (by omega), join_len' (xs := xs) (ys := joinL ys zs) (by omega)]; exact l1
  · rw [join_len' (by omega)] at hj
    rw [join_nth (by omega) hj, join_nth h (by omega), join_nth (by omega) (by omega), join_nth h2 (by omega)]
    omega
theorem distrib : decide (meetL xs (joinL ys zs) = joinL (meetL xs ys) (meetL xs zs)) = true := by
  have l1 := meet_len' h
  have l2 := join_len' h2
  have l3 := meet_len' (h.trans h2)
  refine decide_eq_true (getD_ext ?_ fun j hj => ?_)
  · rw [meet_len' (by omega), join_len' (by omega)]; exact l1.symm
  · rw [meet_len' (by omega)] at hj
    rw [meet_nth (by omega) hj, join_nth h2 (by omega), join_nth (by omega) (by omega), meet_nth h (by omega), meet_nth (by omega) (by omega)]
    omega
end

set_option maxHeartbeats 3200000 in
set_option maxRecDepth 100000 in
theorem vecLattice_no (a b c : Option Addr) (n m k ca cb cc : Nat) (w : World) (h : ¬ (n ≤ 60 ∧ m ≤ 60 ∧ n = m ∧ m = k)) :
    Calls Try.prog 5 #[.slice a n ca, .slice b m cb, .slice c k cc] w fun e w' => e = .returned (.bool true) ∧ Bl w w' := by
  by_cases h1 : n ≤ 60 ∧ m ≤ 60
  · have HL := Lib.hid (show (decide (n ≤ 60) && decide (m ≤ 60)) = true by simp [h1])
    by_cases h2 : n = m
    · subst h2
      have q1 : ((n : Int) != (n : Int)) = false := by simp
      have q2 : ((n : Int) != (k : Int)) = true := by simp; omega
      clear h
      go_enter Try.func5, Try.ntmps5
      go_wp2_with fail
      refine (light_any a b n n ca cb _).mono ?_
      rintro e w1 ⟨rfl, rfl⟩
      rw [HL.out]
      go_wp2_with fail
      refine (alive3_any _).mono ?_
      rintro e w1 ⟨rfl, hb1⟩
      go_wp2
      go_ret
      exact ⟨rfl, hb1⟩
    · have q1 : ((n : Int) != (m : Int)) = true := by simp; omega
      clear h h2
      go_enter Try.func5, Try.ntmps5
      go_wp2_with fail
      refine (light_any a b n m ca cb _).mono ?_
      rintro e w1 ⟨rfl, rfl⟩
      rw [HL.out]
      go_wp2_with fail
      refine (alive3_any _).mono ?_
      rintro e w1 ⟨rfl, hb1⟩
      go_wp2
      go_ret
      exact ⟨rfl, hb1⟩
  · have HL := Lib.hid (show (decide (n ≤ 60) && decide (m ≤ 60)) = false by simp; omega)
    clear h h1
    go_enter Try.func5, Try.ntmps5
    go_wp2_with fail
    refine (light_any a b n m ca cb _).mono ?_
    rintro e w1 ⟨rfl, rfl⟩
    rw [HL.out]
    go_wp2_with fail
    refine (alive3_any _).mono ?_
    rintro e w1 ⟨rfl, hb1⟩
    go_wp2
    go_ret
    exact ⟨rfl, hb1⟩

set_option maxHeartbeats 3200000 in
set_option maxRecDepth 100000 in
theorem vecLattice_yes (a b c : Option Addr) (n ca cb cc : Nat) (xs ys zs : List Int) (w : World) (hx : IA w a n xs) (hy : IA w b n ys) (hz : IA w c n zs) (h60 : n ≤ 60) :
    Calls Try.prog 5 #[.slice a n ca, .slice b n cb, .slice c n cc] w fun e w' => e = .returned (.bool true) ∧ Bl w w' := by
  have HL := Lib.hid (show (decide (n ≤ 60) && decide (n ≤ 60)) = true by simp [h60])
  have q1 : ((n : Int) != (n : Int)) = false := by simp
  have H1 := Lib.hid (hx.len.trans hy.len.symm)
  have H2 := Lib.hid (hy.len.trans hz.len.symm)
  go_enter Try.func5, Try.ntmps5
  go_wp2_with fail
  refine (light_any a b n n ca cb _).mono ?_
  rintro e w1 ⟨rfl, rfl⟩
  rw [HL.out]
  go_wp2_with fail
  refine (join_any a b n n ca cb xs ys _ hx hy).mono ?_
  rintro e w1 ⟨v1, rfl, hf1, hb1⟩
  obtain ⟨aj, nj, cj, rfl, hj⟩ := hf1.si
  clear hf1
  go_wp2_with fail
  refine (meet_any a b n n ca cb xs ys _ (hx.keep hb1) (hy.keep hb1)).mono ?_
  rintro e w2 ⟨v2, rfl, hf2, hb2⟩
  obtain ⟨am, nm, cm, rfl, hm⟩ := hf2.si
  clear hf2
  have hb2 := hb1.trans hb2
  have hj := hj.keep ‹Bl w1 w2›
  have hx := hx.keep hb2
  have hy := hy.keep hb2
  have hz := hz.keep hb2
  go_upto_region 4 with fail
  go_cut [67] (fun s67 wx => s67 = .bool false ∧ Bl w2 wx)
  case first =>
    go_wp2_with fail
    refine (leq_any a a n n ca ca xs xs _ (hx) (hx)).mono ?_
    rintro e wn ⟨rfl, rfl⟩
    rw [leq_refl]
    cases hq : leqL xs ys
    · have HQ := Lib.hid hq; clear hq
      go_wp2_with fail
      refine (leq_any a b n n ca cb xs ys _ (hx) (hy)).mono ?_
      rintro e wn ⟨rfl, rfl⟩
      rw [HQ.out]
      go_wp2_with fail
      refine (leq_any a b n n ca cb xs ys _ (hx) (hy)).mono ?_
      rintro e wn ⟨rfl, rfl⟩
      rw [HQ.out]
      go_wp2_with fail
      go_meet
      case rel => exact ⟨rfl, Bl.refl _⟩
    · have HQ := Lib.hid hq; clear hq
      have HB := Lib.hid (leq_anti H1.out HQ.out)
      go_wp2_with fail
      refine (leq_any a b n n ca cb xs ys _ (hx) (hy)).mono ?_
      rintro e wn ⟨rfl, rfl⟩
      rw [HQ.out]
      cases hy2 : leqL ys zs
      · have HY := Lib.hid hy2; clear hy2
        go_wp2_with fail
        refine (leq_any b c n n cb cc ys zs _ (hy) (hz)).mono ?_
        rintro e wn ⟨rfl, rfl⟩
        rw [HY.out]
        go_wp2_with fail
        refine (leq_any a b n n ca cb xs ys _ (hx) (hy)).mono ?_
        rintro e wn ⟨rfl, rfl⟩
        rw [HQ.out]
        go_wp2_with fail
        refine (leq_any b a n n cb ca ys xs _ (hy) (hx)).mono ?_
        rintro e wn ⟨rfl, rfl⟩
        rw [HB.out]
        go_wp2_with fail
        refine (same_any a b n n ca cb xs ys _ hx hy).mono ?_
        rintro e w4 ⟨rfl, hb4⟩
        have q3 : (decide (xs = ys) != decide (xs = ys)) = false := by simp
        go_wp2_with fail
        go_meet
        case rel => exact ⟨rfl, hb4⟩
      · have HY := Lib.hid hy2; clear hy2
        have HAC := Lib.hid (leq_trans H1.out H2.out HQ.out HY.out)
        go_wp2_with fail
        refine (leq_any b c n n cb cc ys zs _ (hy) (hz)).mono ?_
        rintro e wn ⟨rfl, rfl⟩
        rw [HY.out]
        go_wp2_with fail
        refine (leq_any a c n n ca cc xs zs _ (hx) (hz)).mono ?_
        rintro e wn ⟨rfl, rfl⟩
        rw [HAC.out]
        go_wp2_with fail
        refine (leq_any a b n n ca cb xs ys _ (hx) (hy)).mono ?_
        rintro e wn ⟨rfl, rfl⟩
        rw [HQ.out]
        go_wp2_with fail
        refine (leq_any b a n n cb ca ys xs _ (hy) (hx)).mono ?_
        rintro e wn ⟨rfl, rfl⟩
        rw [HB.out]
        go_wp2_with fail
        refine (same_any a b n n ca cb xs ys _ hx hy).mono ?_
        rintro e w4 ⟨rfl, hb4⟩
        have q3 : (decide (xs = ys) != decide (xs = ys)) = false := by simp
        go_wp2_with fail
        go_meet
        case rel => exact ⟨rfl, hb4⟩
  case rest =>
    obtain ⟨rfl, hb3⟩ := hcut
    have hx := hx.keep hb3
    have hy := hy.keep hb3
    have hz := hz.keep hb3
    have hj := hj.keep hb3
    have hm := hm.keep hb3
    have hb3 := hb2.trans hb3
    go_upto_region 6 with fail
    go_cut [121] (fun s121 wx => s121 = .bool false ∧ Bl wc wx)
    case first =>
      go_wp2_with fail
      refine (leq_any a aj n nj ca cj xs (joinL xs ys) _ (hx) (hj)).mono ?_
      rintro e wn ⟨rfl, rfl⟩
      rw [leq_join1 H1.out]
      go_wp2_with fail
      refine (leq_any b aj n nj cb cj ys (joinL xs ys) _ (hy) (hj)).mono ?_
      rintro e wn ⟨rfl, rfl⟩
      rw [leq_join2 H1.out]
      go_wp2_with fail
      refine (leq_any am a nm n cm ca (meetL xs ys) xs _ (hm) (hx)).mono ?_
      rintro e wn ⟨rfl, rfl⟩
      rw [meet_leq1 H1.out]
      go_wp2_with fail
      refine (leq_any am b nm n cm cb (meetL xs ys) ys _ (hm) (hy)).mono ?_
      rintro e wn ⟨rfl, rfl⟩
      rw [meet_leq2 H1.out]
      cases hu2 : leqL xs zs
      · have HU := Lib.hid hu2; clear hu2
        go_wp2_with fail
        refine (leq_any a c n n ca cc xs zs _ (hx) (hz)).mono ?_
        rintro e wn ⟨rfl, rfl⟩
        rw [HU.out]
        cases hz2 : leqL zs xs
        · have HZ := Lib.hid hz2; clear hz2
          go_wp2_with fail
          refine (leq_any c a n n cc ca zs xs _ (hz) (hx)).mono ?_
          rintro e wn ⟨rfl, rfl⟩
          rw [HZ.out]
          go_wp2_with fail
          go_meet
          case rel => exact ⟨rfl, Bl.refl _⟩
        · have HZ := Lib.hid hz2; clear hz2
          go_wp2_with fail
          refine (leq_any c a n n cc ca zs xs _ (hz) (hx)).mono ?_
          rintro e wn ⟨rfl, rfl⟩
          rw [HZ.out]
          cases ht2 : leqL zs ys
          · have HT := Lib.hid ht2; clear ht2
            go_wp2_with fail
            refine (leq_any c b n n cc cb zs ys _ (hz) (hy)).mono ?_
            rintro e wn ⟨rfl, rfl⟩
            rw [HT.out]
            go_wp2_with fail
            go_meet
            case rel => exact ⟨rfl, Bl.refl _⟩
          · have HT := Lib.hid ht2; clear ht2
            have HCM := Lib.hid (meet_most H1.out H2.out HZ.out HT.out)
            go_wp2_with fail
            refine (leq_any c b n n cc cb zs ys _ (hz) (hy)).mono ?_
            rintro e wn ⟨rfl, rfl⟩
            rw [HT.out]
            go_wp2_with fail
            refine (leq_any c am n nm cc cm zs (meetL xs ys) _ (hz) (hm)).mono ?_
            rintro e wn ⟨rfl, rfl⟩
            rw [HCM.out]
            go_wp2_with fail
            go_meet
            case rel => exact ⟨rfl, Bl.refl _⟩
      · have HU := Lib.hid hu2; clear hu2
        go_wp2_with fail
        refine (leq_any a c n n ca cc xs zs _ (hx) (hz)).mono ?_
        rintro e wn ⟨rfl, rfl⟩
        rw [HU.out]
        cases hy2 : leqL ys zs
        · have HY := Lib.hid hy2; clear hy2
          go_wp2_with fail
          refine (leq_any b c n n cb cc ys zs _ (hy) (hz)).mono ?_
          rintro e wn ⟨rfl, rfl⟩
          rw [HY.out]
          cases hz2 : leqL zs xs
          · have HZ := Lib.hid hz2; clear hz2
            go_wp2_with fail
            refine (leq_any c a n n cc ca zs xs _ (hz) (hx)).mono ?_
            rintro e wn ⟨rfl, rfl⟩
            rw [HZ.out]
            go_wp2_with fail
            go_meet
            case rel => exact ⟨rfl, Bl.refl _⟩
          · have HZ := Lib.hid hz2; clear hz2
            go_wp2_with fail
            refine (leq_any c a n n cc ca zs xs _ (hz) (hx)).mono ?_
            rintro e wn ⟨rfl, rfl⟩
            rw [HZ.out]
            cases ht2 : leqL zs ys
            · have HT := Lib.hid ht2; clear ht2
              go_wp2_with fail
              refine (leq_any c b n n cc cb zs ys _ (hz) (hy)).mono ?_
              rintro e wn ⟨rfl, rfl⟩
              rw [HT.out]
              go_wp2_with fail
              go_meet
              case rel => exact ⟨rfl, Bl.refl _⟩
            · have HT := Lib.hid ht2; clear ht2
              have HCM := Lib.hid (meet_most H1.out H2.out HZ.out HT.out)
              go_wp2_with fail
              refine (leq_any c b n n cc cb zs ys _ (hz) (hy)).mono ?_
              rintro e wn ⟨rfl, rfl⟩
              rw [HT.out]
              go_wp2_with fail
              refine (leq_any c am n nm cc cm zs (meetL xs ys) _ (hz) (hm)).mono ?_
              rintro e wn ⟨rfl, rfl⟩
              rw [HCM.out]
              go_wp2_with fail
              go_meet
              case rel => exact ⟨rfl, Bl.refl _⟩
        · have HY := Lib.hid hy2; clear hy2
          have HJC := Lib.hid (join_least H1.out H2.out HU.out HY.out)
          go_wp2_with fail
          refine (leq_any b c n n cb cc ys zs _ (hy) (hz)).mono ?_
          rintro e wn ⟨rfl, rfl⟩
          rw [HY.out]
          go_wp2_with fail
          refine (leq_any aj c nj n cj cc (joinL xs ys) zs _ (hj) (hz)).mono ?_
          rintro e wn ⟨rfl, rfl⟩
          rw [HJC.out]
          cases hz2 : leqL zs xs
          · have HZ := Lib.hid hz2; clear hz2
            go_wp2_with fail
            refine (leq_any c a n n cc ca zs xs _ (hz) (hx)).mono ?_
            rintro e wn ⟨rfl, rfl⟩
            rw [HZ.out]
            go_wp2_with fail
            go_meet
            case rel => exact ⟨rfl, Bl.refl _⟩
          · have HZ := Lib.hid hz2; clear hz2
            go_wp2_with fail
            refine (leq_any c a n n cc ca zs xs _ (hz) (hx)).mono ?_
            rintro e wn ⟨rfl, rfl⟩
            rw [HZ.out]
            cases ht2 : leqL zs ys
            · have HT := Lib.hid ht2; clear ht2
              go_wp2_with fail
              refine (leq_any c b n n cc cb zs ys _ (hz) (hy)).mono ?_
              rintro e wn ⟨rfl, rfl⟩
              rw [HT.out]
              go_wp2_with fail
              go_meet
              case rel => exact ⟨rfl, Bl.refl _⟩
            · have HT := Lib.hid ht2; clear ht2
              have HCM := Lib.hid (meet_most H1.out H2.out HZ.out HT.out)
              go_wp2_with fail
              refine (leq_any c b n n cc cb zs ys _ (hz) (hy)).mono ?_
              rintro e wn ⟨rfl, rfl⟩
              rw [HT.out]
              go_wp2_with fail
              refine (leq_any c am n nm cc cm zs (meetL xs ys) _ (hz) (hm)).mono ?_
              rintro e wn ⟨rfl, rfl⟩
              rw [HCM.out]
              go_wp2_with fail
              go_meet
              case rel => exact ⟨rfl, Bl.refl _⟩
    case rest =>
      obtain ⟨rfl, hb4⟩ := hcut
      have hx := hx.keep hb4
      have hy := hy.keep hb4
      have hz := hz.keep hb4
      have hj := hj.keep hb4
      have hm := hm.keep hb4
      have hb4 := hb3.trans hb4
      go_wp2_with fail
      refine (alive3_any _).mono ?_
      rintro e w5 ⟨rfl, hb5⟩
      have hx := hx.keep hb5
      have hy := hy.keep hb5
      have hz := hz.keep hb5
      have hj := hj.keep hb5
      have hm := hm.keep hb5
      have hb5 := hb4.trans hb5
      go_wp2_with fail
      refine (join_any aj c nj n cj cc (joinL xs ys) zs _ hj hz).mono ?_
      rintro e w6 ⟨v6, rfl, hf6, hb6⟩
      obtain ⟨a6, n6, c6, rfl, e1⟩ := hf6.si
      clear hf6
      have hx := hx.keep hb6
      have hy := hy.keep hb6
      have hz := hz.keep hb6
      have hj := hj.keep hb6
      have hm := hm.keep hb6
      have hb6 := hb5.trans hb6
      go_wp2_with fail
      refine (join_any b c n n cb cc ys zs _ hy hz).mono ?_
      rintro e w7 ⟨v7, rfl, hf7, hb7⟩
      obtain ⟨a7, n7, c7, rfl, e2⟩ := hf7.si
      clear hf7
      have hx := hx.keep hb7
      have hy := hy.keep hb7
      have hz := hz.keep hb7
      have hj := hj.keep hb7
      have hm := hm.keep hb7
      have e1 := e1.keep hb7
      have hb7 := hb6.trans hb7
      go_wp2_with fail
      refine (join_any a a7 n n7 ca c7 xs (joinL ys zs) _ hx e2).mono ?_
      rintro e w8 ⟨v8, rfl, hf8, hb8⟩
      obtain ⟨a8, n8, c8, rfl, e3⟩ := hf8.si
      clear hf8
      have hx := hx.keep hb8
      have hy := hy.keep hb8
      have hz := hz.keep hb8
      have hj := hj.keep hb8
      have hm := hm.keep hb8
      have e1 := e1.keep hb8
      have e2 := e2.keep hb8
      have hb8 := hb7.trans hb8
      go_wp2_with fail
      refine (same_any a6 a8 n6 n8 c6 c8 (joinL (joinL xs ys) zs) (joinL xs (joinL ys zs)) _ e1 e3).mono ?_
      rintro e w9 ⟨rfl, hb9⟩
      rw [join_assoc' H1.out H2.out]
      have hx := hx.keep hb9
      have hy := hy.keep hb9
      have hz := hz.keep hb9
      have hj := hj.keep hb9
      have hm := hm.keep hb9
      have e1 := e1.keep hb9
      have e2 := e2.keep hb9
      have e3 := e3.keep hb9
      have hb9 := hb8.trans hb9
      go_wp2_with fail
      refine (join_any b c n n cb cc ys zs _ hy hz).mono ?_
      rintro e w10 ⟨v10, rfl, hf10, hb10⟩
      obtain ⟨a10, n10, c10, rfl, e4⟩ := hf10.si
      clear hf10
      have hx := hx.keep hb10
      have hy := hy.keep hb10
      have hz := hz.keep hb10
      have hj := hj.keep hb10
      have hm := hm.keep hb10
      have e1 := e1.keep hb10
      have e2 := e2.keep hb10
      have e3 := e3.keep hb10
      have hb10 := hb9.trans hb10
      go_wp2_with fail
      refine (meet_any a a10 n n10 ca c10 xs (joinL ys zs) _ hx e4).mono ?_
      rintro e w11 ⟨v11, rfl, hf11, hb11⟩
      obtain ⟨a11, n11, c11, rfl, e5⟩ := hf11.si
      clear hf11
      have hx := hx.keep hb11
      have hy := hy.keep hb11
      have hz := hz.keep hb11
      have hj := hj.keep hb11
      have hm := hm.keep hb11
      have e1 := e1.keep hb11
      have e2 := e2.keep hb11
      have e3 := e3.keep hb11
      have e4 := e4.keep hb11
      have hb11 := hb10.trans hb11
      go_wp2_with fail
      refine (meet_any a c n n ca cc xs zs _ hx hz).mono ?_
      rintro e w12 ⟨v12, rfl, hf12, hb12⟩
      obtain ⟨a12, n12, c12, rfl, e6⟩ := hf12.si
      clear hf12
      have hx := hx.keep hb12
      have hy := hy.keep hb12
      have hz := hz.keep hb12
      have hj := hj.keep hb12
      have hm := hm.keep hb12
      have e1 := e1.keep hb12
      have e2 := e2.keep hb12
      have e3 := e3.keep hb12
      have e4 := e4.keep hb12
      have e5 := e5.keep hb12
      have hb12 := hb11.trans hb12
      go_wp2_with fail
      refine (join_any am a12 nm n12 cm c12 (meetL xs ys) (meetL xs zs) _ hm e6).mono ?_
      rintro e w13 ⟨v13, rfl, hf13, hb13⟩
      obtain ⟨a13, n13, c13, rfl, e7⟩ := hf13.si
      clear hf13
      have hx := hx.keep hb13
      have hy := hy.keep hb13
      have hz := hz.keep hb13
      have hj := hj.keep hb13
      have hm := hm.keep hb13
      have e1 := e1.keep hb13
      have e2 := e2.keep hb13
      have e3 := e3.keep hb13
      have e4 := e4.keep hb13
      have e5 := e5.keep hb13
      have e6 := e6.keep hb13
      have hb13 := hb12.trans hb13
      go_wp2_with fail
      refine (same_any a11 a13 n11 n13 c11 c13 (meetL xs (joinL ys zs)) (joinL (meetL xs ys) (meetL xs zs)) _ e5 e7).mono ?_
      rintro e w14 ⟨rfl, hb14⟩
      rw [distrib H1.out H2.out]
      have hx := hx.keep hb14
      have hy := hy.keep hb14
      have hz := hz.keep hb14
      have hj := hj.keep hb14
      have hm := hm.keep hb14
      have e1 := e1.keep hb14
      have e2 := e2.keep hb14
      have e3 := e3.keep hb14
      have e4 := e4.keep hb14
      have e5 := e5.keep hb14
      have e6 := e6.keep hb14
      have e7 := e7.keep hb14
      have hb14 := hb13.trans hb14
      go_wp2_with fail
      refine (join_any b a n n cb ca ys xs _ hy hx).mono ?_
      rintro e w15 ⟨v15, rfl, hf15, hb15⟩
      obtain ⟨a15, n15, c15, rfl, e8⟩ := hf15.si
      clear hf15
      have hx := hx.keep hb15
      have hy := hy.keep hb15
      have hz := hz.keep hb15
      have hj := hj.keep hb15
      have hm := hm.keep hb15
      have e1 := e1.keep hb15
      have e2 := e2.keep hb15
      have e3 := e3.keep hb15
      have e4 := e4.keep hb15
      have e5 := e5.keep hb15
      have e6 := e6.keep hb15
      have e7 := e7.keep hb15
      have hb15 := hb14.trans hb15
      go_wp2_with fail
      refine (same_any aj a15 nj n15 cj c15 (joinL xs ys) (joinL ys xs) _ hj e8).mono ?_
      rintro e w16 ⟨rfl, hb16⟩
      rw [join_comm' H1.out]
      have hx := hx.keep hb16
      have hy := hy.keep hb16
      have hz := hz.keep hb16
      have hj := hj.keep hb16
      have hm := hm.keep hb16
      have e1 := e1.keep hb16
      have e2 := e2.keep hb16
      have e3 := e3.keep hb16
      have e4 := e4.keep hb16
      have e5 := e5.keep hb16
      have e6 := e6.keep hb16
      have e7 := e7.keep hb16
      have e8 := e8.keep hb16
      have hb16 := hb15.trans hb16
      go_wp2_with fail
      refine (leq_any a b n n ca cb xs ys _ hx hy).mono ?_
      rintro e wn ⟨rfl, rfl⟩
      rw [leq_eq_join H1.out]
      go_wp2_with fail
      refine (same_any aj b nj n cj cb (joinL xs ys) ys _ hj hy).mono ?_
      rintro e wz ⟨rfl, hbz⟩
      have q9 : (decide (joinL xs ys = ys) == decide (joinL xs ys = ys)) = true := by simp
      go_wp2_with fail
      go_ret
      exact ⟨rfl, hb16.trans hbz⟩

theorem vecLattice_walk (a : Option Addr) (n ca : Nat) (xs : List Int) (b : Option Addr) (m cb : Nat) (ys : List Int) (c : Option Addr) (k cc : Nat) (zs : List Int) (w : World) (hx : IA w a n xs) (hy : IA w b m ys) (hz : IA w c k zs) :
    Calls Try.prog 5 #[.slice a n ca, .slice b m cb, .slice c k cc] w fun e w' => e = .returned (.bool true) ∧ Bl w w' := by
  by_cases h : n ≤ 60 ∧ m ≤ 60 ∧ n = m ∧ m = k
  · obtain ⟨h1, _, rfl, rfl⟩ := h
    exact vecLattice_yes a b c n ca cb cc xs ys zs w hx hy hz h1
  · exact vecLattice_no a b c n m k ca cb cc w h
end Go.Proofs.Ytpfpefapdcdkeaa
