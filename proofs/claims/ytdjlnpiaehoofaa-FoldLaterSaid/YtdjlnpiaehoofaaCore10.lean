import Derived.Test.YtdjlnpiaehoofaaCore9
import Derived.Test.YtdjlnpiaehoofaaCore3
import Derived.Test.YtdjlnpiaehoofaaCore1
import Derived.Laws.AppendOwnNone
import Derived.Below
import Derived.Test.YtdjlnpiaehoofaaCore4
import Derived.Deep.Onto

/- slices.stableCmpFunc, SortStableFunc over versions. By an AI agent. -/
section
set_option linter.unusedVariables false
set_option linter.unusedSimpArgs false
namespace Go.Proofs.Ytdjlnpiaehoofaa
open Go.RowKit

theorem bk_nil (s : Nat) : bk leC s [] = [] := by rw [bk_small (Nat.zero_le _)]; rfl
theorem bk_append {s : Nat} (hs : 0 < s) : ∀ (q : Nat) (A B : List VC), A.length = q * s → bk leC s (A ++ B) = bk leC s A ++ bk leC s B
  | 0, A, B, h => by
    obtain rfl : A = [] := List.eq_nil_of_length_eq_zero (by omega)
    rw [bk_nil]; rfl
  | q + 1, A, B, h => by
    have hl : A.length = q * s + s := by rw [h, Nat.succ_mul]
    rw [bk_step hs (l := A ++ B) (by rw [List.length_append]; omega), bk_step hs (l := A) (by omega), List.take_append_of_le_length (by omega), List.drop_append_of_le_length (by omega), bk_append hs q (A.drop s) B (by rw [List.length_drop]; omega), List.append_assoc]
theorem bk_lenC {s : Nat} (hs : 0 < s) (l : List VC) : (bk leC s l).length = l.length := bk_len hs _ l (Nat.le_refl _)
/-- one block more is sorted -/
theorem bk_take {s q a : Nat} (hs : 0 < s) {X : List VC} (ha : a = q * s) (h : a + s ≤ X.length) : bk leC s (X.take (a + s)) = bk leC s (X.take a) ++ srt leC ((X.drop a).take s) := by
  rw [List.take_add, bk_append hs q (X.take a) _ (by rw [List.length_take, ← ha]; omega), bk_small (l := (X.drop a).take s) (by rw [List.length_take]; omega)]
theorem bk_split {s q a : Nat} (hs : 0 < s) {X : List VC} (ha : a = q * s) (h : a ≤ X.length) : bk leC s X = bk leC s (X.take a) ++ bk leC s (X.drop a) := by
  have := bk_append hs q (X.take a) (X.drop a) (by rw [List.length_take, ← ha]; omega)
  rwa [List.take_append_drop] at this
set_option maxHeartbeats 3200000 in
set_option maxRecDepth 100000 in
theorem stable_any (w W : World) (g n ca : Nat) (X : List VC) (hX : X.length = n) (hn1 : n ≤ 100000) (hr : RW w W g X) :
    Calls Try.prog 51 #[.slice (some ⟨g, 0, none⟩) n ca, .int .i64 n, .func (.func 36) #[] #[]] W fun e W' => e = .returned (.tuple #[]) ∧ RW w W' g (srt leC X) := by
  have HR := Lib.hid hr
  have HX := Lib.hid hX
  clear hr hX
  go_enter Try.func51, Try.ntmps51
  go_wp2_with fail
  go_loopw [7, 8] (fun av bv wr => ∃ q a b : Nat, a = q * 20 ∧ b = a + 20 ∧ a ≤ n ∧ av = .int .i64 (a : Int) ∧ bv = .int .i64 (b : Int) ∧ RW w wr g (bk leC 20 (X.take a) ++ X.drop a)) (fun _ bv _ => n + 20 - (intOf bv).toNat)
  case atStart => exact ⟨0, 0, 20, rfl, rfl, Nat.zero_le _, rfl, rfl, by rw [List.take_zero, bk_nil]; exact HR.out⟩
  case round =>
    clear HR
    obtain ⟨q, a, b, hq, hb, han, rfl, rfl, hrow⟩ := hrel
    have HROW := Lib.hid hrow
    have HQ := Lib.hid hq
    have HB := Lib.hid hb
    have b1 : a ≤ 1000000 := by omega
    have b2 : b ≤ 1000000 := by omega
    clear hrow hq hb
    have lP : (bk leC 20 (X.take a)).length = a := by rw [bk_lenC (by decide), List.length_take, HX.out]; omega
    have HLP := Lib.hid lP
    clear lP
    by_cases hle : b ≤ n
    · have q0 : decide ((b : Int) ≤ (n : Int)) = true := decide_eq_true (by omega)
      have q0n : decide (b ≤ n) = true := decide_eq_true hle
      have H := Lib.hid (isort_any w wr g n ca (bk leC 20 (X.take a)) ((X.drop a).take 20) (X.drop b) a b HLP.out (by rw [List.length_take, List.length_drop, HX.out]; have := HB.out; omega) (by rw [HLP.out, List.length_take, List.length_drop, List.length_drop, HX.out]; have := HB.out; omega) (by omega) (by rw [HB.out, ← List.drop_drop, List.take_append_drop]; exact HROW.out))
      have HE := Lib.hid (show bk leC 20 (X.take a) ++ (srt leC ((X.drop a).take 20) ++ X.drop b) = bk leC 20 (X.take b) ++ X.drop b by rw [HB.out, bk_take (q := q) (by decide) HQ.out (by rw [HX.out]; have := HB.out; omega), List.append_assoc])
      rw [HE.out] at H
      obtain ⟨c, hc⟩ : ∃ c, b + 20 = c := ⟨_, rfl⟩
      have s1 : (b : Int) + 20 = (c : Int) := by omega
      have HC := Lib.hid hc
      have b3 : c ≤ 1000000 := by omega
      clear hc
      go_wp2_with fail
      refine H.out.mono ?_
      rintro e W2 ⟨rfl, h2⟩
      have H2 := Lib.hid h2
      clear h2
      go_wp2_with fail
      go_roundw
      case rel => exact ⟨q + 1, b, c, by have := HQ.out; have := HB.out; omega, HC.out.symm, hle, rfl, rfl, H2.out⟩
      case measure => have := HC.out; simp [intOf]; omega
    · have q0 : decide ((b : Int) ≤ (n : Int)) = false := decide_eq_false (by omega)
      have q0n : decide (b ≤ n) = false := decide_eq_false hle
      have H := Lib.hid (isort_any w wr g n ca (bk leC 20 (X.take a)) (X.drop a) [] a n HLP.out (by rw [List.length_drop, HX.out]; omega) (by rw [HLP.out, List.length_drop, HX.out]; simp; omega) (by omega) (by rw [List.append_nil]; exact HROW.out))
      have HE := Lib.hid (show bk leC 20 (X.take a) ++ (srt leC (X.drop a) ++ []) = bk leC 20 X by rw [List.append_nil, bk_split (X := X) (q := q) (by decide) HQ.out (by rw [HX.out]; exact han), bk_small (l := X.drop a) (by rw [List.length_drop, HX.out]; have := HB.out; omega)])
      rw [HE.out] at H
      clear HROW HLP
      go_wp2_with fail
      refine H.out.mono ?_
      rintro e W2 ⟨rfl, h2⟩
      have H2 := Lib.hid h2
      clear h2 H HE
      go_wp2_with fail
      go_loopw [6] (fun sv wr => ∃ s : Nat, 20 ≤ s ∧ s ≤ 200000 ∧ sv = .int .i64 (s : Int) ∧ RW w wr g (bk leC s X)) (fun sv _ => n - (intOf sv).toNat)
      case atStart => exact ⟨20, Nat.le_refl _, by decide, rfl, H2.out⟩
      case round =>
        clear H2
        obtain ⟨s, hs1, hs2, rfl, hrow⟩ := hrel
        have HROW := Lib.hid hrow
        clear hrow
        by_cases hlt : s < n
        · have q1 : decide ((s : Int) < (n : Int)) = true := decide_eq_true (by omega)
          have q1n : decide (s < n) = true := decide_eq_true hlt
          obtain ⟨d, hd⟩ : ∃ d, 2 * s = d := ⟨_, rfl⟩
          have s2 : 2 * (s : Int) = (d : Int) := by omega
          have HD := Lib.hid hd
          have b3 : d ≤ 400000 := by omega
          have hs0 : 0 < s := by omega
          have hd0 : 0 < d := by omega
          clear hd
          go_wp2_with fail
          go_loopw [7, 8] (fun av bv wr => ∃ q a b : Nat, a = q * d ∧ b = a + d ∧ a ≤ n ∧ av = .int .i64 (a : Int) ∧ bv = .int .i64 (b : Int) ∧ RW w wr g (bk leC d (X.take a) ++ bk leC s (X.drop a))) (fun _ bv _ => n + d - (intOf bv).toNat)
          case atStart => exact ⟨0, 0, d, by omega, by omega, Nat.zero_le _, rfl, rfl, by rw [List.take_zero, bk_nil]; exact HROW.out⟩
          case round =>
            clear HROW
            obtain ⟨q', a', b', hq, hb, han', rfl, rfl, hrow⟩ := hrel
            have HROW := Lib.hid hrow
            have HQ' := Lib.hid hq
            have HB' := Lib.hid hb
            have b4 : a' ≤ 1000000 := by omega
            have b5 : b' ≤ 1000000 := by omega
            clear hrow hq hb
            have lP : (bk leC d (X.take a')).length = a' := by rw [bk_lenC hd0, List.length_take, HX.out]; omega
            have HLP := Lib.hid lP
            clear lP
            obtain ⟨m, hm⟩ : ∃ m, a' + s = m := ⟨_, rfl⟩
            have s3 : (a' : Int) + (s : Int) = (m : Int) := by omega
            have HM := Lib.hid hm
            have b6 : m ≤ 1000000 := by omega
            clear hm
            by_cases hle' : b' ≤ n
            · have q2 : decide ((b' : Int) ≤ (n : Int)) = true := decide_eq_true (by omega)
              have q2n : decide (b' ≤ n) = true := decide_eq_true hle'
              have eB : bk leC s (X.drop a') = srt leC ((X.drop a').take s) ++ (srt leC (((X.drop a').drop s).take s) ++ bk leC s (X.drop b')) := by
                rw [bk_step hs0 (l := X.drop a') (by rw [List.length_drop, HX.out]; have := HB'.out; have := HD.out; omega), bk_step hs0 (l := (X.drop a').drop s) (by rw [List.length_drop, List.length_drop, HX.out]; have := HB'.out; have := HD.out; omega), List.drop_drop, List.drop_drop, show a' + s + s = b' by have := HB'.out; have := HD.out; omega]
              have H := Lib.hid (symM_all w g n ca (by omega) (n + n) wr (bk leC d (X.take a')) (srt leC ((X.drop a').take s)) (srt leC (((X.drop a').drop s).take s)) (bk leC s (X.drop b')) a' m b' HLP.out (by rw [srt_len, List.length_take, List.length_drop, HX.out]; have := HB'.out; have := HD.out; have := HM.out; omega) (by rw [srt_len, List.length_take, List.length_drop, List.length_drop, HX.out]; have := HB'.out; have := HD.out; have := HM.out; omega) (by rw [bk_lenC hs0, List.length_drop, HX.out]; omega) (by rw [srt_len, List.length_take, List.length_drop, HX.out]; have := HB'.out; have := HD.out; omega) (by rw [srt_len, List.length_take, List.length_drop, List.length_drop, HX.out]; have := HB'.out; have := HD.out; omega) (by rw [srt_len, srt_len, List.length_take, List.length_take, List.length_drop, List.length_drop, HX.out]; omega) (srt_sorted leC_pre _) (srt_sorted leC_pre _) (by rw [← eB]; exact HROW.out))
              have HE := Lib.hid (show bk leC d (X.take a') ++ (mrg leC (srt leC ((X.drop a').take s)) (srt leC (((X.drop a').drop s).take s)) ++ bk leC s (X.drop b')) = bk leC d (X.take b') ++ bk leC s (X.drop b') by rw [bk_two leC_pre, HD.out, HB'.out, bk_take (q := q') hd0 HQ'.out (by rw [HX.out]; have := HB'.out; omega), List.append_assoc])
              rw [HE.out] at H
              obtain ⟨c, hc⟩ : ∃ c, b' + d = c := ⟨_, rfl⟩
              have s4 : (b' : Int) + (d : Int) = (c : Int) := by omega
              have HC := Lib.hid hc
              have b7 : c ≤ 1000000 := by omega
              clear hc
              clear eB HROW
              go_wp2_with fail
              refine H.out.mono ?_
              rintro e W2 ⟨rfl, h2⟩
              have H2 := Lib.hid h2
              clear h2
              go_wp2_with fail
              go_roundw
              case rel => exact ⟨q' + 1, b', c, by rw [Nat.succ_mul, ← HQ'.out, HB'.out], HC.out.symm, hle', rfl, rfl, H2.out⟩
              case measure => have := HC.out; simp [intOf]; omega
            · have q2 : decide ((b' : Int) ≤ (n : Int)) = false := decide_eq_false (by omega)
              have q2n : decide (b' ≤ n) = false := decide_eq_false hle'
              have eX := Lib.hid (show bk leC d X = bk leC d (X.take a') ++ srt leC (X.drop a') by rw [bk_split (X := X) (q := q') hd0 HQ'.out (by rw [HX.out]; exact han'), bk_small (l := X.drop a') (by rw [List.length_drop, HX.out]; have := HB'.out; omega)])
              have s4 : (s : Int) * 2 = (d : Int) := by omega
              by_cases hmn : m < n
              · have q3 : decide ((m : Int) < (n : Int)) = true := decide_eq_true (by omega)
                have q3n : decide (m < n) = true := decide_eq_true hmn
                have eB : bk leC s (X.drop a') = srt leC ((X.drop a').take s) ++ (srt leC ((X.drop a').drop s) ++ []) := by
                  rw [bk_step hs0 (l := X.drop a') (by rw [List.length_drop, HX.out]; have := HM.out; omega), bk_small (l := (X.drop a').drop s) (by rw [List.length_drop, List.length_drop, HX.out]; have := HB'.out; have := HD.out; omega), List.append_nil]
                have H := Lib.hid (symM_all w g n ca (by omega) (n + n) wr (bk leC d (X.take a')) (srt leC ((X.drop a').take s)) (srt leC ((X.drop a').drop s)) [] a' m n HLP.out (by rw [srt_len, List.length_take, List.length_drop, HX.out]; have := HM.out; omega) (by rw [srt_len, List.length_drop, List.length_drop, HX.out]; have := HM.out; omega) rfl (by rw [srt_len, List.length_take, List.length_drop, HX.out]; have := HM.out; omega) (by rw [srt_len, List.length_drop, List.length_drop, HX.out]; have := HM.out; omega) (by simp only [srt_len, List.length_take, List.length_drop, HX.out]; omega) (srt_sorted leC_pre _) (srt_sorted leC_pre _) (by rw [← eB]; exact HROW.out))
                have HE := Lib.hid (show bk leC d (X.take a') ++ (mrg leC (srt leC ((X.drop a').take s)) (srt leC ((X.drop a').drop s)) ++ []) = bk leC d X by rw [eX.out, List.append_nil, ← srt_append leC_pre, List.take_append_drop])
                rw [HE.out] at H
                clear eB HROW
                go_wp2_with fail
                refine H.out.mono ?_
                rintro e W2 ⟨rfl, h2⟩
                have H2 := Lib.hid h2
                clear h2
                go_wp2_with fail
                go_roundw
                case rel => exact ⟨d, by omega, by have := HD.out; omega, by go_num, H2.out⟩
                case measure => have := HD.out; simp [intOf]; omega
              · have q3 : decide ((m : Int) < (n : Int)) = false := decide_eq_false (by omega)
                have q3n : decide (m < n) = false := decide_eq_false hmn
                have H2 := Lib.hid (show RW w wr g (bk leC d X) by
                  have := HROW.out
                  rw [bk_small (l := X.drop a') (by rw [List.length_drop, HX.out]; have := HM.out; omega)] at this
                  rw [eX.out]; exact this)
                clear HROW
                go_wp2_with fail
                go_roundw
                case rel => exact ⟨d, by omega, by have := HD.out; omega, by go_num, H2.out⟩
                case measure => have := HD.out; simp [intOf]; omega
        · have q1 : decide ((s : Int) < (n : Int)) = false := decide_eq_false (by omega)
          have q1n : decide (s < n) = false := decide_eq_false hlt
          have H2 := Lib.hid (show RW w _ g (srt leC X) by rw [← bk_small (le := leC) (s := s) (by rw [HX.out]; omega)]; exact HROW.out)
          clear HROW
          go_wp2_with fail
          go_end0
          exact ⟨rfl, H2.out⟩
end Go.Proofs.Ytdjlnpiaehoofaa
end

/- versions in order, each stamp once: plain laws. By an AI agent. -/
section
set_option linter.unusedVariables false
set_option linter.unusedSimpArgs false
namespace Go.Proofs.Ytdjlnpiaehoofaa
open Go.RowKit

section
variable {α : Type}
/-- what is left behind p where neighbours that are alike are struck -/
def cptGo (eq : α → α → Bool) : α → List α → List α
  | _, [] => []
  | p, y :: l => if eq y p then cptGo eq y l else y :: cptGo eq y l
def cpt (eq : α → α → Bool) : List α → List α
  | [] => []
  | x :: l => x :: cptGo eq x l
theorem cptGo_sub (eq : α → α → Bool) : ∀ (l : List α) (p : α), (cptGo eq p l).Sublist l
  | [], p => List.Sublist.refl _
  | y :: l, p => by
    unfold cptGo
    split
    · exact (cptGo_sub eq l y).cons _
    · exact (cptGo_sub eq l y).cons_cons _
theorem cpt_sub (eq : α → α → Bool) (l : List α) : (cpt eq l).Sublist l := by
  cases l with
  | nil => exact List.Sublist.refl _
  | cons x l => exact (cptGo_sub eq l x).cons_cons _
end
def eqV (a b : VerL) : Bool := decide (orderL a b = 0)
theorem eqV_iff {a b : VerL} : eqV a b = true ↔ AlV a b := by unfold eqV; rw [decide_eq_true_iff, orderL_zero]
theorem cptGo_strict : ∀ (l : List VerL) (p : VerL), Srt leV (p :: l) → (p :: cptGo eqV p l).Pairwise LtV
  | [], p, _ => List.pairwise_singleton _ _
  | y :: l, p, h => by
    obtain ⟨h1, h2⟩ := List.pairwise_cons.1 h
    have ih := cptGo_strict l y h2
    obtain ⟨i1, i2⟩ := List.pairwise_cons.1 ih
    unfold cptGo
    cases e : eqV y p with
    | true =>
      rw [if_pos rfl]
      have ha := eqV_iff.1 e
      exact List.pairwise_cons.2 ⟨fun z hz => ha.symm.lt (i1 z hz), i2⟩
    | false =>
      rw [if_neg (by decide)]
      have hl := leV_iff.1 (h1 y (by simp))
      have hy : LtV p y := by
        rcases ltV_total p y with q | q | q
        · exact q
        · rw [eqV_iff.2 q.symm] at e; cases e
        · exact absurd q hl
      refine List.pairwise_cons.2 ⟨fun z hz => ?_, ih⟩
      rcases List.mem_cons.1 hz with q | q
      · subst q; exact hy
      · exact hy.trans (i1 z q)
theorem cptGo_cover : ∀ (l : List VerL) (p v : VerL), v ∈ p :: l → ∃ o ∈ p :: cptGo eqV p l, AlV o v
  | [], p, v, h => ⟨p, by simp, by rw [List.mem_singleton.1 h]; exact AlV.refl _⟩
  | y :: l, p, v, h => by
    unfold cptGo
    rcases List.mem_cons.1 h with q | q
    · subst q
      refine ⟨v, ?_, AlV.refl _⟩
      split <;> simp
    · obtain ⟨o, ho, ha⟩ := cptGo_cover l y v q
      cases e : eqV y p with
      | true =>
        rw [if_pos rfl]
        rcases List.mem_cons.1 ho with r | r
        · subst r
          exact ⟨p, by simp, (eqV_iff.1 e).symm.trans ha⟩
        · exact ⟨o, by simp [r], ha⟩
      | false =>
        rw [if_neg (by decide)]
        exact ⟨o, by simp [ho], ha⟩
/-- versions by their stamps, each stamp once -/
def orderOf (l : List VerL) : List VerL := cpt eqV (srt leV l)
theorem order_strict (l : List VerL) : (orderOf l).Pairwise LtV := by
  unfold orderOf
  have h := srt_sorted leV_pre l
  cases e : srt leV l with
  | nil => exact List.Pairwise.nil
  | cons p m => rw [e] at h; exact cptGo_strict m p h
theorem order_mem {l : List VerL} {o : VerL} (h : o ∈ orderOf l) : o ∈ l := (srt_perm l).mem_iff.1 ((cpt_sub eqV _).subset h)
theorem order_len (l : List VerL) : (orderOf l).length ≤ l.length := by
  rw [← srt_len (le := leV) l]; exact (cpt_sub eqV _).length_le
theorem order_cover {l : List VerL} {v : VerL} (h : v ∈ l) : ∃ o ∈ orderOf l, AlV o v := by
  unfold orderOf
  have hm := (srt_perm (le := leV) l).mem_iff.2 h
  cases e : srt leV l with
  | nil => rw [e] at hm; cases hm
  | cons p m => rw [e] at hm; exact cptGo_cover m p v hm
/-- two strict lists of the same stamps stand place by place -/
theorem strict_same : ∀ (xs ys : List VerL), xs.Pairwise LtV → ys.Pairwise LtV → (∀ x ∈ xs, ∃ y ∈ ys, AlV x y) → (∀ y ∈ ys, ∃ x ∈ xs, AlV x y) → xs.length = ys.length ∧ ∀ j (h : j < xs.length) (k : j < ys.length), AlV xs[j] ys[j]
  | [], [], _, _, _, _ => ⟨rfl, fun j h => by simp at h⟩
  | [], y :: ys, _, _, _, h => by obtain ⟨x, hx, _⟩ := h y (by simp); cases hx
  | x :: xs, [], _, _, h, _ => by obtain ⟨y, hy, _⟩ := h x (by simp); cases hy
  | x :: xs, y :: ys, h1, h2, h3, h4 => by
    obtain ⟨p1, p2⟩ := List.pairwise_cons.1 h1
    obtain ⟨q1, q2⟩ := List.pairwise_cons.1 h2
    have hh : AlV x y := by
      obtain ⟨a, ha, e1⟩ := h3 x (by simp)
      obtain ⟨b, hb, e2⟩ := h4 y (by simp)
      rcases List.mem_cons.1 ha with r | r
      · subst r; exact e1
      · rcases List.mem_cons.1 hb with s | s
        · subst s; exact e2
        · have l1 : LtV y x := (q1 a r).al e1.symm
          have l2 : LtV x y := (p1 b s).al e2
          exact absurd (l1.trans l2) LtV.irrefl
    have ih := strict_same xs ys p2 q2 (fun u hu => ?_) (fun u hu => ?_)
    · refine ⟨by simp [ih.1], fun j h k => ?_⟩
      cases j with
      | zero => exact hh
      | succ j => exact ih.2 j (by simpa using h) (by simpa using k)
    · obtain ⟨a, ha, e⟩ := h3 u (by simp [hu])
      rcases List.mem_cons.1 ha with r | r
      · subst r
        exact absurd ((p1 u hu).al (e.trans hh.symm)) LtV.irrefl
      · exact ⟨a, r, e⟩
    · obtain ⟨a, ha, e⟩ := h4 u (by simp [hu])
      rcases List.mem_cons.1 ha with r | r
      · subst r
        exact absurd ((q1 u hu).al (e.symm.trans hh)) LtV.irrefl
      · exact ⟨a, r, e⟩
/-- two strict lists with the same elements are one -/
theorem strict_eq : ∀ (xs ys : List VerL), xs.Pairwise LtV → ys.Pairwise LtV → (∀ v, v ∈ xs ↔ v ∈ ys) → xs = ys
  | [], [], _, _, _ => rfl
  | [], y :: ys, _, _, h => by have := (h y).2 (by simp); cases this
  | x :: xs, [], _, _, h => by have := (h x).1 (by simp); cases this
  | x :: xs, y :: ys, h1, h2, h3 => by
    obtain ⟨p1, p2⟩ := List.pairwise_cons.1 h1
    obtain ⟨q1, q2⟩ := List.pairwise_cons.1 h2
    have hh : x = y := by
      have a := (h3 x).1 (by simp)
      have b := (h3 y).2 (by simp)
      rcases List.mem_cons.1 a with r | r
      · exact r
      · rcases List.mem_cons.1 b with s | s
        · exact s.symm
        · exact absurd ((q1 x r).trans (p1 y s)) LtV.irrefl
    subst hh
    congr 1
    refine strict_eq xs ys p2 q2 (fun v => ⟨fun hv => ?_, fun hv => ?_⟩)
    · rcases List.mem_cons.1 ((h3 v).1 (by simp [hv])) with r | r
      · subst r; exact absurd (p1 v hv) LtV.irrefl
      · exact r
    · rcases List.mem_cons.1 ((h3 v).2 (by simp [hv])) with r | r
      · subst r; exact absurd (q1 v hv) LtV.irrefl
      · exact r
/-- where no two are of one stamp all stand there -/
theorem order_all {l : List VerL} (h : l.Pairwise (fun a b => ¬ AlV a b)) {v : VerL} : v ∈ orderOf l ↔ v ∈ l := by
  refine ⟨order_mem, fun hv => ?_⟩
  obtain ⟨o, ho, ha⟩ := order_cover hv
  have hm := order_mem ho
  by_cases e : o = v
  · exact e ▸ ho
  · exfalso
    obtain ⟨i, hi, rfl⟩ := List.mem_iff_getElem.1 hv
    obtain ⟨j, hj, rfl⟩ := List.mem_iff_getElem.1 hm
    have hij : i ≠ j := fun q => e (by subst q; rfl)
    rcases Nat.lt_or_gt_of_ne hij with q | q
    · exact List.pairwise_iff_getElem.1 h i j hi hj q ha.symm
    · exact List.pairwise_iff_getElem.1 h j i hj hi q ha
theorem order_perm {l : List VerL} (h : l.Pairwise (fun a b => ¬ AlV a b)) : (orderOf l).Perm l := by
  have hs : (srt leV l).Pairwise (fun a b => ¬ AlV a b) := (srt_perm (le := leV) l).symm.pairwise h (fun q r => q r.symm)
  have : orderOf l = srt leV l := by
    unfold orderOf
    refine strict_eq _ _ (order_strict l) ?_ (fun v => ?_)
    · have h1 := srt_sorted leV_pre l
      refine List.pairwise_iff_getElem.2 (fun i j hi hj hij => ?_)
      have a := List.pairwise_iff_getElem.1 hs i j hi hj hij
      have b := leV_iff.1 (List.pairwise_iff_getElem.1 h1 i j hi hj hij)
      rcases ltV_total (srt leV l)[i] (srt leV l)[j] with q | q | q
      · exact q
      · exact absurd q a
      · exact absurd q b
    · exact ((order_all h).trans (srt_perm (le := leV) l).mem_iff.symm)
  rw [this]; exact srt_perm l
theorem strict_apart {l : List VerL} (h : l.Pairwise LtV) : l.Pairwise (fun a b => ¬ AlV a b) := h.imp (fun q r => (q.al r.symm).irrefl)
theorem order_id {l : List VerL} (h : l.Pairwise LtV) : orderOf l = l := strict_eq _ _ (order_strict l) h (fun v => order_all (strict_apart h))
end Go.Proofs.Ytdjlnpiaehoofaa
end

/- are two versions of one stamp; the order's test. By an AI agent. -/
section
set_option linter.unusedVariables false
set_option linter.unusedSimpArgs false
namespace Go.Proofs.Ytdjlnpiaehoofaa
open Go.RowKit

def eqC (a b : VC) : Bool := eqV a.ver b.ver
set_option maxHeartbeats 1600000 in
set_option maxRecDepth 100000 in
theorem same_stamp (x y : VC) (w : World) {g : Nat} (hx : VOk w g x) (hy : VOk w g y) (r : Bool) (hr : Hid (eqC x y = r)) :
    Calls Try.prog 38 #[.agg #[.string x.key, .slice x.ad x.n x.ca, .int .i64 x.origin, .int .i64 x.tx, .int .i64 x.act.k, .float .f64 x.act.x, .int .i64 x.act.n, .string x.act.s], .agg #[.string y.key, .slice y.ad y.n y.ca, .int .i64 y.origin, .int .i64 y.tx, .int .i64 y.act.k, .float .f64 y.act.x, .int .i64 y.act.n, .string y.act.s]] w fun e w' => e = .returned (.bool r) ∧ Bl w w' := by
  have G := O2.new w x.cs y.cs 35 35
  obtain ⟨a0, a1, a2, a3, a4, a5, a6, a7⟩ := AC.ver (key := x.key) (a := x.ad) (n := x.n) (ca := x.ca) (o := x.origin) (t := x.tx) (k := x.act.k) (x := x.act.x) (m := x.act.n) (s := x.act.s) G.a
  obtain ⟨b0, b1, b2, b3, b4, b5, b6, b7⟩ := AC.ver (key := y.key) (a := y.ad) (n := y.n) (ca := y.ca) (o := y.origin) (t := y.tx) (k := y.act.k) (x := y.act.x) (m := y.act.n) (s := y.act.s) G.b
  obtain ⟨R, hR⟩ : ∃ R, orderL x.ver y.ver = R := ⟨_, rfl⟩
  have HRR := Lib.hid hR
  have HG := Lib.hid G.bl
  have HX := Lib.hid (hx.keep G.bl)
  have HY := Lib.hid (hy.keep G.bl)
  have hq : (R == 0) = r := by
    rw [← hr.out]
    unfold eqC eqV
    rw [hR, Bool.eq_iff_iff]; simp
  unfold VC.cs verC at *
  clear G hR hx hy
  go_enter Try.func38, Try.ntmps38
  go_wp2_with fail
  generalize (w.alloc _).alloc _ = W at *
  refine (forder_w x y R _ HX.out HY.out HRR).mono ?_
  rintro e w1 ⟨rfl, hb⟩
  go_wp2_with fail
  go_ret
  exact ⟨rfl, HG.out.trans hb⟩
/-! ### what 'clear' does to the end of a row -/
def zeroVC : VC := ⟨nilS, none, 0, 0, [], 0, 0, ⟨0, 0, 0, nilS⟩⟩
theorem zeroVC_ok (W : World) (g : Nat) : VOk W g zeroVC := ⟨IA.nil _ _, ⟨by decide, by decide, by decide, by decide⟩, .inl rfl⟩
theorem AC.puts {g : Nat} : ∀ (vs : List Value) (o : Nat) (W : World) (L : List Value), AC W g L → o + vs.length ≤ L.length → AC (W.setCells g o vs) g (L.take o ++ (vs ++ L.drop (o + vs.length)))
  | [], o, W, L, h, _ => by
    rw [List.nil_append, List.length_nil, Nat.add_zero, List.take_append_drop]; exact h
  | v :: vs, o, W, L, h, hl => by
    rw [List.length_cons] at hl
    have ih := AC.puts vs (o + 1) (W.setCell ⟨g, o, none⟩ v) (L.set o v) (h.putj o v) (by rw [List.length_set]; omega)
    have e : (L.set o v).take (o + 1) ++ (vs ++ (L.set o v).drop (o + 1 + vs.length)) = L.take o ++ ((v :: vs) ++ L.drop (o + (v :: vs).length)) := by
      rw [List.take_add_one, List.getElem?_set_self (by omega), List.take_set_of_le (Nat.le_refl o), List.drop_set_of_lt (by omega), List.length_cons, show o + 1 + vs.length = o + (vs.length + 1) by omega]
      simp
    rw [e] at ih
    exact ih
theorem Bl.puts {w : World} {g : Nat} (hg : w.heap.size ≤ g) : ∀ (vs : List Value) (o : Nat) (W : World), Bl w W → Bl w (W.setCells g o vs)
  | [], _, _, h => h
  | v :: vs, o, W, h => Bl.puts hg vs (o + 1) _ (h.setCell (p := ⟨g, o, none⟩) hg v)
theorem VOk.puts {g : Nat} {x : VC} : ∀ (vs : List Value) (o : Nat) (W : World), VOk W g x → VOk (W.setCells g o vs) g x
  | [], _, _, h => h
  | v :: vs, o, W, h => VOk.puts vs (o + 1) _ (h.set o v)
theorem flat_append (xs ys : List VC) : flat (xs ++ ys) = flat xs ++ flat ys := by unfold flat; rw [List.flatMap_append]
theorem zero_cells (m : Nat) : (Builtin.zeroCells zeroVC.cs.toArray m).toList = flat (List.replicate m zeroVC) := by
  refine List.ext_getElem? (fun i => ?_)
  have hl : (flat (List.replicate m zeroVC)).length = m * 8 := by rw [flat_len, List.length_replicate]
  by_cases h : i < m * 8
  · obtain ⟨k, r, hr, rfl⟩ : ∃ k r, r < 8 ∧ i = k * 8 + r := ⟨i / 8, i % 8, by omega, by omega⟩
    rw [flat_get _ _ _ (by rw [List.length_replicate]; omega) hr]
    have e : el (List.replicate m zeroVC) k = zeroVC := by unfold el; rw [List.getElem?_replicate, if_pos (by omega)]; rfl
    rw [e]
    unfold Builtin.zeroCells
    have hz : zeroVC.cs.toArray.size = 8 := rfl
    rw [hz]
    rw [Array.getElem?_toList, Array.getElem?_map, Array.getElem?_range, if_pos (by omega)]
    simp only [Option.map_some, Nat.mul_comm k 8, Nat.mul_add_mod, Nat.mod_eq_of_lt hr]
    match r, hr with
    | 0, _ => rfl
    | 1, _ => rfl
    | 2, _ => rfl
    | 3, _ => rfl
    | 4, _ => rfl
    | 5, _ => rfl
    | 6, _ => rfl
    | 7, _ => rfl
  · have e1 : (flat (List.replicate m zeroVC))[i]? = none := List.getElem?_eq_none (by omega)
    have e2 : (Builtin.zeroCells zeroVC.cs.toArray m).toList[i]? = none := by
      refine List.getElem?_eq_none ?_
      unfold Builtin.zeroCells
      have hz : zeroVC.cs.toArray.size = 8 := rfl
      simp only [Array.length_toList, Array.size_map, Array.size_range, hz]; omega
    rw [e1, e2]
theorem clear_row {w W : World} {g n kk : Nat} {zs : List VC} (h : RW w W g zs) (hn : zs.length = n) (hk : kk < n) (ty : TypeId) (c : Nat) :
    ∃ W', (Builtin.clear_ #[22] ty #[.slice (some ⟨g, kk * 8, none⟩) (n - kk) c]).run Try.prog W = .ok (.tuple #[]) W' ∧ RW w W' g (zs.take kk ++ List.replicate (n - kk) zeroVC) := by
  have hl := flat_len zs
  have hv : (flat (List.replicate (n - kk) zeroVC)).length = (n - kk) * 8 := by rw [flat_len, List.length_replicate]
  have hcell : ∀ j, j < (n - kk) * 8 → (W.cell? ⟨g, kk * 8 + 0 + j, none⟩).isSome = true := fun j hj => by
    obtain ⟨sp, hr⟩ := h.row
    have : (flat zs ++ sp)[kk * 8 + 0 + j]? = some ((flat zs ++ sp)[kk * 8 + 0 + j]'(by rw [List.length_append]; omega)) := List.getElem?_eq_getElem _
    rw [hr.cell _ _ this]; rfl
  have hst := run_storeCells_cells (P := Try.prog) g (kk * 8) (flat (List.replicate (n - kk) zeroVC)) 0 W (fun j hj => hcell j (by rw [hv] at hj; exact hj)) (fun j hj => h.frozen _) (fun v hv => by
    unfold flat at hv
    obtain ⟨x, hx, hm⟩ := List.mem_flatMap.1 hv
    rw [(List.mem_replicate.1 hx).2] at hm
    simp only [VC.cs, verC, List.mem_cons, List.not_mem_nil, or_false] at hm
    rcases hm with rfl | rfl | rfl | rfl | rfl | rfl | rfl | rfl <;> rfl)
  rw [Nat.add_zero] at hst
  have hz : ∀ W : World, (zeroValue 35).run Try.prog W = .ok (.agg zeroVC.cs.toArray) W := fun W => by rfl
  refine ⟨W.setCells g (kk * 8) (flat (List.replicate (n - kk) zeroVC)), ?_, ?_⟩
  · obtain ⟨m, hm⟩ : ∃ m, n - kk = m + 1 := ⟨n - kk - 1, by omega⟩
    rw [hm] at hst ⊢
    have hzc := zero_cells (m + 1)
    simp only [Builtin.clear_]
    simp [run_underlying Try.underlying22, hz, Value.cells, hzc, hst]
  · obtain ⟨sp, hr⟩ := h.row
    refine ⟨h.bl.puts h.new _ _, h.new, ⟨sp, ?_⟩, fun v hv => ?_⟩
    · have := AC.puts (flat (List.replicate (n - kk) zeroVC)) (kk * 8) W _ hr (by rw [List.length_append]; omega)
      have e1 : (flat zs ++ sp).take (kk * 8) = flat (zs.take kk) := by
        have : flat zs = flat (zs.take kk) ++ flat (zs.drop kk) := by rw [← flat_append, List.take_append_drop]
        have l1 : (flat (zs.take kk)).length = kk * 8 := by rw [flat_len, List.length_take]; omega
        rw [this, List.append_assoc, List.take_left' l1]
      have e2 : (flat zs ++ sp).drop (kk * 8 + (flat (List.replicate (n - kk) zeroVC)).length) = sp := by
        rw [List.drop_left' (by rw [hv, hl]; omega)]
      rw [e1, e2] at this
      rw [flat_append, List.append_assoc]
      exact this
    · rcases List.mem_append.1 hv with q | q
      · exact (h.ok v (List.mem_of_mem_take q)).puts _ _ _
      · rw [(List.mem_replicate.1 q).2]; exact zeroVC_ok _ _
end Go.Proofs.Ytdjlnpiaehoofaa
end

/- slices.CompactFunc over versions. By an AI agent. -/
section
set_option linter.unusedVariables false
set_option linter.unusedSimpArgs false
namespace Go.Proofs.Ytdjlnpiaehoofaa
open Go.RowKit
attribute [local go_sem] eOp eOper eUpon

theorem go_drop (eq : VC → VC → Bool) {ys : List VC} {j : Nat} (p : VC) (h : j < ys.length) : cptGo eq p (ys.drop j) = if eq (el ys j) p then cptGo eq (el ys j) (ys.drop (j + 1)) else el ys j :: cptGo eq (el ys j) (ys.drop (j + 1)) := by
  rw [drop_el h]; rfl
theorem cpt_first (eq : VC → VC → Bool) {ys : List VC} (h : 1 ≤ ys.length) : cpt eq ys = ys.take 1 ++ cptGo eq (el ys (1 - 1)) (ys.drop 1) := by
  cases ys with
  | nil => simp at h
  | cons y ys => rfl
theorem cpt_short (eq : VC → VC → Bool) {ys : List VC} (h : ys.length < 2) : cpt eq ys = ys := by
  match ys, h with
  | [], _ => rfl
  | [y], _ => rfl
/-- how far the first loop is -/
structure CP1 (ys : List VC) (k : Nat) : Prop where
  lo : 1 ≤ k
  hi : k ≤ ys.length
  is_ : cpt eqC ys = ys.take k ++ cptGo eqC (el ys (k - 1)) (ys.drop k)
theorem CP1.no {ys : List VC} {k : Nat} (h : CP1 ys k) (hk : k < ys.length) (he : eqC (el ys k) (el ys (k - 1)) = false) : CP1 ys (k + 1) := by
  refine ⟨by have := h.lo; omega, hk, ?_⟩
  rw [h.is_, go_drop _ _ hk, he, take_el hk, Nat.add_sub_cancel]
  simp
/-- how far the second loop is -/
structure CP2 (ys zs : List VC) (kk pos : Nat) : Prop where
  lo : 1 ≤ kk
  hi : pos ≤ ys.length
  kp : kk + 1 ≤ pos
  len : zs.length = ys.length
  same : ∀ i, pos ≤ i + 1 → el zs i = el ys i
  is_ : cpt eqC ys = zs.take kk ++ cptGo eqC (el ys (pos - 1)) (ys.drop pos)
theorem CP1.yes {ys : List VC} {k : Nat} (h : CP1 ys k) (hk : k < ys.length) (he : eqC (el ys k) (el ys (k - 1)) = true) : CP2 ys ys k (k + 1) := by
  refine ⟨h.lo, hk, Nat.le_refl _, rfl, fun _ _ => rfl, ?_⟩
  rw [h.is_, go_drop _ _ hk, he, Nat.add_sub_cancel]
  simp
theorem CP2.yes {ys zs : List VC} {kk pos : Nat} (h : CP2 ys zs kk pos) (hk : pos < ys.length) (he : eqC (el ys pos) (el ys (pos - 1)) = true) : CP2 ys zs kk (pos + 1) := by
  refine ⟨h.lo, hk, by have := h.kp; omega, h.len, fun i hi => h.same i (by omega), ?_⟩
  rw [h.is_, go_drop _ _ hk, he, Nat.add_sub_cancel]
  simp
theorem CP2.no {ys zs : List VC} {kk pos : Nat} (h : CP2 ys zs kk pos) (hk : pos < ys.length) (he : eqC (el ys pos) (el ys (pos - 1)) = false) : CP2 ys (zs.set kk (el ys pos)) (kk + 1) (pos + 1) := by
  have hkz : kk < zs.length := by have := h.len; have := h.kp; omega
  refine ⟨by omega, hk, by have := h.kp; omega, by rw [List.length_set]; exact h.len, fun i hi => ?_, ?_⟩
  · rw [el_set hkz, if_neg (by have := h.kp; omega)]; exact h.same i (by omega)
  · rw [h.is_, go_drop _ _ hk, he, Nat.add_sub_cancel, List.take_add_one, List.take_set_of_le (Nat.le_refl kk), List.getElem?_set_self hkz]
    simp
theorem CP2.done {ys zs : List VC} {kk pos : Nat} (h : CP2 ys zs kk pos) (hk : ¬ pos < ys.length) : cpt eqC ys = zs.take kk := by
  rw [h.is_, List.drop_eq_nil_of_le (by omega)]
  simp [cptGo]
set_option maxHeartbeats 3200000 in
set_option maxRecDepth 100000 in
theorem compact_any (w W : World) (g n ca : Nat) (ys : List VC) (hl : ys.length = n) (hn1 : n ≤ 1000000) (hca : n ≤ ca) (hr : RW w W g ys) :
    Calls Try.prog 37 #[.slice (some ⟨g, 0, none⟩) n ca, .func (.func 38) #[] #[]] W fun e W' => ∃ (m : Nat) (rest : List VC), e = .returned (.slice (some ⟨g, 0, none⟩) m ca) ∧ (cpt eqC ys).length = m ∧ RW w W' g (cpt eqC ys ++ rest) ∧ (cpt eqC ys ++ rest).length = n := by
  have hsf := store_fl
  have HR := Lib.hid hr
  have HL := Lib.hid hl
  clear hr hl
  go_enter Try.func37, Try.ntmps37
  by_cases h2 : n < 2
  · have q0 : decide ((n : Int) < 2) = true := decide_eq_true (by omega)
    have q0n : decide (n < 2) = true := decide_eq_true h2
    have HS := Lib.hid (cpt_short eqC (show ys.length < 2 by rw [HL.out]; exact h2))
    go_wp2_with fail
    go_ret
    exact ⟨n, [], rfl, by rw [HS.out]; exact HL.out, by rw [HS.out, List.append_nil]; exact HR.out.keep (by simpa using Bl.refl _), by rw [HS.out, List.append_nil]; exact HL.out⟩
  have q0 : decide ((n : Int) < 2) = false := decide_eq_false (by omega)
  have q0n : decide (n < 2) = false := decide_eq_false h2
  have H2 := Lib.hid h2
  clear h2
  go_wp2_with fail
  go_loopw [5] (fun iv wr => ∃ k : Nat, CP1 ys k ∧ iv = .int .i64 (k : Int) ∧ RW w wr g ys) (fun iv _ => n + 1 - (intOf iv).toNat)
  case atStart => exact ⟨1, ⟨Nat.le_refl _, by have := HL.out; have := H2.out; omega, cpt_first _ (by have := HL.out; have := H2.out; omega)⟩, by go_num, HR.out⟩
  case round =>
    clear HR
    obtain ⟨k, hc1, rfl, hrow⟩ := hrel
    have HC1 := Lib.hid hc1
    have HRI := Lib.hid hrow
    clear hc1 hrow
    by_cases hlt : k < n
    · have q1 : decide ((k : Int) < (n : Int)) = true := decide_eq_true (by omega)
      have q1n : decide (k < n) = true := decide_eq_true hlt
      obtain ⟨m, hm⟩ : ∃ m, m + 1 = k := ⟨k - 1, by have := HC1.out.lo; omega⟩
      have hw : IntKind.i64.wrap ((k : Int) - 1) = (m : Int) := by rw [IntKind.wrap_i64]; omega
      have hmn : m < n := by omega
      have HM := Lib.hid hm
      clear hm
      have hmk := Lib.hid (show k - 1 = m by have := HM.out; omega)
      obtain ⟨x, hx⟩ : ∃ x, el ys k = x := ⟨_, rfl⟩
      obtain ⟨y, hy⟩ : ∃ y, el ys m = y := ⟨_, rfl⟩
      have ex := Lib.hid hx
      have ey := Lib.hid hy
      clear hx hy
      obtain ⟨r, hr⟩ : ∃ r, eqC x y = r := ⟨_, rfl⟩
      have HRR := Lib.hid hr
      clear hr
      go_upto_region 6 with fail
      refine wp_region_allS (by kernel_rfl) (by kernel_rfl) ?_
      have HZ := Lib.hid (HRI.out.keep ((Bl.refl wr).drew))
      clear HRI
      generalize wr.drew = Z at *
      obtain ⟨x0, x1, x2, x3, x4, x5, x6, x7⟩ := HZ.out.all8 (by rw [HL.out]; exact hlt) ex.out
      obtain ⟨y0, y1, y2, y3, y4, y5, y6, y7⟩ := HZ.out.all8 (by rw [HL.out]; exact hmn) ey.out
      have V := Lib.hid (fun q : Ext Z => same_stamp x y q.at (g := g) (ex.out ▸ (HZ.out.keep q.bl).at_ (by rw [HL.out]; exact hlt)) (ey.out ▸ (HZ.out.keep q.bl).at_ (by rw [HL.out]; exact hmn)) r HRR)
      repeat (refine wpS_step (fun K hK => ?_); go_simp; first | (refine hK _ ?_; clear hK K) | (apply Exists.intro; refine ⟨fun q => ?_, hK _ ?_⟩; (with_reducible exact V.out q); clear hK K))
      refine wpS_nil ?_
      intro q1
      have HZ0 := Lib.hid (HZ.out.keep q1.bl)
      clear x0 x1 x2 x3 x4 x5 x6 x7 y0 y1 y2 y3 y4 y5 y6 y7 V HZ
      generalize q1.at = Y at *
      clear q1
      have HE := Lib.hid (show eqC (el ys k) (el ys (k - 1)) = r by rw [hmk.out, ex.out, ey.out]; exact HRR.out)
      clear HRR ex ey
      cases r
      case false =>
        have HC := Lib.hid (HC1.out.no (by rw [HL.out]; exact hlt) HE.out)
        go_wp2_with fail
        go_roundw
        case rel => exact ⟨k + 1, HC.out, by go_num, HZ0.out⟩
        case measure => simp [intOf]; omega
      case true =>
        have HC := Lib.hid (HC1.out.yes (by rw [HL.out]; exact hlt) HE.out)
        have qc : ¬ (ca = k) := by omega
        obtain ⟨d, hd⟩ : ∃ d, n - k = d := ⟨_, rfl⟩
        have s1 : (n : Int) - (k : Int) = (d : Int) := by omega
        obtain ⟨cd, hcd⟩ : ∃ cd, ca - k = cd := ⟨_, rfl⟩
        have s2 : (ca : Int) - (k : Int) = (cd : Int) := by omega
        go_wp2_with fail
        have HDD := Lib.hid (show k + d = n by omega)
        have hcdn : d ≤ cd := by omega
        clear hd hcd s1 s2 H2 HM hmk HC1
        have hdn : d ≤ 1000000 := by have := HDD.out; omega
        go_loopw [5, 7] (fun iv jv wr => ∃ (kk k2 pos : Nat) (zs : List VC), CP2 ys zs kk pos ∧ 1 ≤ k2 ∧ k + k2 = pos ∧ iv = .int .i64 (kk : Int) ∧ jv = .int .i64 (k2 : Int) ∧ RW w wr g zs) (fun _ jv _ => n + 1 - (intOf jv).toNat)
        case atStart => exact ⟨k, 1, k + 1, ys, HC.out, Nat.le_refl _, rfl, rfl, by go_num, HZ0.out⟩
        case round =>
          clear HZ0 HC HE
          obtain ⟨kk, k2, pos, zs, hc2, h1, hp, rfl, rfl, hrow⟩ := hrel
          have HC2 := Lib.hid hc2
          have HRI := Lib.hid hrow
          have HP := Lib.hid hp
          clear hc2 hrow hp
          have hkk : kk < n := by have := HC2.out.kp; have := HC2.out.hi; have := HL.out; omega
          have hkz : zs.length = n := by rw [HC2.out.len]; exact HL.out
          have HKZ := Lib.hid hkz
          clear hkz
          have hk2 : k2 ≤ d := by have := HC2.out.hi; have := HL.out; have := HDD.out; have := HP.out; omega
          by_cases hlt2 : k2 < d
          · have q2 : decide ((k2 : Int) < (d : Int)) = true := decide_eq_true (by omega)
            have q2n : decide (k2 < d) = true := decide_eq_true hlt2
            have hpn : pos < n := by have := HDD.out; have := HP.out; omega
            obtain ⟨m2, hm⟩ : ∃ m, m + 1 = k2 := ⟨k2 - 1, by omega⟩
            have hw2 : IntKind.i64.wrap ((k2 : Int) - 1) = (m2 : Int) := by rw [IntKind.wrap_i64]; omega
            have hm2n : m2 < d := by omega
            obtain ⟨pm, hpm⟩ : ∃ pm, pm + 1 = pos := ⟨pos - 1, by have := HP.out; omega⟩
            have hpmn : pm < n := by omega
            have a1 := Lib.hid (show pos * 8 = k * 8 + k2 * 8 by have := HP.out; omega)
            have a2 := Lib.hid (show pm * 8 = k * 8 + m2 * 8 by have := HP.out; omega)
            have hpe := Lib.hid (show pos - 1 = pm by omega)
            clear hm hpm
            obtain ⟨x, hx⟩ : ∃ x, el ys pos = x := ⟨_, rfl⟩
            obtain ⟨y, hy⟩ : ∃ y, el ys pm = y := ⟨_, rfl⟩
            have ex := Lib.hid hx
            have ey := Lib.hid hy
            have ezx := Lib.hid (show el zs pos = x by rw [HC2.out.same _ (by omega)]; exact hx)
            have ezy := Lib.hid (show el zs pm = y by rw [HC2.out.same _ (by have := hpe.out; omega)]; exact hy)
            clear hx hy
            obtain ⟨r, hr⟩ : ∃ r, eqC x y = r := ⟨_, rfl⟩
            have HRR := Lib.hid hr
            clear hr
            go_upto_region 11 with fail
            refine wp_region_allS (by kernel_rfl) (by kernel_rfl) ?_
            have HZ := Lib.hid (HRI.out.keep ((Bl.refl wr).drew))
            clear HRI
            generalize wr.drew = Z at *
            have xs := HZ.out.all8 (by rw [HKZ.out]; exact hpn) ezx.out
            have ysx := HZ.out.all8 (by rw [HKZ.out]; exact hpmn) ezy.out
            rw [a1.out] at xs
            rw [a2.out] at ysx
            obtain ⟨x0, x1, x2, x3, x4, x5, x6, x7⟩ := xs
            obtain ⟨y0, y1, y2, y3, y4, y5, y6, y7⟩ := ysx
            have V := Lib.hid (fun q : Ext Z => same_stamp x y q.at (g := g) (ezx.out ▸ (HZ.out.keep q.bl).at_ (by rw [HKZ.out]; exact hpn)) (ezy.out ▸ (HZ.out.keep q.bl).at_ (by rw [HKZ.out]; exact hpmn)) r HRR)
            repeat (refine wpS_step (fun K hK => ?_); go_simp; first | (refine hK _ ?_; clear hK K) | (apply Exists.intro; refine ⟨fun q => ?_, hK _ ?_⟩; (with_reducible exact V.out q); clear hK K))
            refine wpS_nil ?_
            intro q1
            have HZ0 := Lib.hid (HZ.out.keep q1.bl)
            clear x0 x1 x2 x3 x4 x5 x6 x7 y0 y1 y2 y3 y4 y5 y6 y7 V HZ
            generalize q1.at = Y at *
            clear q1
            have HE := Lib.hid (show eqC (el ys pos) (el ys (pos - 1)) = r by rw [hpe.out, ex.out, ey.out]; exact HRR.out)
            clear HRR ey ezy
            cases r
            case true =>
              have HC := Lib.hid (HC2.out.yes (by rw [HL.out]; exact hpn) HE.out)
              go_wp2_with fail
              go_roundw
              case rel => exact ⟨kk, k2 + 1, pos + 1, zs, HC.out, by omega, by have := HP.out; omega, rfl, by go_num, HZ0.out⟩
              case measure => have := HDD.out; simp [intOf]; omega
            case false =>
              have HC := Lib.hid (HC2.out.no (by rw [HL.out]; exact hpn) HE.out)
              rw [ex.out] at HC
              have xs := HZ0.out.at8 (by rw [HKZ.out]; exact hpn) ezx.out
              rw [a1.out] at xs
              obtain ⟨x0, x1, x2, x3, x4, x5, x6, x7⟩ := xs
              obtain ⟨e0, e1, e2, e3, e4, e5, e6, e7⟩ := HZ0.out.cells (j := kk) (by rw [HKZ.out]; exact hkk)
              have f0 := HZ0.out.frozen (kk * 8)
              have f1 := HZ0.out.frozen (kk * 8 + 1)
              have f2 := HZ0.out.frozen (kk * 8 + 2)
              have f3 := HZ0.out.frozen (kk * 8 + 3)
              have f4 := HZ0.out.frozen (kk * 8 + 4)
              have f5 := HZ0.out.frozen (kk * 8 + 5)
              have f6 := HZ0.out.frozen (kk * 8 + 6)
              have f7 := HZ0.out.frozen (kk * 8 + 7)
              have hv1 : VOk _ g x := ezx.out ▸ HZ0.out.at_ (j := pos) (by rw [HKZ.out]; exact hpn)
              have k5 := HZ0.out.st8 (j := kk) (by rw [HKZ.out]; exact hkk) hv1
              unfold st8 at k5
              have H5 := Lib.hid k5
              clear k5 hv1
              go_wp2_with fail
              go_roundw
              case rel => exact ⟨kk + 1, k2 + 1, pos + 1, zs.set kk x, HC.out, by omega, by have := HP.out; omega, by go_num, by go_num, H5.out⟩
              case measure => have := HDD.out; simp [intOf]; omega
          · have q2 : decide ((k2 : Int) < (d : Int)) = false := decide_eq_false (by omega)
            have q2n : decide (k2 < d) = false := decide_eq_false hlt2
            have HE := Lib.hid (HC2.out.done (by rw [HL.out]; have := HP.out; have := HDD.out; omega))
            have qk : ¬ (ca = kk) := by omega
            obtain ⟨W2, hcl, hr2⟩ := clear_row HRI.out HKZ.out hkk 0 (ca - kk)
            have hr3 := Lib.hid hr2
            clear hr2
            obtain ⟨e, he⟩ : ∃ e, n - kk = e := ⟨_, rfl⟩
            have s1 : (n : Int) - (kk : Int) = (e : Int) := by omega
            obtain ⟨ce, hce⟩ : ∃ ce, ca - kk = ce := ⟨_, rfl⟩
            have s2 : (ca : Int) - (kk : Int) = (ce : Int) := by omega
            rw [he, hce] at hcl
            go_wp2_with fail
            go_ret
            refine ⟨kk, List.replicate e zeroVC, rfl, ?_, ?_, ?_⟩
            · rw [HE.out, List.length_take, HKZ.out]; omega
            · rw [HE.out, ← he]; exact hr3.out
            · rw [HE.out, ← he, List.length_append, List.length_take, HKZ.out, List.length_replicate]; omega
    · have q1 : decide ((k : Int) < (n : Int)) = false := decide_eq_false (by omega)
      have q1n : decide (k < n) = false := decide_eq_false hlt
      have HE := Lib.hid (show cpt eqC ys = ys by
        rw [HC1.out.is_, List.drop_eq_nil_of_le (by have := HL.out; omega), List.take_of_length_le (by have := HL.out; omega)]; simp [cptGo])
      go_wp2_with fail
      go_ret
      exact ⟨n, [], rfl, by rw [HE.out]; exact HL.out, by rw [HE.out, List.append_nil]; exact HRI.out, by rw [HE.out, List.append_nil]; exact HL.out⟩
end Go.Proofs.Ytdjlnpiaehoofaa
end

/- slices.Clone of a vector. By an AI agent. -/
section
set_option linter.unusedVariables false
set_option linter.unusedSimpArgs false
namespace Go.Proofs.Ytdjlnpiaehoofaa
open Go.RowKit

set_option maxHeartbeats 400000 in
theorem vclone_any (a : Option Addr) (n ca : Nat) (xs : List Int) (w : World) (hx : IA w a n xs) :
    Calls Try.prog 50 #[.slice a n ca] w fun e w' => ∃ v, e = .returned v ∧ FI w.heap.size w' v xs ∧ Bl w w' := by
  obtain ⟨i0, hi, hz0, hz1, hz2⟩ := info_parts info_int
  have hx1 := hx.cap
  have hnil := fun (w : World) => Lib.run_eql_slice_nil w 24 3 a n ca 0 0 Try.underlying24
  cases a with
  | none =>
    have hn : n = 0 := by
      rcases Nat.eq_zero_or_pos n with h | h
      · exact h
      · obtain ⟨_, _, h', _⟩ := hx.cells 0 h
        simp at h'
    have hxs : xs = [] := List.eq_nil_of_length_eq_zero (hx.len.trans hn)
    subst hn hxs
    go_enter Try.func50, Try.ntmps50
    go_wp2
    go_ret
    exact ⟨_, rfl, FI.nil _ _, Bl.refl _⟩
  | some ad =>
    have hcells : ∀ j u, (xs.map (Value.int .i64))[j]? = some u → ∀ o, (w.alloc o).cell? (ad.add j) = some u := by
      intro j u hj o
      have hjl : j < n := by
        have := (List.getElem?_eq_some_iff.1 hj).1
        simpa [hx.len] using this
      obtain ⟨b, off, e, hc⟩ := hx.cells j hjl
      obtain rfl := Option.some.inj e
      have h1 := hc j hjl
      rw [← Go.WideShapes.add_plain] at h1
      rw [((Bl.refl w).alloc o).cell h1]
      have hjx : j < xs.length := by rw [hx.len]; exact hjl
      simp [hjx] at hj
      rw [nth_eq hjx, hj]
    have HC := Lib.hid hcells; clear hcells
    have HX := Lib.hid hx
    have HL := Lib.hid hx.len
    clear hx
    go_enter Try.func50, Try.ntmps50
    go_wp2_with (at_builtin; refine wpList_append_own _ rfl _ _ 24 rfl (w.heap.size) 3 i0 (.int .i64 0) 1 8 Try.underlying24 hi hz0 hz1 hz2 rfl (by decide) _ 0 [] rfl (World.ownsRow_lit w #[] 0 (Nat.le_refl _) (by decide) rfl) ad n ca (xs.map (Value.int .i64)) rfl ?c1 ?c2 ?c3 ?c4 ?c5 ?c6 ?_)
    case c1 => simp [HL.out]
    case c2 => intro j u hj; exact HC.out j u hj _
    case c3 => intro u hu; simp at hu; obtain ⟨x, _, rfl⟩ := hu; rfl
    case c4 => unfold maxLen; omega
    case c5 => omega
    case c6 => simp
    intro v' w1 hown' hgrow _
    have hb : Bl w w1 := ((Bl.refl w).alloc _).grown hgrow (by simp) (fun k hk => by simp [Value.ownBlock] at hk; omega)
    have hf : FI w.heap.size w1 v' xs := ⟨by simpa [OI, HL.out] using hown', by rw [HL.out]; exact hx1, HX.out.wf⟩
    clear hown' hgrow
    go_wp2
    go_ret
    exact ⟨_, rfl, hf, hb⟩
end Go.Proofs.Ytdjlnpiaehoofaa
end

/- a frame: which blocks may turn. By an AI agent. -/
section
set_option linter.unusedVariables false
namespace Go.Proofs.Ytdjlnpiaehoofaa
open Go.RowKit

/-- blocks that lay in w and are not of S are as they were -/
structure Fr (S : Nat → Prop) (w w' : World) : Prop where
  os : w'.os = w.os
  tape : w'.tape = w.tape
  output : w'.output = w.output
  size : w.heap.size ≤ w'.heap.size
  block : ∀ k, k < w.heap.size → ¬ S k → w'.heap[k]? = w.heap[k]?
theorem Fr.refl (S : Nat → Prop) (w : World) : Fr S w w := ⟨rfl, rfl, rfl, Nat.le_refl _, fun _ _ _ => rfl⟩
theorem Fr.trans {S : Nat → Prop} {a b c : World} (h : Fr S a b) (k : Fr S b c) : Fr S a c :=
  ⟨k.os.trans h.os, k.tape.trans h.tape, k.output.trans h.output, Nat.le_trans h.size k.size, fun i hi hs => (k.block i (Nat.lt_of_lt_of_le hi h.size) hs).trans (h.block i hi hs)⟩
theorem Fr.bl {S : Nat → Prop} {a b c : World} (h : Fr S a b) (k : Bl b c) : Fr S a c :=
  h.trans ⟨k.os, k.tape, k.output, k.size, fun i hi _ => k.block i hi⟩
theorem Fr.grown {S : Nat → Prop} {a b c : World} {row : Option Nat} (h : Fr S a b) (k : b.grownBy c row) (hr : ∀ i, row = some i → S i) : Fr S a c :=
  h.trans ⟨k.os, k.tape, k.output, k.size, fun i hi hs => k.block i hi (fun e => hs (hr i e.symm))⟩
theorem Fr.below {S : Nat → Prop} {w w' : World} (h : Fr S w w') {B : Nat} (hB : B ≤ w.heap.size) (hs : ∀ k, S k → B ≤ k) : Below B w w' :=
  ⟨h.os, h.tape, h.output, h.size, fun k hk => h.block k (by omega) (fun q => by have := hs k q; omega)⟩
theorem Fr.cell {S : Nat → Prop} {w w' : World} (h : Fr S w w') {p : Addr} {v : Value} (hv : w.cell? p = some v) (hs : ¬ S p.block) : w'.cell? p = some v := by
  rw [← hv]
  exact World.cell?_of_block (h.block p.block (World.block_lt_of_cell? _ _ hv) hs)
theorem Fr.ia {S : Nat → Prop} {w w' : World} (h : Fr S w w') {a : Option Addr} {n : Nat} {xs : List Int} (hl : IA w a n xs) (hs : ∀ b off, a = some ⟨b, off, none⟩ → ¬ S b) : IA w' a n xs := ⟨hl.len, hl.cap, fun j hj => by
  obtain ⟨b, off, e, hc⟩ := hl.cells j hj
  exact ⟨b, off, e, fun j hj => h.cell (hc j hj) (hs b off e)⟩, hl.wf⟩

theorem Fr.own {S : Nat → Prop} {w w' : World} (h : Fr S w w') {B : Nat} {E : TypeId} {z : Nat} {v : Value} {n : Nat} {cs : List Value} (ho : w.ownsRow B E z v n cs) (hs : ∀ b, v.ownBlock = some b → ¬ S b) : w'.ownsRow B E z v n cs := by
  obtain ⟨h1, h2 | ⟨g, cap, cur, rfl, hB, hg, r⟩⟩ := ho
  · exact ⟨h1, .inl h2⟩
  · exact ⟨h1, .inr ⟨g, cap, cur, rfl, hB, by rw [h.block g (lt_of_heap hg) (hs g rfl)]; exact hg, r⟩⟩
theorem FI.fr {S : Nat → Prop} {B : Nat} {w w' : World} {v : Value} {xs : List Int} (h : FI B w v xs) (hf : Fr S w w') (hs : ∀ b, v.ownBlock = some b → ¬ S b) : FI B w' v xs := ⟨hf.own h.own hs, h.cap, h.wf⟩
end Go.Proofs.Ytdjlnpiaehoofaa
end

/- fold.copied. By an AI agent. -/
section
set_option linter.unusedVariables false
set_option linter.unusedSimpArgs false
namespace Go.Proofs.Ytdjlnpiaehoofaa
open Go.RowKit

theorem Fr.setj (w : World) (g j : Nat) (u : Value) : Fr (fun b => b = g) w (w.setCell ⟨g, j, none⟩ u) := ⟨rfl, rfl, rfl, by simp, fun k hk hne => Below.heap_setCell _ _ _ _ (fun e => hne (by rw [e]))⟩
theorem Fr.st8 (w : World) (g o : Nat) (v : VC) : Fr (fun b => b = g) w (st8 w g o v) :=
  (((((((Fr.setj _ _ _ _).trans (Fr.setj _ _ _ _)).trans (Fr.setj _ _ _ _)).trans (Fr.setj _ _ _ _)).trans (Fr.setj _ _ _ _)).trans (Fr.setj _ _ _ _)).trans (Fr.setj _ _ _ _)).trans (Fr.setj _ _ _ _)
theorem copied_results {tmps : Array Value} {W : World} {g0 : Nat} {v : VC} (h0 : tmps.getD 2 undef = .pointer (some ⟨g0, 0, none⟩)) (c0 : AC W g0 v.cs) :
    (results Try.f34 tmps).run Try.prog W = .ok (.agg #[.string v.key, .slice v.ad v.n v.ca, .int .i64 v.origin, .int .i64 v.tx, .int .i64 v.act.k, .float .f64 v.act.x, .int .i64 v.act.n, .string v.act.s]) W := by
  rw [Array.getD_eq_getD_getElem?] at h0
  obtain ⟨k0, k1, k2, k3, k4, k5, k6, k7⟩ := AC.ver (key := v.key) (a := v.ad) (n := v.n) (ca := v.ca) (o := v.origin) (t := v.tx) (k := v.act.k) (x := v.act.x) (m := v.act.n) (s := v.act.s) c0
  simp [results, Try.results34, go_sem, h0, k0, k1, k2, k3, k4, k5, k6, k7]
theorem AC.otherj {w : World} {g g' : Nat} {cs : List Value} (h : AC w g cs) (hn : g ≠ g') (j : Nat) (v : Value) : AC (w.setCell ⟨g', j, none⟩ v) g cs := by
  obtain ⟨t, h⟩ := h
  exact ⟨t, by rw [Below.heap_setCell _ _ _ _ (by exact hn)]; exact h⟩
set_option maxHeartbeats 1600000 in
set_option maxRecDepth 100000 in
theorem copied_any (v : VC) (w : World) (hx : IA w v.ad v.n v.at_) :
    Calls Try.prog 34 #[.agg #[.string v.key, .slice v.ad v.n v.ca, .int .i64 v.origin, .int .i64 v.tx, .int .i64 v.act.k, .float .f64 v.act.x, .int .i64 v.act.n, .string v.act.s]] w fun e w' =>
      ∃ a n ca, e = .returned (.agg #[.string v.key, .slice a n ca, .int .i64 v.origin, .int .i64 v.tx, .int .i64 v.act.k, .float .f64 v.act.x, .int .i64 v.act.n, .string v.act.s]) ∧ FI w.heap.size w' (.slice a n ca) v.at_ ∧ Bl w w' := by
  have hsf := store_fl
  have G := (AC.new w w.heap.size rfl v.cs 35).keep ((Bl.refl _).alloc (.cells #[.string ⟨#[]⟩, .slice none 0 0, .int .i64 0, .int .i64 0, .int .i64 0, .float .f64 0, .int .i64 0, .string ⟨#[]⟩] 35))
  have G2 := AC.new (w.alloc (.cells v.cs.toArray 35)) (w.heap.size + 1) (by simp) [.string ⟨#[]⟩, .slice none 0 0, .int .i64 0, .int .i64 0, .int .i64 0, .float .f64 0, .int .i64 0, .string ⟨#[]⟩] 35
  have hb := ((Bl.refl w).alloc (.cells v.cs.toArray 35)).alloc (.cells #[.string ⟨#[]⟩, .slice none 0 0, .int .i64 0, .int .i64 0, .int .i64 0, .float .f64 0, .int .i64 0, .string ⟨#[]⟩] 35)
  have hsz : w.heap.size + 2 ≤ ((w.alloc (.cells v.cs.toArray 35)).alloc (.cells #[.string ⟨#[]⟩, .slice none 0 0, .int .i64 0, .int .i64 0, .int .i64 0, .float .f64 0, .int .i64 0, .string ⟨#[]⟩] 35)).heap.size := by simp
  unfold VC.cs verC at *
  have c1 := G.cell 1 _ rfl
  have HG := Lib.hid G
  have HG2 := Lib.hid G2
  have HB := Lib.hid hb
  have HX := Lib.hid (hx.keep hb)
  have HSZ := Lib.hid hsz
  clear G G2 hb hx hsz
  go_enter Try.func34, Try.ntmps34
  go_wp2_with fail
  generalize (w.alloc _).alloc _ = W at *
  refine (vclone_any v.ad v.n v.ca v.at_ _ HX.out).mono ?_
  rintro e w1 ⟨v1, rfl, hf, hb1⟩
  obtain ⟨a1, n1, k1, rfl, -⟩ := hf.si
  have HF := Lib.hid hf
  have G1 := HG.out.keep hb1
  have fr1 := G1.frozen
  have d1 := G1.cell 1 _ rfl
  have E := AC.putj G1 1 (.slice a1 n1 k1)
  have E2 := (HG2.out.keep hb1).otherj (g' := w.heap.size) (by omega) 1 (.slice a1 n1 k1)
  obtain ⟨e0, e1, e2, e3, e4, e5, e6, e7⟩ := AC.ver (key := v.key) (a := a1) (n := n1) (ca := k1) (o := v.origin) (t := v.tx) (k := v.act.k) (x := v.act.x) (m := v.act.n) (s := v.act.s) E
  obtain ⟨h0, h1, h2, h3, h4, h5, h6, h7⟩ := AC.ver (key := ⟨#[]⟩) (a := none) (n := 0) (ca := 0) (o := 0) (t := 0) (k := 0) (x := 0) (m := 0) (s := ⟨#[]⟩) E2
  have fr2 := E2.frozen
  have HE2 := Lib.hid E2
  have HBB := Lib.hid (HB.out.trans hb1)
  clear E E2 G1 hf hb1 c1
  go_wp2_with fail
  obtain ⟨u, hu⟩ : ∃ u : VC, u = ⟨v.key, a1, n1, k1, v.at_, v.origin, v.tx, v.act⟩ := ⟨_, rfl⟩
  have R1 : AC (st8 (w1.setCell ⟨w.heap.size, 1, none⟩ (.slice a1 n1 k1)) (w.heap.size + 1) 0 u) (w.heap.size + 1) u.cs := HE2.out.st8 0 u
  have R2 : FI w.heap.size (st8 (w1.setCell ⟨w.heap.size, 1, none⟩ (.slice a1 n1 k1)) (w.heap.size + 1) 0 u) (.slice a1 n1 k1) v.at_ := by
    have hlo := HSZ.out
    have HF2 := FI.fr (S := fun b => b = w.heap.size) HF.out (Fr.setj w1 w.heap.size 1 (.slice a1 n1 k1)) (fun b e q => by have := (World.ownsRow.lt HF.out.own b e).1; omega)
    have HF3 := FI.fr (S := fun b => b = w.heap.size + 1) HF2 (Fr.st8 _ (w.heap.size + 1) 0 u) (fun b e q => by have := (World.ownsRow.lt HF.out.own b e).1; omega)
    exact ⟨World.ownsRow.mono HF3.own (by omega), HF3.cap, HF3.wf⟩
  have R3 : Bl w (st8 (w1.setCell ⟨w.heap.size, 1, none⟩ (.slice a1 n1 k1)) (w.heap.size + 1) 0 u) := Bl.st8 (HBB.out.setCell (p := ⟨w.heap.size, 1, none⟩) (Nat.le_refl _) _) (Nat.le_succ _) 0 u
  subst hu
  exact bodyPost_ret (copied_results rfl R1) rfl ⟨a1, n1, k1, rfl, R2, R3⟩
end Go.Proofs.Ytdjlnpiaehoofaa
end
