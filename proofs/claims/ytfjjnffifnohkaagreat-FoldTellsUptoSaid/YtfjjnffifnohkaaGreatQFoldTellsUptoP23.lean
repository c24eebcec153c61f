import Derived.Test.YtfjjnffifnohkaaGreatQSortF
import Derived.Test.YtfjjnffifnohkaaGreatQFoldTellsUptoP10
import Derived.Test.YtfjjnffifnohkaaGreatQFoldTellsUptoP1
import Derived.Laws.AppendOwnNone

/- slices.stableCmpFunc, SortStableFunc over versions. By an AI agent. -/
section
set_option linter.unusedVariables false
set_option linter.unusedSimpArgs false
namespace Go.Proofs.YtfjjnffifnohkaaGreat
open Go.RowKit

theorem bk_nil (s : Nat) : bk leC s [] = [] := by rw [bk_small (Nat.zero_le _)]; rfl
theorem bk_append {s : Nat} (hs : 0 < s) : ∀ (q : Nat) (A B : List VC), A.length = q * s → bk leC s (A ++ B) = bk leC s A ++ bk leC s B
  | 0, A, B, h => by
    obtain rfl : A = [] := List.eq_nil_of_length_eq_zero (by omega)
    rw [bk_nil]; rfl
  | q + 1, A, B, h => by
    have hl : A.length = q * s + s := by rw [h, Nat.succ_mul]
    rw [bk_step hs (l := A ++ B) (by rw [List.length_append]; omega), bk_step hs (l := A) (by omega), List.take_append_of_le_length (by omega), List.drop_append_of_le_length (by omega), bk_append hs q (A.drop s) B (by rw [List.length_drop]; omega), List.append_assoc]
theorem bk_lenC {s : Nat} (hs : 0 < s) (l : List VC) : (bk leC s l).length = l.length := bk_len hs _ l (Nat.le_refl _)
/-- one block more is sorted -/
theorem bk_take {s q a : Nat} (hs : 0 < s) {X : List VC} (ha : a = q * s) (h : a + s ≤ X.length) : bk leC s (X.take (a + s)) = bk leC s (X.take a) ++ srt leC ((X.drop a).take s) := by
  rw [List.take_add, bk_append hs q (X.take a) _ (by rw [List.length_take, ← ha]; omega), bk_small (l := (X.drop a).take s) (by rw [List.length_take]; omega)]
theorem bk_split {s q a : Nat} (hs : 0 < s) {X : List VC} (ha : a = q * s) (h : a ≤ X.length) : bk leC s X = bk leC s (X.take a) ++ bk leC s (X.drop a) := by
  have := bk_append hs q (X.take a) (X.drop a) (by rw [List.length_take, ← ha]; omega)
  rwa [List.take_append_drop] at this
set_option maxHeartbeats 3200000 in
set_option maxRecDepth 100000 in
theorem stable_any (w W : World) (g n ca : Nat) (X : List VC) (hX : X.length = n) (hn1 : n ≤ 100000) (hr : RW w W g X) :
    Calls Tryz.prog 114 #[.slice (some ⟨g, 0, none⟩) n ca, .int .i64 n, .func (.func 22) #[] #[]] W fun e W' => e = .returned (.tuple #[]) ∧ RW w W' g (srt leC X) := by
  have HR := Lib.hid hr
  have HX := Lib.hid hX
  clear hr hX
  go_enter Tryz.func114, Tryz.ntmps114
  go_wp2_with fail
  go_loopw [7, 8] (fun av bv wr => ∃ q a b : Nat, a = q * 20 ∧ b = a + 20 ∧ a ≤ n ∧ av = .int .i64 (a : Int) ∧ bv = .int .i64 (b : Int) ∧ RW w wr g (bk leC 20 (X.take a) ++ X.drop a)) (fun _ bv _ => n + 20 - (intOf bv).toNat)
  case atStart => exact ⟨0, 0, 20, rfl, rfl, Nat.zero_le _, rfl, rfl, by rw [List.take_zero, bk_nil]; exact HR.out⟩
  case round =>
    clear HR
    obtain ⟨q, a, b, hq, hb, han, rfl, rfl, hrow⟩ := hrel
    have HROW := Lib.hid hrow
    have HQ := Lib.hid hq
    have HB := Lib.hid hb
    have b1 : a ≤ 1000000 := by omega
    have b2 : b ≤ 1000000 := by omega
    clear hrow hq hb
    have lP : (bk leC 20 (X.take a)).length = a := by rw [bk_lenC (by decide), List.length_take, HX.out]; omega
    have HLP := Lib.hid lP
    clear lP
    by_cases hle : b ≤ n
    · have q0 : decide ((b : Int) ≤ (n : Int)) = true := decide_eq_true (by omega)
      have q0n : decide (b ≤ n) = true := decide_eq_true hle
      have H := Lib.hid (isort_any w wr g n ca (bk leC 20 (X.take a)) ((X.drop a).take 20) (X.drop b) a b HLP.out (by rw [List.length_take, List.length_drop, HX.out]; have := HB.out; omega) (by rw [HLP.out, List.length_take, List.length_drop, List.length_drop, HX.out]; have := HB.out; omega) (by omega) (by rw [HB.out, ← List.drop_drop, List.take_append_drop]; exact HROW.out))
      have HE := Lib.hid (show bk leC 20 (X.take a) ++ (srt leC ((X.drop a).take 20) ++ X.drop b) = bk leC 20 (X.take b) ++ X.drop b by rw [HB.out, bk_take (q := q) (by decide) HQ.out (by rw [HX.out]; have := HB.out; omega), List.append_assoc])
      rw [HE.out] at H
      obtain ⟨c, hc⟩ : ∃ c, b + 20 = c := ⟨_, rfl⟩
      have s1 : (b : Int) + 20 = (c : Int) := by omega
      have HC := Lib.hid hc
      have b3 : c ≤ 1000000 := by omega
      clear hc
      go_wp2_with fail
      refine H.out.mono ?_
      rintro e W2 ⟨rfl, h2⟩
      have H2 := Lib.hid h2
      clear h2
      go_wp2_with fail
      go_roundw
      case rel => exact ⟨q + 1, b, c, by have := HQ.out; have := HB.out; omega, HC.out.symm, hle, rfl, rfl, H2.out⟩
      case measure => have := HC.out; simp [intOf]; omega
    · have q0 : decide ((b : Int) ≤ (n : Int)) = false := decide_eq_false (by omega)
      have q0n : decide (b ≤ n) = false := decide_eq_false hle
      have H := Lib.hid (isort_any w wr g n ca (bk leC 20 (X.take a)) (X.drop a) [] a n HLP.out (by rw [List.length_drop, HX.out]; omega) (by rw [HLP.out, List.length_drop, HX.out]; simp; omega) (by omega) (by rw [List.append_nil]; exact HROW.out))
      have HE := Lib.hid (show bk leC 20 (X.take a) ++ (srt leC (X.drop a) ++ []) = bk leC 20 X by rw [List.append_nil, bk_split (X := X) (q := q) (by decide) HQ.out (by rw [HX.out]; exact han), bk_small (l := X.drop a) (by rw [List.length_drop, HX.out]; have := HB.out; omega)])
      rw [HE.out] at H
      clear HROW HLP
      go_wp2_with fail
      refine H.out.mono ?_
      rintro e W2 ⟨rfl, h2⟩
      have H2 := Lib.hid h2
      clear h2 H HE
      go_wp2_with fail
      go_loopw [6] (fun sv wr => ∃ s : Nat, 20 ≤ s ∧ s ≤ 200000 ∧ sv = .int .i64 (s : Int) ∧ RW w wr g (bk leC s X)) (fun sv _ => n - (intOf sv).toNat)
      case atStart => exact ⟨20, Nat.le_refl _, by decide, rfl, H2.out⟩
      case round =>
        clear H2
        obtain ⟨s, hs1, hs2, rfl, hrow⟩ := hrel
        have HROW := Lib.hid hrow
        clear hrow
        by_cases hlt : s < n
        · have q1 : decide ((s : Int) < (n : Int)) = true := decide_eq_true (by omega)
          have q1n : decide (s < n) = true := decide_eq_true hlt
          obtain ⟨d, hd⟩ : ∃ d, 2 * s = d := ⟨_, rfl⟩
          have s2 : 2 * (s : Int) = (d : Int) := by omega
          have HD := Lib.hid hd
          have b3 : d ≤ 400000 := by omega
          have hs0 : 0 < s := by omega
          have hd0 : 0 < d := by omega
          clear hd
          go_wp2_with fail
          go_loopw [7, 8] (fun av bv wr => ∃ q a b : Nat, a = q * d ∧ b = a + d ∧ a ≤ n ∧ av = .int .i64 (a : Int) ∧ bv = .int .i64 (b : Int) ∧ RW w wr g (bk leC d (X.take a) ++ bk leC s (X.drop a))) (fun _ bv _ => n + d - (intOf bv).toNat)
          case atStart => exact ⟨0, 0, d, by omega, by omega, Nat.zero_le _, rfl, rfl, by rw [List.take_zero, bk_nil]; exact HROW.out⟩
          case round =>
            clear HROW
            obtain ⟨q', a', b', hq, hb, han', rfl, rfl, hrow⟩ := hrel
            have HROW := Lib.hid hrow
            have HQ' := Lib.hid hq
            have HB' := Lib.hid hb
            have b4 : a' ≤ 1000000 := by omega
            have b5 : b' ≤ 1000000 := by omega
            clear hrow hq hb
            have lP : (bk leC d (X.take a')).length = a' := by rw [bk_lenC hd0, List.length_take, HX.out]; omega
            have HLP := Lib.hid lP
            clear lP
            obtain ⟨m, hm⟩ : ∃ m, a' + s = m := ⟨_, rfl⟩
            have s3 : (a' : Int) + (s : Int) = (m : Int) := by omega
            have HM := Lib.hid hm
            have b6 : m ≤ 1000000 := by omega
            clear hm
            by_cases hle' : b' ≤ n
            · have q2 : decide ((b' : Int) ≤ (n : Int)) = true := decide_eq_true (by omega)
              have q2n : decide (b' ≤ n) = true := decide_eq_true hle'
              have eB : bk leC s (X.drop a') = srt leC ((X.drop a').take s) ++ (srt leC (((X.drop a').drop s).take s) ++ bk leC s (X.drop b')) := by
                rw [bk_step hs0 (l := X.drop a') (by rw [List.length_drop, HX.out]; have := HB'.out; have := HD.out; omega), bk_step hs0 (l := (X.drop a').drop s) (by rw [List.length_drop, List.length_drop, HX.out]; have := HB'.out; have := HD.out; omega), List.drop_drop, List.drop_drop, show a' + s + s = b' by have := HB'.out; have := HD.out; omega]
              have H := Lib.hid (symM_all w g n ca (by omega) (n + n) wr (bk leC d (X.take a')) (srt leC ((X.drop a').take s)) (srt leC (((X.drop a').drop s).take s)) (bk leC s (X.drop b')) a' m b' HLP.out (by rw [srt_len, List.length_take, List.length_drop, HX.out]; have := HB'.out; have := HD.out; have := HM.out; omega) (by rw [srt_len, List.length_take, List.length_drop, List.length_drop, HX.out]; have := HB'.out; have := HD.out; have := HM.out; omega) (by rw [bk_lenC hs0, List.length_drop, HX.out]; omega) (by rw [srt_len, List.length_take, List.length_drop, HX.out]; have := HB'.out; have := HD.out; omega) (by rw [srt_len, List.length_take, List.length_drop, List.length_drop, HX.out]; have := HB'.out; have := HD.out; omega) (by rw [srt_len, srt_len, List.length_take, List.length_take, List.length_drop, List.length_drop, HX.out]; omega) (srt_sorted leC_pre _) (srt_sorted leC_pre _) (by rw [← eB]; exact HROW.out))
              have HE := Lib.hid (show bk leC d (X.take a') ++ (mrg leC (srt leC ((X.drop a').take s)) (srt leC (((X.drop a').drop s).take s)) ++ bk leC s (X.drop b')) = bk leC d (X.take b') ++ bk leC s (X.drop b') by rw [bk_two leC_pre, HD.out, HB'.out, bk_take (q := q') hd0 HQ'.out (by rw [HX.out]; have := HB'.out; omega), List.append_assoc])
              rw [HE.out] at H
              obtain ⟨c, hc⟩ : ∃ c, b' + d = c := ⟨_, rfl⟩
              have s4 : (b' : Int) + (d : Int) = (c : Int) := by omega
              have HC := Lib.hid hc
              have b7 : c ≤ 1000000 := by omega
              clear hc
              clear eB HROW
              go_wp2_with fail
              refine H.out.mono ?_
              rintro e W2 ⟨rfl, h2⟩
              have H2 := Lib.hid h2
              clear h2
              go_wp2_with fail
              go_roundw
              case rel => exact ⟨q' + 1, b', c, by rw [Nat.succ_mul, ← HQ'.out, HB'.out], HC.out.symm, hle', rfl, rfl, H2.out⟩
              case measure => have := HC.out; simp [intOf]; omega
            · have q2 : decide ((b' : Int) ≤ (n : Int)) = false := decide_eq_false (by omega)
              have q2n : decide (b' ≤ n) = false := decide_eq_false hle'
              have eX := Lib.hid (show bk leC d X = bk leC d (X.take a') ++ srt leC (X.drop a') by rw [bk_split (X := X) (q := q') hd0 HQ'.out (by rw [HX.out]; exact han'), bk_small (l := X.drop a') (by rw [List.length_drop, HX.out]; have := HB'.out; omega)])
              have s4 : (s : Int) * 2 = (d : Int) := by omega
              by_cases hmn : m < n
              · have q3 : decide ((m : Int) < (n : Int)) = true := decide_eq_true (by omega)
                have q3n : decide (m < n) = true := decide_eq_true hmn
                have eB : bk leC s (X.drop a') = srt leC ((X.drop a').take s) ++ (srt leC ((X.drop a').drop s) ++ []) := by
                  rw [bk_step hs0 (l := X.drop a') (by rw [List.length_drop, HX.out]; have := HM.out; omega), bk_small (l := (X.drop a').drop s) (by rw [List.length_drop, List.length_drop, HX.out]; have := HB'.out; have := HD.out; omega), List.append_nil]
                have H := Lib.hid (symM_all w g n ca (by omega) (n + n) wr (bk leC d (X.take a')) (srt leC ((X.drop a').take s)) (srt leC ((X.drop a').drop s)) [] a' m n HLP.out (by rw [srt_len, List.length_take, List.length_drop, HX.out]; have := HM.out; omega) (by rw [srt_len, List.length_drop, List.length_drop, HX.out]; have := HM.out; omega) rfl (by rw [srt_len, List.length_take, List.length_drop, HX.out]; have := HM.out; omega) (by rw [srt_len, List.length_drop, List.length_drop, HX.out]; have := HM.out; omega) (by simp only [srt_len, List.length_take, List.length_drop, HX.out]; omega) (srt_sorted leC_pre _) (srt_sorted leC_pre _) (by rw [← eB]; exact HROW.out))
                have HE := Lib.hid (show bk leC d (X.take a') ++ (mrg leC (srt leC ((X.drop a').take s)) (srt leC ((X.drop a').drop s)) ++ []) = bk leC d X by rw [eX.out, List.append_nil, ← srt_append leC_pre, List.take_append_drop])
                rw [HE.out] at H
                clear eB HROW
                go_wp2_with fail
                refine H.out.mono ?_
                rintro e W2 ⟨rfl, h2⟩
                have H2 := Lib.hid h2
                clear h2
                go_wp2_with fail
                go_roundw
                case rel => exact ⟨d, by omega, by have := HD.out; omega, by go_num, H2.out⟩
                case measure => have := HD.out; simp [intOf]; omega
              · have q3 : decide ((m : Int) < (n : Int)) = false := decide_eq_false (by omega)
                have q3n : decide (m < n) = false := decide_eq_false hmn
                have H2 := Lib.hid (show RW w wr g (bk leC d X) by
                  have := HROW.out
                  rw [bk_small (l := X.drop a') (by rw [List.length_drop, HX.out]; have := HM.out; omega)] at this
                  rw [eX.out]; exact this)
                clear HROW
                go_wp2_with fail
                go_roundw
                case rel => exact ⟨d, by omega, by have := HD.out; omega, by go_num, H2.out⟩
                case measure => have := HD.out; simp [intOf]; omega
        · have q1 : decide ((s : Int) < (n : Int)) = false := decide_eq_false (by omega)
          have q1n : decide (s < n) = false := decide_eq_false hlt
          have H2 := Lib.hid (show RW w _ g (srt leC X) by rw [← bk_small (le := leC) (s := s) (by rw [HX.out]; omega)]; exact HROW.out)
          clear HROW
          go_wp2_with fail
          go_end0
          exact ⟨rfl, H2.out⟩
end Go.Proofs.YtfjjnffifnohkaaGreat
end

/- are two versions of one stamp; the order's test. By an AI agent. -/
section
set_option linter.unusedVariables false
set_option linter.unusedSimpArgs false
namespace Go.Proofs.YtfjjnffifnohkaaGreat
open Go.RowKit

def eqC (a b : VC) : Bool := eqV a.ver b.ver
set_option maxHeartbeats 1600000 in
set_option maxRecDepth 100000 in
theorem same_stamp (x y : VC) (w : World) {g : Nat} (hx : VOk w g x) (hy : VOk w g y) (r : Bool) (hr : Hid (eqC x y = r)) :
    Calls Tryz.prog 24 #[.agg #[.string x.key, .slice x.ad x.n x.ca, .int .i64 x.origin, .int .i64 x.tx, .int .i64 x.act.k, .float .f64 x.act.x, .int .i64 x.act.n, .string x.act.s], .agg #[.string y.key, .slice y.ad y.n y.ca, .int .i64 y.origin, .int .i64 y.tx, .int .i64 y.act.k, .float .f64 y.act.x, .int .i64 y.act.n, .string y.act.s]] w fun e w' => e = .returned (.bool r) ∧ Bl w w' := by
  have G := O2.new w x.cs y.cs 59 59
  obtain ⟨a0, a1, a2, a3, a4, a5, a6, a7⟩ := AC.ver (key := x.key) (a := x.ad) (n := x.n) (ca := x.ca) (o := x.origin) (t := x.tx) (k := x.act.k) (x := x.act.x) (m := x.act.n) (s := x.act.s) G.a
  obtain ⟨b0, b1, b2, b3, b4, b5, b6, b7⟩ := AC.ver (key := y.key) (a := y.ad) (n := y.n) (ca := y.ca) (o := y.origin) (t := y.tx) (k := y.act.k) (x := y.act.x) (m := y.act.n) (s := y.act.s) G.b
  obtain ⟨R, hR⟩ : ∃ R, orderL x.ver y.ver = R := ⟨_, rfl⟩
  have HRR := Lib.hid hR
  have HG := Lib.hid G.bl
  have HX := Lib.hid (hx.keep G.bl)
  have HY := Lib.hid (hy.keep G.bl)
  have hq : (R == 0) = r := by
    rw [← hr.out]
    unfold eqC eqV
    rw [hR, Bool.eq_iff_iff]; simp
  unfold VC.cs verC at *
  clear G hR hx hy
  go_enter Tryz.func24, Tryz.ntmps24
  go_wp2_with fail
  generalize (w.alloc _).alloc _ = W at *
  refine (forder_w x y R _ HX.out HY.out HRR).mono ?_
  rintro e w1 ⟨rfl, hb⟩
  go_wp2_with fail
  go_ret
  exact ⟨rfl, HG.out.trans hb⟩
/-! ### what 'clear' does to the end of a row -/
def zeroVC : VC := ⟨nilS, none, 0, 0, [], 0, 0, ⟨0, 0, 0, nilS⟩⟩
theorem zeroVC_ok (W : World) (g : Nat) : VOk W g zeroVC := ⟨IA.nil _ _, ⟨by decide, by decide, by decide, by decide⟩, .inl rfl⟩
theorem AC.puts {g : Nat} : ∀ (vs : List Value) (o : Nat) (W : World) (L : List Value), AC W g L → o + vs.length ≤ L.length → AC (W.setCells g o vs) g (L.take o ++ (vs ++ L.drop (o + vs.length)))
  | [], o, W, L, h, _ => by
    rw [List.nil_append, List.length_nil, Nat.add_zero, List.take_append_drop]; exact h
  | v :: vs, o, W, L, h, hl => by
    rw [List.length_cons] at hl
    have ih := AC.puts vs (o + 1) (W.setCell ⟨g, o, none⟩ v) (L.set o v) (h.putj o v) (by rw [List.length_set]; omega)
    have e : (L.set o v).take (o + 1) ++ (vs ++ (L.set o v).drop (o + 1 + vs.length)) = L.take o ++ ((v :: vs) ++ L.drop (o + (v :: vs).length)) := by
      rw [List.take_add_one, List.getElem?_set_self (by omega), List.take_set_of_le (Nat.le_refl o), List.drop_set_of_lt (by omega), List.length_cons, show o + 1 + vs.length = o + (vs.length + 1) by omega]
      simp
    rw [e] at ih
    exact ih
theorem FrG.puts {w : World} {g : Nat} : ∀ (vs : List Value) (o : Nat) (W : World), FrG w g W → FrG w g (W.setCells g o vs)
  | [], _, _, h => h
  | v :: vs, o, W, h => FrG.puts vs (o + 1) _ (h.set o v)
theorem VOk.puts {g : Nat} {x : VC} : ∀ (vs : List Value) (o : Nat) (W : World), VOk W g x → VOk (W.setCells g o vs) g x
  | [], _, _, h => h
  | v :: vs, o, W, h => VOk.puts vs (o + 1) _ (h.set o v)
theorem flat_append (xs ys : List VC) : flat (xs ++ ys) = flat xs ++ flat ys := by unfold flat; rw [List.flatMap_append]
theorem zero_cells (m : Nat) : (Builtin.zeroCells zeroVC.cs.toArray m).toList = flat (List.replicate m zeroVC) := by
  refine List.ext_getElem? (fun i => ?_)
  have hl : (flat (List.replicate m zeroVC)).length = m * 8 := by rw [flat_len, List.length_replicate]
  by_cases h : i < m * 8
  · obtain ⟨k, r, hr, rfl⟩ : ∃ k r, r < 8 ∧ i = k * 8 + r := ⟨i / 8, i % 8, by omega, by omega⟩
    rw [flat_get _ _ _ (by rw [List.length_replicate]; omega) hr]
    have e : el (List.replicate m zeroVC) k = zeroVC := by unfold el; rw [List.getElem?_replicate, if_pos (by omega)]; rfl
    rw [e]
    unfold Builtin.zeroCells
    have hz : zeroVC.cs.toArray.size = 8 := rfl
    rw [hz]
    rw [Array.getElem?_toList, Array.getElem?_map, Array.getElem?_range, if_pos (by omega)]
    simp only [Option.map_some, Nat.mul_comm k 8, Nat.mul_add_mod, Nat.mod_eq_of_lt hr]
    match r, hr with
    | 0, _ => rfl
    | 1, _ => rfl
    | 2, _ => rfl
    | 3, _ => rfl
    | 4, _ => rfl
    | 5, _ => rfl
    | 6, _ => rfl
    | 7, _ => rfl
  · have e1 : (flat (List.replicate m zeroVC))[i]? = none := List.getElem?_eq_none (by omega)
    have e2 : (Builtin.zeroCells zeroVC.cs.toArray m).toList[i]? = none := by
      refine List.getElem?_eq_none ?_
      unfold Builtin.zeroCells
      have hz : zeroVC.cs.toArray.size = 8 := rfl
      simp only [Array.length_toList, Array.size_map, Array.size_range, hz]; omega
    rw [e1, e2]
set_option maxRecDepth 100000 in
theorem clear_row {w W : World} {g n kk : Nat} {zs : List VC} (h : RW w W g zs) (hn : zs.length = n) (hk : kk < n) (ty : TypeId) (c : Nat) :
    ∃ W', (Builtin.clear_ #[22] ty #[.slice (some ⟨g, kk * 8, none⟩) (n - kk) c]).run Tryz.prog W = .ok (.tuple #[]) W' ∧ RW w W' g (zs.take kk ++ List.replicate (n - kk) zeroVC) := by
  have hl := flat_len zs
  have hv : (flat (List.replicate (n - kk) zeroVC)).length = (n - kk) * 8 := by rw [flat_len, List.length_replicate]
  have hcell : ∀ j, j < (n - kk) * 8 → (W.cell? ⟨g, kk * 8 + 0 + j, none⟩).isSome = true := fun j hj => by
    obtain ⟨sp, hr⟩ := h.row
    have : (flat zs ++ sp)[kk * 8 + 0 + j]? = some ((flat zs ++ sp)[kk * 8 + 0 + j]'(by rw [List.length_append]; omega)) := List.getElem?_eq_getElem _
    rw [hr.cell _ _ this]; rfl
  have hst := run_storeCells_cells (P := Tryz.prog) g (kk * 8) (flat (List.replicate (n - kk) zeroVC)) 0 W (fun j hj => hcell j (by rw [hv] at hj; exact hj)) (fun j hj => h.frozen _) (fun v hv => by
    unfold flat at hv
    obtain ⟨x, hx, hm⟩ := List.mem_flatMap.1 hv
    rw [(List.mem_replicate.1 hx).2] at hm
    simp only [VC.cs, verC, List.mem_cons, List.not_mem_nil, or_false] at hm
    rcases hm with rfl | rfl | rfl | rfl | rfl | rfl | rfl | rfl <;> rfl)
  rw [Nat.add_zero] at hst
  have hz : ∀ W : World, (zeroValue 59).run Tryz.prog W = .ok (.agg zeroVC.cs.toArray) W := fun W => by rfl
  refine ⟨W.setCells g (kk * 8) (flat (List.replicate (n - kk) zeroVC)), ?_, ?_⟩
  · obtain ⟨m, hm⟩ : ∃ m, n - kk = m + 1 := ⟨n - kk - 1, by omega⟩
    rw [hm] at hst ⊢
    have hzc := zero_cells (m + 1)
    simp only [Builtin.clear_]
    simp [run_underlying Tryz.underlying22, hz, Value.cells, hzc, hst]
  · obtain ⟨sp, hr⟩ := h.row
    refine ⟨h.bl.puts _ _ _, ⟨sp, ?_⟩, fun v hv => ?_⟩
    · have := AC.puts (flat (List.replicate (n - kk) zeroVC)) (kk * 8) W _ hr (by rw [List.length_append]; omega)
      have e1 : (flat zs ++ sp).take (kk * 8) = flat (zs.take kk) := by
        have : flat zs = flat (zs.take kk) ++ flat (zs.drop kk) := by rw [← flat_append, List.take_append_drop]
        have l1 : (flat (zs.take kk)).length = kk * 8 := by rw [flat_len, List.length_take]; omega
        rw [this, List.append_assoc, List.take_left' l1]
      have e2 : (flat zs ++ sp).drop (kk * 8 + (flat (List.replicate (n - kk) zeroVC)).length) = sp := by
        rw [List.drop_left' (by rw [hv, hl]; omega)]
      rw [e1, e2] at this
      rw [flat_append, List.append_assoc]
      exact this
    · rcases List.mem_append.1 hv with q | q
      · exact (h.ok v (List.mem_of_mem_take q)).puts _ _ _
      · rw [(List.mem_replicate.1 q).2]; exact zeroVC_ok _ _
end Go.Proofs.YtfjjnffifnohkaaGreat
end

/- slices.CompactFunc over versions. By an AI agent. -/
section
set_option linter.unusedVariables false
set_option linter.unusedSimpArgs false
namespace Go.Proofs.YtfjjnffifnohkaaGreat
open Go.RowKit
attribute [local go_sem] eOp eOper eUpon

theorem go_drop (eq : VC → VC → Bool) {ys : List VC} {j : Nat} (p : VC) (h : j < ys.length) : cptGo eq p (ys.drop j) = if eq (el ys j) p then cptGo eq (el ys j) (ys.drop (j + 1)) else el ys j :: cptGo eq (el ys j) (ys.drop (j + 1)) := by
  rw [drop_el h]; rfl
theorem cpt_first (eq : VC → VC → Bool) {ys : List VC} (h : 1 ≤ ys.length) : cpt eq ys = ys.take 1 ++ cptGo eq (el ys (1 - 1)) (ys.drop 1) := by
  cases ys with
  | nil => simp at h
  | cons y ys => rfl
theorem cpt_short (eq : VC → VC → Bool) {ys : List VC} (h : ys.length < 2) : cpt eq ys = ys := by
  match ys, h with
  | [], _ => rfl
  | [y], _ => rfl
/-- how far the first loop is -/
structure CP1 (ys : List VC) (k : Nat) : Prop where
  lo : 1 ≤ k
  hi : k ≤ ys.length
  is_ : cpt eqC ys = ys.take k ++ cptGo eqC (el ys (k - 1)) (ys.drop k)
theorem CP1.no {ys : List VC} {k : Nat} (h : CP1 ys k) (hk : k < ys.length) (he : eqC (el ys k) (el ys (k - 1)) = false) : CP1 ys (k + 1) := by
  refine ⟨by have := h.lo; omega, hk, ?_⟩
  rw [h.is_, go_drop _ _ hk, he, take_el hk, Nat.add_sub_cancel]
  simp
/-- how far the second loop is -/
structure CP2 (ys zs : List VC) (kk pos : Nat) : Prop where
  lo : 1 ≤ kk
  hi : pos ≤ ys.length
  kp : kk + 1 ≤ pos
  len : zs.length = ys.length
  same : ∀ i, pos ≤ i + 1 → el zs i = el ys i
  is_ : cpt eqC ys = zs.take kk ++ cptGo eqC (el ys (pos - 1)) (ys.drop pos)
theorem CP1.yes {ys : List VC} {k : Nat} (h : CP1 ys k) (hk : k < ys.length) (he : eqC (el ys k) (el ys (k - 1)) = true) : CP2 ys ys k (k + 1) := by
  refine ⟨h.lo, hk, Nat.le_refl _, rfl, fun _ _ => rfl, ?_⟩
  rw [h.is_, go_drop _ _ hk, he, Nat.add_sub_cancel]
  simp
theorem CP2.yes {ys zs : List VC} {kk pos : Nat} (h : CP2 ys zs kk pos) (hk : pos < ys.length) (he : eqC (el ys pos) (el ys (pos - 1)) = true) : CP2 ys zs kk (pos + 1) := by
  refine ⟨h.lo, hk, by have := h.kp; omega, h.len, fun i hi => h.same i (by omega), ?_⟩
  rw [h.is_, go_drop _ _ hk, he, Nat.add_sub_cancel]
  simp
theorem CP2.no {ys zs : List VC} {kk pos : Nat} (h : CP2 ys zs kk pos) (hk : pos < ys.length) (he : eqC (el ys pos) (el ys (pos - 1)) = false) : CP2 ys (zs.set kk (el ys pos)) (kk + 1) (pos + 1) := by
  have hkz : kk < zs.length := by have := h.len; have := h.kp; omega
  refine ⟨by omega, hk, by have := h.kp; omega, by rw [List.length_set]; exact h.len, fun i hi => ?_, ?_⟩
  · rw [el_set hkz, if_neg (by have := h.kp; omega)]; exact h.same i (by omega)
  · rw [h.is_, go_drop _ _ hk, he, Nat.add_sub_cancel, List.take_add_one, List.take_set_of_le (Nat.le_refl kk), List.getElem?_set_self hkz]
    simp
theorem CP2.done {ys zs : List VC} {kk pos : Nat} (h : CP2 ys zs kk pos) (hk : ¬ pos < ys.length) : cpt eqC ys = zs.take kk := by
  rw [h.is_, List.drop_eq_nil_of_le (by omega)]
  simp [cptGo]
set_option maxHeartbeats 3200000 in
set_option maxRecDepth 100000 in
theorem compact_any (w W : World) (g n ca : Nat) (ys : List VC) (hl : ys.length = n) (hn1 : n ≤ 1000000) (hca : n ≤ ca) (hr : RW w W g ys) :
    Calls Tryz.prog 23 #[.slice (some ⟨g, 0, none⟩) n ca, .func (.func 24) #[] #[]] W fun e W' => ∃ (m : Nat) (rest : List VC), e = .returned (.slice (some ⟨g, 0, none⟩) m ca) ∧ (cpt eqC ys).length = m ∧ RW w W' g (cpt eqC ys ++ rest) ∧ (cpt eqC ys ++ rest).length = n := by
  have hsf := store_fl
  have HR := Lib.hid hr
  have HL := Lib.hid hl
  clear hr hl
  go_enter Tryz.func23, Tryz.ntmps23
  by_cases h2 : n < 2
  · have q0 : decide ((n : Int) < 2) = true := decide_eq_true (by omega)
    have q0n : decide (n < 2) = true := decide_eq_true h2
    have HS := Lib.hid (cpt_short eqC (show ys.length < 2 by rw [HL.out]; exact h2))
    go_wp2_with fail
    go_ret
    exact ⟨n, [], rfl, by rw [HS.out]; exact HL.out, by rw [HS.out, List.append_nil]; exact HR.out.keep (by simpa using Bl.refl _), by rw [HS.out, List.append_nil]; exact HL.out⟩
  have q0 : decide ((n : Int) < 2) = false := decide_eq_false (by omega)
  have q0n : decide (n < 2) = false := decide_eq_false h2
  have H2 := Lib.hid h2
  clear h2
  go_wp2_with fail
  go_loopw [5] (fun iv wr => ∃ k : Nat, CP1 ys k ∧ iv = .int .i64 (k : Int) ∧ RW w wr g ys) (fun iv _ => n + 1 - (intOf iv).toNat)
  case atStart => exact ⟨1, ⟨Nat.le_refl _, by have := HL.out; have := H2.out; omega, cpt_first _ (by have := HL.out; have := H2.out; omega)⟩, by go_num, HR.out⟩
  case round =>
    clear HR
    obtain ⟨k, hc1, rfl, hrow⟩ := hrel
    have HC1 := Lib.hid hc1
    have HRI := Lib.hid hrow
    clear hc1 hrow
    by_cases hlt : k < n
    · have q1 : decide ((k : Int) < (n : Int)) = true := decide_eq_true (by omega)
      have q1n : decide (k < n) = true := decide_eq_true hlt
      obtain ⟨m, hm⟩ : ∃ m, m + 1 = k := ⟨k - 1, by have := HC1.out.lo; omega⟩
      have hw : IntKind.i64.wrap ((k : Int) - 1) = (m : Int) := by rw [IntKind.wrap_i64]; omega
      have hmn : m < n := by omega
      have HM := Lib.hid hm
      clear hm
      have hmk := Lib.hid (show k - 1 = m by have := HM.out; omega)
      obtain ⟨x, hx⟩ : ∃ x, el ys k = x := ⟨_, rfl⟩
      obtain ⟨y, hy⟩ : ∃ y, el ys m = y := ⟨_, rfl⟩
      have ex := Lib.hid hx
      have ey := Lib.hid hy
      clear hx hy
      obtain ⟨r, hr⟩ : ∃ r, eqC x y = r := ⟨_, rfl⟩
      have HRR := Lib.hid hr
      clear hr
      go_upto_region 6 with fail
      refine wp_region_allS (by kernel_rfl) (by kernel_rfl) ?_
      have HZ := Lib.hid (HRI.out.keep ((Bl.refl wr).drew))
      clear HRI
      generalize wr.drew = Z at *
      obtain ⟨x0, x1, x2, x3, x4, x5, x6, x7⟩ := HZ.out.all8 (by rw [HL.out]; exact hlt) ex.out
      obtain ⟨y0, y1, y2, y3, y4, y5, y6, y7⟩ := HZ.out.all8 (by rw [HL.out]; exact hmn) ey.out
      have V := Lib.hid (fun q : Ext Z => same_stamp x y q.at (g := g) (ex.out ▸ (HZ.out.keep q.bl).at_ (by rw [HL.out]; exact hlt)) (ey.out ▸ (HZ.out.keep q.bl).at_ (by rw [HL.out]; exact hmn)) r HRR)
      repeat (refine wpS_step (fun K hK => ?_); go_simp; first | (refine hK _ ?_; clear hK K) | (apply Exists.intro; refine ⟨fun q => ?_, hK _ ?_⟩; (with_reducible exact V.out q); clear hK K))
      refine wpS_nil ?_
      intro q1
      have HZ0 := Lib.hid (HZ.out.keep q1.bl)
      clear x0 x1 x2 x3 x4 x5 x6 x7 y0 y1 y2 y3 y4 y5 y6 y7 V HZ
      generalize q1.at = Y at *
      clear q1
      have HE := Lib.hid (show eqC (el ys k) (el ys (k - 1)) = r by rw [hmk.out, ex.out, ey.out]; exact HRR.out)
      clear HRR ex ey
      cases r
      case false =>
        have HC := Lib.hid (HC1.out.no (by rw [HL.out]; exact hlt) HE.out)
        go_wp2_with fail
        go_roundw
        case rel => exact ⟨k + 1, HC.out, by go_num, HZ0.out⟩
        case measure => simp [intOf]; omega
      case true =>
        have HC := Lib.hid (HC1.out.yes (by rw [HL.out]; exact hlt) HE.out)
        have qc : ¬ (ca = k) := by omega
        obtain ⟨d, hd⟩ : ∃ d, n - k = d := ⟨_, rfl⟩
        have s1 : (n : Int) - (k : Int) = (d : Int) := by omega
        obtain ⟨cd, hcd⟩ : ∃ cd, ca - k = cd := ⟨_, rfl⟩
        have s2 : (ca : Int) - (k : Int) = (cd : Int) := by omega
        go_wp2_with fail
        have HDD := Lib.hid (show k + d = n by omega)
        have hcdn : d ≤ cd := by omega
        clear hd hcd s1 s2 H2 HM hmk HC1
        have hdn : d ≤ 1000000 := by have := HDD.out; omega
        go_loopw [5, 7] (fun iv jv wr => ∃ (kk k2 pos : Nat) (zs : List VC), CP2 ys zs kk pos ∧ 1 ≤ k2 ∧ k + k2 = pos ∧ iv = .int .i64 (kk : Int) ∧ jv = .int .i64 (k2 : Int) ∧ RW w wr g zs) (fun _ jv _ => n + 1 - (intOf jv).toNat)
        case atStart => exact ⟨k, 1, k + 1, ys, HC.out, Nat.le_refl _, rfl, rfl, by go_num, HZ0.out⟩
        case round =>
          clear HZ0 HC HE
          obtain ⟨kk, k2, pos, zs, hc2, h1, hp, rfl, rfl, hrow⟩ := hrel
          have HC2 := Lib.hid hc2
          have HRI := Lib.hid hrow
          have HP := Lib.hid hp
          clear hc2 hrow hp
          have hkk : kk < n := by have := HC2.out.kp; have := HC2.out.hi; have := HL.out; omega
          have hkz : zs.length = n := by rw [HC2.out.len]; exact HL.out
          have HKZ := Lib.hid hkz
          clear hkz
          have hk2 : k2 ≤ d := by have := HC2.out.hi; have := HL.out; have := HDD.out; have := HP.out; omega
          by_cases hlt2 : k2 < d
          · have q2 : decide ((k2 : Int) < (d : Int)) = true := decide_eq_true (by omega)
            have q2n : decide (k2 < d) = true := decide_eq_true hlt2
            have hpn : pos < n := by have := HDD.out; have := HP.out; omega
            obtain ⟨m2, hm⟩ : ∃ m, m + 1 = k2 := ⟨k2 - 1, by omega⟩
            have hw2 : IntKind.i64.wrap ((k2 : Int) - 1) = (m2 : Int) := by rw [IntKind.wrap_i64]; omega
            have hm2n : m2 < d := by omega
            obtain ⟨pm, hpm⟩ : ∃ pm, pm + 1 = pos := ⟨pos - 1, by have := HP.out; omega⟩
            have hpmn : pm < n := by omega
            have a1 := Lib.hid (show pos * 8 = k * 8 + k2 * 8 by have := HP.out; omega)
            have a2 := Lib.hid (show pm * 8 = k * 8 + m2 * 8 by have := HP.out; omega)
            have hpe := Lib.hid (show pos - 1 = pm by omega)
            clear hm hpm
            obtain ⟨x, hx⟩ : ∃ x, el ys pos = x := ⟨_, rfl⟩
            obtain ⟨y, hy⟩ : ∃ y, el ys pm = y := ⟨_, rfl⟩
            have ex := Lib.hid hx
            have ey := Lib.hid hy
            have ezx := Lib.hid (show el zs pos = x by rw [HC2.out.same _ (by omega)]; exact hx)
            have ezy := Lib.hid (show el zs pm = y by rw [HC2.out.same _ (by have := hpe.out; omega)]; exact hy)
            clear hx hy
            obtain ⟨r, hr⟩ : ∃ r, eqC x y = r := ⟨_, rfl⟩
            have HRR := Lib.hid hr
            clear hr
            go_upto_region 11 with fail
            refine wp_region_allS (by kernel_rfl) (by kernel_rfl) ?_
            have HZ := Lib.hid (HRI.out.keep ((Bl.refl wr).drew))
            clear HRI
            generalize wr.drew = Z at *
            have xs := HZ.out.all8 (by rw [HKZ.out]; exact hpn) ezx.out
            have ysx := HZ.out.all8 (by rw [HKZ.out]; exact hpmn) ezy.out
            rw [a1.out] at xs
            rw [a2.out] at ysx
            obtain ⟨x0, x1, x2, x3, x4, x5, x6, x7⟩ := xs
            obtain ⟨y0, y1, y2, y3, y4, y5, y6, y7⟩ := ysx
            have V := Lib.hid (fun q : Ext Z => same_stamp x y q.at (g := g) (ezx.out ▸ (HZ.out.keep q.bl).at_ (by rw [HKZ.out]; exact hpn)) (ezy.out ▸ (HZ.out.keep q.bl).at_ (by rw [HKZ.out]; exact hpmn)) r HRR)
            repeat (refine wpS_step (fun K hK => ?_); go_simp; first | (refine hK _ ?_; clear hK K) | (apply Exists.intro; refine ⟨fun q => ?_, hK _ ?_⟩; (with_reducible exact V.out q); clear hK K))
            refine wpS_nil ?_
            intro q1
            have HZ0 := Lib.hid (HZ.out.keep q1.bl)
            clear x0 x1 x2 x3 x4 x5 x6 x7 y0 y1 y2 y3 y4 y5 y6 y7 V HZ
            generalize q1.at = Y at *
            clear q1
            have HE := Lib.hid (show eqC (el ys pos) (el ys (pos - 1)) = r by rw [hpe.out, ex.out, ey.out]; exact HRR.out)
            clear HRR ey ezy
            cases r
            case true =>
              have HC := Lib.hid (HC2.out.yes (by rw [HL.out]; exact hpn) HE.out)
              go_wp2_with fail
              go_roundw
              case rel => exact ⟨kk, k2 + 1, pos + 1, zs, HC.out, by omega, by have := HP.out; omega, rfl, by go_num, HZ0.out⟩
              case measure => have := HDD.out; simp [intOf]; omega
            case false =>
              have HC := Lib.hid (HC2.out.no (by rw [HL.out]; exact hpn) HE.out)
              rw [ex.out] at HC
              have xs := HZ0.out.at8 (by rw [HKZ.out]; exact hpn) ezx.out
              rw [a1.out] at xs
              obtain ⟨x0, x1, x2, x3, x4, x5, x6, x7⟩ := xs
              obtain ⟨e0, e1, e2, e3, e4, e5, e6, e7⟩ := HZ0.out.cells (j := kk) (by rw [HKZ.out]; exact hkk)
              have f0 := HZ0.out.frozen (kk * 8)
              have f1 := HZ0.out.frozen (kk * 8 + 1)
              have f2 := HZ0.out.frozen (kk * 8 + 2)
              have f3 := HZ0.out.frozen (kk * 8 + 3)
              have f4 := HZ0.out.frozen (kk * 8 + 4)
              have f5 := HZ0.out.frozen (kk * 8 + 5)
              have f6 := HZ0.out.frozen (kk * 8 + 6)
              have f7 := HZ0.out.frozen (kk * 8 + 7)
              have hv1 : VOk _ g x := ezx.out ▸ HZ0.out.at_ (j := pos) (by rw [HKZ.out]; exact hpn)
              have k5 := HZ0.out.st8 (j := kk) (by rw [HKZ.out]; exact hkk) hv1
              unfold st8 at k5
              have H5 := Lib.hid k5
              clear k5 hv1
              go_wp2_with fail
              go_roundw
              case rel => exact ⟨kk + 1, k2 + 1, pos + 1, zs.set kk x, HC.out, by omega, by have := HP.out; omega, by go_num, by go_num, H5.out⟩
              case measure => have := HDD.out; simp [intOf]; omega
          · have q2 : decide ((k2 : Int) < (d : Int)) = false := decide_eq_false (by omega)
            have q2n : decide (k2 < d) = false := decide_eq_false hlt2
            have HE := Lib.hid (HC2.out.done (by rw [HL.out]; have := HP.out; have := HDD.out; omega))
            have qk : ¬ (ca = kk) := by omega
            obtain ⟨W2, hcl, hr2⟩ := clear_row HRI.out HKZ.out hkk 0 (ca - kk)
            have hr3 := Lib.hid hr2
            clear hr2
            obtain ⟨e, he⟩ : ∃ e, n - kk = e := ⟨_, rfl⟩
            have s1 : (n : Int) - (kk : Int) = (e : Int) := by omega
            obtain ⟨ce, hce⟩ : ∃ ce, ca - kk = ce := ⟨_, rfl⟩
            have s2 : (ca : Int) - (kk : Int) = (ce : Int) := by omega
            rw [he, hce] at hcl
            go_wp2_with fail
            go_ret
            refine ⟨kk, List.replicate e zeroVC, rfl, ?_, ?_, ?_⟩
            · rw [HE.out, List.length_take, HKZ.out]; omega
            · rw [HE.out, ← he]; exact hr3.out
            · rw [HE.out, ← he, List.length_append, List.length_take, HKZ.out, List.length_replicate]; omega
    · have q1 : decide ((k : Int) < (n : Int)) = false := decide_eq_false (by omega)
      have q1n : decide (k < n) = false := decide_eq_false hlt
      have HE := Lib.hid (show cpt eqC ys = ys by
        rw [HC1.out.is_, List.drop_eq_nil_of_le (by have := HL.out; omega), List.take_of_length_le (by have := HL.out; omega)]; simp [cptGo])
      go_wp2_with fail
      go_ret
      exact ⟨n, [], rfl, by rw [HE.out]; exact HL.out, by rw [HE.out, List.append_nil]; exact HRI.out, by rw [HE.out, List.append_nil]; exact HL.out⟩
end Go.Proofs.YtfjjnffifnohkaaGreat
end

/- slices.Clone of a vector. By an AI agent. -/
section
set_option linter.unusedVariables false
set_option linter.unusedSimpArgs false
namespace Go.Proofs.YtfjjnffifnohkaaGreat
open Go.RowKit

set_option maxHeartbeats 400000 in
theorem vclone_any (a : Option Addr) (n ca : Nat) (xs : List Int) (w : World) (hx : IA w a n xs) :
    Calls Tryz.prog 113 #[.slice a n ca] w fun e w' => ∃ v, e = .returned v ∧ FI w.heap.size w' v xs ∧ Bl w w' := by
  obtain ⟨i0, hi, hz0, hz1, hz2⟩ := info_parts info_int
  have hx1 := hx.cap
  have hnil := fun (w : World) => Lib.run_eql_slice_nil w 24 3 a n ca 0 0 Tryz.underlying24
  cases a with
  | none =>
    have hn : n = 0 := by
      rcases Nat.eq_zero_or_pos n with h | h
      · exact h
      · obtain ⟨_, _, h', _⟩ := hx.cells 0 h
        simp at h'
    have hxs : xs = [] := List.eq_nil_of_length_eq_zero (hx.len.trans hn)
    subst hn hxs
    go_enter Tryz.func113, Tryz.ntmps113
    go_wp2
    go_ret
    exact ⟨_, rfl, FI.nil _ _, Bl.refl _⟩
  | some ad =>
    have hcells : ∀ j u, (xs.map (Value.int .i64))[j]? = some u → ∀ o, (w.alloc o).cell? (ad.add j) = some u := by
      intro j u hj o
      have hjl : j < n := by
        have := (List.getElem?_eq_some_iff.1 hj).1
        simpa [hx.len] using this
      obtain ⟨b, off, e, hc⟩ := hx.cells j hjl
      obtain rfl := Option.some.inj e
      have h1 := hc j hjl
      rw [← Go.WideShapes.add_plain] at h1
      rw [((Bl.refl w).alloc o).cell h1]
      have hjx : j < xs.length := by rw [hx.len]; exact hjl
      simp [hjx] at hj
      rw [nth_eq hjx, hj]
    have HC := Lib.hid hcells; clear hcells
    have HX := Lib.hid hx
    have HL := Lib.hid hx.len
    clear hx
    go_enter Tryz.func113, Tryz.ntmps113
    go_wp2_with (at_builtin; refine wpList_append_own _ rfl _ _ 24 rfl (w.heap.size) 3 i0 (.int .i64 0) 1 8 Tryz.underlying24 hi hz0 hz1 hz2 rfl (by decide) _ 0 [] rfl (World.ownsRow_lit w #[] 0 (Nat.le_refl _) (by decide) rfl) ad n ca (xs.map (Value.int .i64)) rfl ?c1 ?c2 ?c3 ?c4 ?c5 ?c6 ?_)
    case c1 => simp [HL.out]
    case c2 => intro j u hj; exact HC.out j u hj _
    case c3 => intro u hu; simp at hu; obtain ⟨x, _, rfl⟩ := hu; rfl
    case c4 => unfold maxLen; omega
    case c5 => omega
    case c6 => simp
    intro v' w1 hown' hgrow _
    have hb : Bl w w1 := ((Bl.refl w).alloc _).grown hgrow (by simp) (fun k hk => by simp [Value.ownBlock] at hk; omega)
    have hf : FI w.heap.size w1 v' xs := ⟨by simpa [OI, HL.out] using hown', by rw [HL.out]; exact hx1, HX.out.wf⟩
    clear hown' hgrow
    go_wp2
    go_ret
    exact ⟨_, rfl, hf, hb⟩
end Go.Proofs.YtfjjnffifnohkaaGreat
end
