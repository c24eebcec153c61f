import Derived.Test.YtaokennbpgdngaaQStreamBytesP8
import Derived.Test.YtaokennbpgdngaaCore3
import Derived.Test.YtaokennbpgdngaaCore1
import Derived.Deep.Cut

/- bedrocklaw22.light: are transactions few and short enough? By an AI agent. -/
section
set_option linter.unusedVariables false
set_option linter.unusedSimpArgs false
namespace Go.Proofs.Ytaokennbpgdngaa
open Go.RowKit
attribute [local go_sem] eOp eOper eUpon

def smallT (t : TxnL) : Bool := lightB t.ws && (decide (t.at_.length + t.deps.length ≤ 40) && decide (t.ws.length ≤ 30))
def lightT (ts : List TxnL) : Bool := (List.range ts.length).all (fun i => smallT (nthT ts i)) && decide (ts.length ≤ 30)
theorem lightT_no {ts : List TxnL} {k : Nat} (hk : k < ts.length) (h : smallT (nthT ts k) = false) : lightT ts = false := by
  unfold lightT
  rw [Bool.and_eq_false_iff]
  left
  rw [List.all_eq_false]
  exact ⟨k, List.mem_range.2 hk, by rw [h]; simp⟩
theorem lightT_end {ts : List TxnL} (h : ∀ j, j < ts.length → smallT (nthT ts j) = true) : lightT ts = decide (ts.length ≤ 30) := by
  unfold lightT
  rw [List.all_eq_true.2 (fun j hj => h j (List.mem_range.1 hj)), Bool.true_and]
theorem lightT_parts {ts : List TxnL} (h : lightT ts = true) : ts.length ≤ 30 ∧ ∀ j, j < ts.length → smallT (nthT ts j) = true := by
  simp only [lightT, Bool.and_eq_true, decide_eq_true_eq, List.all_eq_true, List.mem_range] at h
  exact ⟨h.2, h.1⟩
set_option maxHeartbeats 6400000 in
set_option maxRecDepth 100000 in
theorem light22_any (ta : Option Addr) (tn tc : Nat) (ts : List TxnL) (f : Nat → TxAt) (w : World) (hp : TS w ta tn ts f) :
    Calls Try.prog 9 #[.slice ta tn tc] w fun e w' => e = .returned (.bool (lightT ts)) ∧ Bl w w' := by
  have hcap := hp.cap
  have HP := Lib.hid hp
  have HL := Lib.hid hp.len
  clear hp
  go_enter Try.func9, Try.ntmps9
  go_wp2_with fail
  go_loopw [3] (fun i wr => ∃ k : Nat, k ≤ tn ∧ i = .int .i64 k ∧ Bl w wr ∧ ∀ j, j < k → smallT (nthT ts j) = true) (fun i _ => tn - (intOf i).toNat)
  case atStart => exact ⟨0, Nat.zero_le _, rfl, Bl.refl _, fun j hj => absurd hj (Nat.not_lt_zero _)⟩
  case round =>
    obtain ⟨k, hk, rfl, hbl, hok⟩ := hrel
    have HBL := Lib.hid hbl
    have HOK := Lib.hid hok
    clear hbl hok
    by_cases hlt : k < tn
    · have hkl : k < ts.length := by rw [HL.out]; exact hlt
      obtain ⟨ba, oa, rfl, _⟩ := HP.out.cells k hlt
      have HTX := Lib.hid ((HP.out.tx k hlt).keep (HBL.out.drew))
      have HTC := Lib.hid (HP.out.get (HBL.out.drew) hlt)
      have HSM : Hid (smallT (nthT ts k) = (lightB (nthT ts k).ws && (decide ((nthT ts k).at_.length + (nthT ts k).deps.length ≤ 40) && decide ((nthT ts k).ws.length ≤ 30)))) := Lib.hid rfl
      have HNO := Lib.hid (fun h => lightT_no hkl h)
      have HYES : Hid (smallT (nthT ts k) = true → ∀ j, j < k + 1 → smallT (nthT ts j) = true) := Lib.hid (fun h j hj => by
        rcases Nat.lt_or_ge j k with h' | h'
        · exact HOK.out j h'
        · obtain rfl : j = k := by omega
          exact h)
      clear hkl
      generalize smallT (nthT ts k) = sk at *
      generalize nthT ts k = t at *
      generalize f k = s at *
      obtain ⟨o, num, prev, ds, xs, ws⟩ := t
      obtain ⟨da, dn, dc, aa, an, ac, wa, wn, wc⟩ := s
      have hdl := HTX.out.deps.len
      have hal := HTX.out.at_.len
      have hwl := HTX.out.ws.len
      have hdc := HTX.out.deps.cap
      have hac := HTX.out.at_.cap
      have hwc := HTX.out.ws.cap
      dsimp only at HSM hdl hal hwl hdc hac hwc
      have hwr : IntKind.i64.wrap ((an : Int) + (dn : Int)) = ((an + dn : Nat) : Int) := by rw [IntKind.wrap_i64]; omega
      go_upto_region 4 with fail
      have HBZ := Lib.hid (HBL.out.drew)

      have HLT := Lib.hid (fun q : Ext wr.drew => light21_any wa wn wc ws q.at (HTX.out.ws.keep q.bl))
      have e3 : ∀ q : Ext wr.drew, _ := fun q => (HTC.out.keep q.bl).c3
      have e4 : ∀ q : Ext wr.drew, _ := fun q => (HTC.out.keep q.bl).c4
      have e5 : ∀ q : Ext wr.drew, _ := fun q => (HTC.out.keep q.bl).c5
      dsimp only at e3 e4 e5
      have hadl : xs.length + ds.length = an + dn := by omega
      generalize an + dn = ad at *
      cases hlb : lightB ws
      case false =>
        have HF : Hid (lightT ts = false) := Lib.hid (HNO.out (by rw [HSM.out, hlb]; rfl))
        rw [hlb] at HLT
        clear hlb
        refine wp_region_allS (by kernel_rfl) (by kernel_rfl) ?_
        repeat (refine wpS_step (fun K hK => ?_); go_simp; first | (refine hK _ ?_; clear hK K) | (apply Exists.intro; refine ⟨fun q => ?_, hK _ ?_⟩; (with_reducible exact HLT.out q); clear hK K))
        refine wpS_nil ?_
        intro q1
        have HBN := Lib.hid (HBZ.out.trans q1.bl)
        clear e3 e4 e5
        generalize ExtC.at q1 = Y at *
        go_wp2_with fail
        go_ret
        exact ⟨ret_bool HF.out.symm, HBN.out⟩
      by_cases h40 : ad ≤ 40
      case neg =>
        have HF : Hid (lightT ts = false) := Lib.hid (HNO.out (by rw [HSM.out, hlb, decide_eq_false (by omega)]; rfl))
        rw [hlb] at HLT
        clear hlb
        have d1 : decide ((40 : Int) < (ad : Int)) = true := decide_eq_true (by omega)
        have d2 : decide (40 < ad) = true := decide_eq_true (by omega)
        refine wp_region_allS (by kernel_rfl) (by kernel_rfl) ?_
        repeat (refine wpS_step (fun K hK => ?_); go_simp; first | (refine hK _ ?_; clear hK K) | (apply Exists.intro; refine ⟨fun q => ?_, hK _ ?_⟩; (with_reducible exact HLT.out q); clear hK K))
        refine wpS_nil ?_
        intro q1
        have HBN := Lib.hid (HBZ.out.trans q1.bl)
        clear e3 e4 e5
        generalize ExtC.at q1 = Y at *
        go_wp2_with fail
        go_ret
        exact ⟨ret_bool HF.out.symm, HBN.out⟩
      have d1 : decide ((40 : Int) < (ad : Int)) = false := decide_eq_false (by omega)
      have d2 : decide (40 < ad) = false := decide_eq_false (by omega)
      by_cases h30 : wn ≤ 30
      case neg =>
        have HF : Hid (lightT ts = false) := Lib.hid (HNO.out (by rw [HSM.out, hwl, decide_eq_false h30, Bool.and_false, Bool.and_false]))
        rw [hlb] at HLT
        clear hlb
        have d3 : decide ((30 : Int) < (wn : Int)) = true := decide_eq_true (by omega)
        have d4 : decide (30 < wn) = true := decide_eq_true (by omega)
        refine wp_region_allS (by kernel_rfl) (by kernel_rfl) ?_
        repeat (refine wpS_step (fun K hK => ?_); go_simp; first | (refine hK _ ?_; clear hK K) | (apply Exists.intro; refine ⟨fun q => ?_, hK _ ?_⟩; (with_reducible exact HLT.out q); clear hK K))
        refine wpS_nil ?_
        intro q1
        have HBN := Lib.hid (HBZ.out.trans q1.bl)
        clear e3 e4 e5
        generalize ExtC.at q1 = Y at *
        go_wp2_with fail
        go_ret
        exact ⟨ret_bool HF.out.symm, HBN.out⟩
      have d3 : decide ((30 : Int) < (wn : Int)) = false := decide_eq_false (by omega)
      have d4 : decide (30 < wn) = false := decide_eq_false (by omega)
      have HY := Lib.hid (HYES.out (by rw [HSM.out, hlb, decide_eq_true (by omega), hwl, decide_eq_true h30]; rfl))
      rw [hlb] at HLT
      clear hlb
      refine wp_region_allS (by kernel_rfl) (by kernel_rfl) ?_
      repeat (refine wpS_step (fun K hK => ?_); go_simp; first | (refine hK _ ?_; clear hK K) | (apply Exists.intro; refine ⟨fun q => ?_, hK _ ?_⟩; (with_reducible exact HLT.out q); clear hK K))
      refine wpS_nil ?_
      intro q1
      have HBN := Lib.hid (HBZ.out.trans q1.bl)
      clear e3 e4 e5
      generalize ExtC.at q1 = Y at *
      go_wp2_with fail
      go_roundw
      case rel => exact ⟨k + 1, by omega, by go_num, HBN.out, HY.out⟩
      case measure => simp [intOf]; omega
    · have hkp : k = tn := by omega
      subst hkp
      have HF : Hid (lightT ts = decide ((k : Int) ≤ 30)) := Lib.hid (by
        rw [lightT_end (fun j hj => HOK.out j (by rw [← HL.out]; exact hj)), HL.out, decide_eq_decide]
        omega)
      go_wp2_with fail
      go_ret
      exact ⟨ret_bool (by rw [HF.out]), HBL.out⟩
end Go.Proofs.Ytaokennbpgdngaa
end

/- bedrockref2.isNan, key, Compare, Same. By an AI agent. -/
section
namespace Go.Proofs.Ytaokennbpgdngaa
open Go.RowKit

theorem ret_pairC {a b c d : Int} (h : a = b) (k : c = d) : Ending.returned (.tuple #[.int .i64 a, .int .i64 c]) = Ending.returned (.tuple #[.int .i64 b, .int .i64 d]) := by rw [h, k]
def keyH (x : Nat) : Nat := fkey x / 4294967296
def keyL (x : Nat) : Nat := fkey x % 4294967296
theorem keyH_lt {x : Nat} (hx : x < two64) : keyH x < 4294967296 := by
  have := fkey_lt hx
  unfold keyH; unfold two64 at this; omega
theorem keyL_lt (x : Nat) : keyL x < 4294967296 := by unfold keyL; omega
theorem key_nan {x : Nat} (h : nanB x = true) : keyH x = 0 ∧ keyL x = 0 := by
  have : fkey x = 0 := by unfold fkey; rw [h]; rfl
  unfold keyH keyL; rw [this]; exact ⟨rfl, rfl⟩
theorem key_neg {x : Nat} (h : nanB x = false) (hx : x < two64) (k : 2147483648 ≤ x / 4294967296) : keyH x = 4294967295 - x / 4294967296 ∧ keyL x = 4294967295 - x % 4294967296 := by
  have e := fkey_num h
  unfold two63 at e
  rw [if_pos (by omega)] at e
  unfold keyH keyL
  rw [e]
  unfold two64 at *
  omega
theorem half_pos {x : Nat} (h : nanB x = false) (k : ¬ 2147483648 ≤ x / 4294967296) : keyH x = x / 4294967296 + 2147483648 ∧ keyL x = x % 4294967296 := by
  have e := fkey_num h
  unfold two63 at e
  rw [if_neg (by omega)] at e
  unfold keyH keyL
  rw [e]
  omega
theorem key_order (x y : Nat) : cmpN (fkey x) (fkey y) = if keyH x < keyH y ∨ (keyH x = keyH y ∧ keyL x < keyL y) then -1 else if keyH y < keyH x ∨ keyL y < keyL x then 1 else 0 := by
  have h1 : fkey x < fkey y ↔ (keyH x < keyH y ∨ (keyH x = keyH y ∧ keyL x < keyL y)) := by unfold keyH keyL; omega
  have h2 : ¬ fkey x < fkey y → (fkey y < fkey x ↔ (keyH y < keyH x ∨ keyL y < keyL x)) := by unfold keyH keyL; omega
  unfold cmpN
  by_cases h : fkey x < fkey y
  · rw [if_pos h, if_pos (h1.1 h)]
  · rw [if_neg h, if_neg (fun k => h (h1.2 k))]
    by_cases h3 : fkey y < fkey x
    · rw [if_pos h3, if_pos ((h2 h).1 h3)]
    · rw [if_neg h3, if_neg (fun k => h3 ((h2 h).2 k))]
theorem key_same (x y : Nat) : fkey x = fkey y ↔ keyH x = keyH y ∧ keyL x = keyL y := by unfold keyH keyL; omega

/-- eight bytes in two halves -/
theorem refNan_any (x : Nat) (w : World) (hx : x < two64) : Calls Try.prog 117 #[.float .f64 x] w fun e w' => e = .returned (.bool (nanB x)) ∧ w = w' := by
  have q : (FloatKind.f64.format.order x x != some .eq) = nanB x := self_nan hx
  cases hn : nanB x
  · rw [hn] at q
    go_enter Try.func117, Try.ntmps117
    go_wp2_with fail
    go_ret
    exact ⟨rfl, rfl⟩
  · rw [hn] at q
    go_enter Try.func117, Try.ntmps117
    go_wp2_with fail
    go_ret
    exact ⟨rfl, rfl⟩

set_option maxHeartbeats 800000 in
set_option maxRecDepth 100000 in
theorem refKey_any (x : Nat) (w : World) (hx : x < two64) :
    Calls Try.prog 109 #[.float .f64 x] w fun e w' => e = .returned (.tuple #[.int .i64 (keyH x), .int .i64 (keyL x)]) ∧ w = w' := by
  have hrb := run_bits x
  obtain ⟨H, hH⟩ : ∃ H : Nat, x / 4294967296 = H := ⟨_, rfl⟩
  obtain ⟨L, hL⟩ : ∃ L : Nat, x % 4294967296 = L := ⟨_, rfl⟩
  have eH := Lib.hid (show (x : Int) / 4294967296 = (H : Int) by omega)
  have eL := Lib.hid (show (x : Int) % 4294967296 = (L : Int) by omega)
  have bH : H < 4294967296 := by unfold two64 at hx; omega
  have bL : L < 4294967296 := by omega
  cases hn : nanB x
  · have hx2 : x < 18446744073709551616 := hx
    by_cases k : 2147483648 ≤ H
    · have HK := Lib.hid (key_neg hn hx (by rw [hH]; exact k))
      rw [hH, hL] at HK
      clear hH hL
      have q : decide ((2147483648 : Int) ≤ (H : Int)) = true := by simp; omega
      go_enter Try.func109, Try.ntmps109
      go_wp2_with fail
      refine (refNan_any x _ hx).mono ?_
      rintro e w1 ⟨rfl, rfl⟩
      rw [hn]
      go_upto_region 5 with fail
      rw [eH.out, eL.out]
      go_wp2_with fail
      go_ret2
      exact ⟨ret_pairC (by rw [HK.out.1]; omega) (by rw [HK.out.2]; omega), rfl⟩
    · have HK := Lib.hid (half_pos hn (by rw [hH]; exact k))
      rw [hH, hL] at HK
      clear hH hL
      have q : decide ((2147483648 : Int) ≤ (H : Int)) = false := by simp; omega
      go_enter Try.func109, Try.ntmps109
      go_wp2_with fail
      refine (refNan_any x _ hx).mono ?_
      rintro e w1 ⟨rfl, rfl⟩
      rw [hn]
      go_upto_region 5 with fail
      rw [eH.out, eL.out]
      go_wp2_with fail
      go_ret2
      exact ⟨ret_pairC (by rw [HK.out.1]; omega) (by rw [HK.out.2]), rfl⟩
  · have HK := Lib.hid (key_nan hn)
    clear hH hL bH bL
    go_enter Try.func109, Try.ntmps109
    go_wp2_with fail
    refine (refNan_any x _ hx).mono ?_
    rintro e w1 ⟨rfl, rfl⟩
    rw [hn]
    go_wp2_with fail
    go_ret2
    exact ⟨ret_pairC (by rw [HK.out.1]; rfl) (by rw [HK.out.2]; rfl), rfl⟩

set_option maxRecDepth 100000 in
theorem refCompare_any (x y : Nat) (w : World) (hx : x < two64) (hy : y < two64) :
    Calls Try.prog 93 #[.float .f64 x, .float .f64 y] w fun e w' => e = .returned (.int .i64 (cmpN (fkey x) (fkey y))) ∧ w = w' := by
  have HK := Lib.hid (key_order x y)
  obtain ⟨a, ha⟩ : ∃ a, keyH x = a := ⟨_, rfl⟩
  obtain ⟨b, hb⟩ : ∃ b, keyL x = b := ⟨_, rfl⟩
  obtain ⟨c, hc⟩ : ∃ c, keyH y = c := ⟨_, rfl⟩
  obtain ⟨d, hd⟩ : ∃ d, keyL y = d := ⟨_, rfl⟩
  have K1 := Lib.hid (fun w => refKey_any x w hx)
  have K2 := Lib.hid (fun w => refKey_any y w hy)
  rw [ha, hb] at K1 HK
  rw [hc, hd] at K2 HK
  clear ha hb hc hd
  go_enter Try.func93, Try.ntmps93
  go_wp2_with fail
  refine (K1.out _).mono ?_
  rintro e w1 ⟨rfl, rfl⟩
  go_wp2_with fail
  refine (K2.out _).mono ?_
  rintro e w1 ⟨rfl, rfl⟩
  rcases Nat.lt_trichotomy a c with h1 | h1 | h1
  · have q1 : decide ((a : Int) < (c : Int)) = true := by simp; omega
    go_wp2_with fail
    go_ret
    exact ⟨ret_int (by rw [HK.out, if_pos (by omega)]), rfl⟩
  · subst h1
    have q1 : decide ((a : Int) < (a : Int)) = false := by simp
    have q2 : ((a : Int) == (a : Int)) = true := by simp
    rcases Nat.lt_trichotomy b d with h2 | h2 | h2
    · have q3 : decide ((b : Int) < (d : Int)) = true := by simp; omega
      go_wp2_with fail
      go_ret
      exact ⟨ret_int (by rw [HK.out]; simp [h2]), rfl⟩
    · subst h2
      have q3 : decide ((b : Int) < (b : Int)) = false := by simp
      go_wp2_with fail
      go_ret
      exact ⟨ret_int (by rw [HK.out, if_neg (by omega), if_neg (by omega)]), rfl⟩
    · have q3 : decide ((b : Int) < (d : Int)) = false := by simp; omega
      have q4 : decide ((d : Int) < (b : Int)) = true := by simp; omega
      go_wp2_with fail
      go_ret
      exact ⟨ret_int (by rw [HK.out, if_neg (by omega), if_pos (by omega)]), rfl⟩
  · have q1 : decide ((a : Int) < (c : Int)) = false := by simp; omega
    have q2 : ((a : Int) == (c : Int)) = false := by simp; omega
    have q3 : decide ((c : Int) < (a : Int)) = true := by simp; omega
    go_wp2_with fail
    go_ret
    exact ⟨ret_int (by rw [HK.out, if_neg (by omega), if_pos (by omega)]), rfl⟩
theorem refSame_any (x y : Nat) (w : World) (hx : x < two64) (hy : y < two64) : Calls Try.prog 64 #[.float .f64 x, .float .f64 y] w fun e w' => e = .returned (.bool (decide (fkey x = fkey y))) ∧ w = w' := by
  have HZ := Lib.hid (cmpN_zero (fkey x) (fkey y))
  go_enter Try.func64, Try.ntmps64
  go_wp2_with fail
  refine (refCompare_any x y _ hx hy).mono ?_
  rintro e w1 ⟨rfl, rfl⟩
  go_wp2_with fail
  go_ret
  exact ⟨ret_bool HZ.out, rfl⟩
end Go.Proofs.Ytaokennbpgdngaa
end
