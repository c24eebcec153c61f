/- bedrocklaw17.FoldTwice: the walk. By an AI agent. -/
import Derived.Test.YtdjlnpiaehoofaaCore14

set_option linter.unusedVariables false
set_option linter.unusedSimpArgs false
namespace Go.Proofs.Ytdjlnpiaehoofaa
open Go.RowKit
attribute [local go_sem] eOp eOper eUpon

set_option maxHeartbeats 6400000 in
set_option maxRecDepth 100000 in
theorem foldTwice_any (key : ByteArray) (a : Option Addr) (n ca : Nat) (vs : List VerL) (fa : Option Addr) (fn fc : Nat) (floor : List Int) (ma : Option Addr) (mn mc : Nat) (more : List Int) (w : World) (hkey : key.size ≤ 140737488351232) (hv : VA w a n vs) (hf : IA w fa fn floor) (hm : IA w ma mn more) :
    Calls Try.prog 5 #[.string key, .slice a n ca, .slice fa fn fc, .slice ma mn mc] w fun e w' => e = .returned (.bool true) ∧ Bl w w' := by
  have hsf := store_fl
  have HL := Lib.hid hv.len
  have HFL := Lib.hid hf.len
  have HML := Lib.hid hm.len
  have hfc := hf.cap
  have hmc := hm.cap
  go_enter Try.func5, Try.ntmps5
  go_wp2_with fail
  refine (light17_any a n ca vs _ hv).mono ?_
  rintro e w1 ⟨lb, rfl, hlb, rfl⟩
  cases lb
  case false =>
    go_wp2_with fail
    refine (alive17_any _).mono ?_
    rintro e w1 ⟨rfl, hb1⟩
    go_wp2_with fail
    go_ret
    exact ⟨rfl, hb1⟩
  case true =>
  have hn60 : n ≤ 60 := hlb rfl
  clear hlb
  go_wp2_with fail
  refine (valid_any fa fn fc floor _ hf).mono ?_
  rintro e w1 ⟨rfl, rfl⟩
  obtain ⟨vb, hvb⟩ : ∃ vb, validL floor = vb := ⟨_, rfl⟩
  rw [hvb]
  clear hvb
  cases vb
  case false =>
    go_wp2_with fail
    refine (alive17_any _).mono ?_
    rintro e w1 ⟨rfl, hb1⟩
    go_wp2_with fail
    go_ret
    exact ⟨rfl, hb1⟩
  case true =>
  go_wp2_with fail
  refine (valid_any ma mn mc more _ hm).mono ?_
  rintro e w1 ⟨rfl, rfl⟩
  obtain ⟨vb, hvb⟩ : ∃ vb, validL more = vb := ⟨_, rfl⟩
  rw [hvb]
  clear hvb
  cases vb
  case false =>
    go_wp2_with fail
    refine (alive17_any _).mono ?_
    rintro e w1 ⟨rfl, hb1⟩
    go_wp2_with fail
    go_ret
    exact ⟨rfl, hb1⟩
  case true =>
  by_cases hne : mn = fn
  case neg =>
    have q1 : ((mn : Int) != (fn : Int)) = true := by simp; omega
    go_wp2_with fail
    refine (alive17_any _).mono ?_
    rintro e w1 ⟨rfl, hb1⟩
    go_wp2_with fail
    go_ret
    exact ⟨rfl, hb1⟩
  case pos =>
  have q1 : ((mn : Int) != (fn : Int)) = false := by simp; omega
  have HNE := Lib.hid hne
  clear hne
  go_wp2_with fail
  refine (right17_any key a n ca vs fn _ hkey hv).mono ?_
  rintro e w1 ⟨rb, rfl, hrb, hb1⟩
  cases rb
  case false =>
    go_wp2_with fail
    refine (alive17_any _).mono ?_
    rintro e w2 ⟨rfl, hb2⟩
    go_wp2_with fail
    go_ret
    exact ⟨rfl, hb1.trans hb2⟩
  case true =>
  have HRT := Lib.hid (hrb rfl)
  have HB1 := Lib.hid hb1
  clear hrb hb1
  have hmfn : floor.length = more.length := by have := HFL.out; have := HML.out; have := HNE.out; omega
  have hJl : (joinL floor more).length = fn := by rw [join_len' hmfn]; exact HFL.out
  have hJq : leqL floor (joinL floor more) = true := leq_join1 hmfn
  go_wp2_with fail
  refine (join_any fa ma fn mn fc mc floor more _ (hf.keep HB1.out) (hm.keep HB1.out)).mono ?_
  rintro e w3 ⟨jv, rfl, hj, hb3⟩
  obtain ⟨ja, jn, jc, rfl, -⟩ := hj.si
  have HJ := Lib.hid hj.iaE
  have HB := Lib.hid (HB1.out.trans hb3)
  clear hj hb3 HB1
  obtain ⟨high, hhigh⟩ : ∃ h, joinL floor more = h := ⟨_, rfl⟩
  rw [hhigh] at hJl hJq HJ
  have T := Lib.hid (two_facts HRT.out HFL.out hJl hJq)
  clear hJl hJq hmfn hhigh
  -- m
  go_wp2_with fail
  refine (fdrop_any key a n ca vs fa fn fc floor true _ hkey (hv.keep HB.out) (by omega) (hf.keep HB.out)).mono ?_
  rintro e w4 ⟨da, dn, dc, rfl, hvd, hb4⟩
  have HB4 := Lib.hid (HB.out.trans hb4)
  have HJ4 := Lib.hid (HJ.out.keep hb4)
  have HM := Lib.hid hvd
  clear hvd hb4 HB HJ
  obtain ⟨ms, hms⟩ : ∃ x, dropL key vs floor true = x := ⟨_, rfl⟩
  rw [hms] at HM T
  have hdn : dn ≤ n := by have h1 := HM.out.len; have h2 := T.out.lm; have h3 := HL.out; omega
  clear hms
  -- n
  go_wp2_with fail
  refine (fdrop_any key da dn dc ms fa fn fc floor true _ hkey HM.out (by omega) (hf.keep HB4.out)).mono ?_
  rintro e w5 ⟨na, nn, nc, rfl, hvn, hb5⟩
  have HB5 := Lib.hid (HB4.out.trans hb5)
  have HJ5 := Lib.hid (HJ4.out.keep hb5)
  have HM5 := Lib.hid (HM.out.keep hb5)
  have HN := Lib.hid hvn
  clear hvn hb5 HB4 HJ4
  have hnn : nn = dn := by have h1 := HM.out.len; have h2 := HN.out.len; have h3 := T.out.ln; omega
  subst hnn
  clear HN HM
  -- p, q
  go_wp2_with fail
  refine (fdrop_any key da nn dc ms ja jn jc high true _ hkey HM5.out (by omega) HJ5.out).mono ?_
  rintro e w6 ⟨pa, pn, pc, rfl, hvp, hb6⟩
  have HB6 := Lib.hid (HB5.out.trans hb6)
  have HJ6 := Lib.hid (HJ5.out.keep hb6)
  have HP := Lib.hid hvp
  clear hvp hb6 HB5 HJ5
  obtain ⟨ps, hps⟩ : ∃ x, dropL key ms high true = x := ⟨_, rfl⟩
  rw [hps] at HP T
  have hpn : pn ≤ nn := by have h1 := HM5.out.len; have h2 := T.out.lp; have h3 := HP.out.len; omega
  clear hps HM5
  go_wp2_with fail
  refine (fdrop_any key a n ca vs ja jn jc high true _ hkey (hv.keep HB6.out) (by omega) HJ6.out).mono ?_
  rintro e w7 ⟨qa, qn, qc, rfl, hvq, hb7⟩
  have HB7 := Lib.hid (HB6.out.trans hb7)
  have HJ7 := Lib.hid (HJ6.out.keep hb7)
  have HP7 := Lib.hid (HP.out.keep hb7)
  have HQ := Lib.hid hvq
  clear hvq hb7 HB6 HJ6 HP
  obtain ⟨qs, hqs⟩ : ∃ x, dropL key vs high true = x := ⟨_, rfl⟩
  rw [hqs] at HQ T
  have hqn : qn ≤ n := by have h1 := HQ.out.len; have h2 := T.out.lq; have h3 := HL.out; omega
  clear hqs
  obtain ⟨XL, hX⟩ : ∃ X, readL key vs high = X := ⟨_, rfl⟩
  have HXL := Lib.hid hX
  rw [hX] at T
  clear hX
  obtain ⟨XP, hX⟩ : ∃ X, readL key ps high = X := ⟨_, rfl⟩
  have HXP := Lib.hid hX
  rw [hX] at T
  clear hX
  obtain ⟨XQ, hX⟩ : ∃ X, readL key qs high = X := ⟨_, rfl⟩
  have HXQ := Lib.hid hX
  rw [hX] at T
  clear hX
  have S1 := Lib.hid T.out.s1
  have S2 := Lib.hid T.out.s2
  have O1 := Lib.hid T.out.ol
  have O2 := Lib.hid T.out.op
  have O3 := Lib.hid T.out.oq
  have q2 : ((nn : Int) == (nn : Int)) = true := by simp
  have q3 : decide ((pn : Int) ≤ (nn : Int)) = true := decide_eq_true (by omega)
  have q4 : decide (pn ≤ nn) = true := decide_eq_true hpn
  clear T
  go_wp2_with fail
  refine (alive17_any _).mono ?_
  rintro e w8 ⟨rfl, hb8⟩
  have G := Lib.hid hb8
  clear hb8
  go_wp2_with fail
  refine (fread_v key _ _ _ ps ja jn jc high _ XP hkey (HP7.out.keep G.out) (by omega) (HJ7.out.keep G.out) HXP).mono ?_
  rintro e w9 ⟨rfl, hb9⟩
  have G := Lib.hid (G.out.trans hb9)
  clear hb9
  go_wp2_with fail
  refine (fread_v key _ _ _ qs ja jn jc high _ XQ hkey (HQ.out.keep G.out) (by omega) (HJ7.out.keep G.out) HXQ).mono ?_
  rintro e w9 ⟨rfl, hb9⟩
  have G := Lib.hid (G.out.trans hb9)
  clear hb9
  go_wp2_with fail
  refine (same_v XP XQ true _ S1 O2 O3).mono ?_
  rintro e w9 ⟨rfl, hb9⟩
  have G := Lib.hid (G.out.trans hb9)
  clear hb9
  go_wp2_with fail
  refine (fread_v key _ _ _ vs ja jn jc high _ XL hkey (hv.keep (HB7.out.trans G.out)) (by omega) (HJ7.out.keep G.out) HXL).mono ?_
  rintro e w9 ⟨rfl, hb9⟩
  have G := Lib.hid (G.out.trans hb9)
  clear hb9
  go_wp2_with fail
  refine (fread_v key _ _ _ ps ja jn jc high _ XP hkey (HP7.out.keep G.out) (by omega) (HJ7.out.keep G.out) HXP).mono ?_
  rintro e w9 ⟨rfl, hb9⟩
  have G := Lib.hid (G.out.trans hb9)
  clear hb9
  go_wp2_with fail
  refine (same_v XL XP true _ S2 O1 O2).mono ?_
  rintro e w9 ⟨rfl, hb9⟩
  have G := Lib.hid (G.out.trans hb9)
  clear hb9
  go_wp2_with fail
  go_ret
  exact ⟨rfl, HB7.out.trans G.out⟩
end Go.Proofs.Ytdjlnpiaehoofaa
