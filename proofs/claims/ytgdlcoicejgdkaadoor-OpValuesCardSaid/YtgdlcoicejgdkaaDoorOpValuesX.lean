/- bedrocklaw6.OpValues: the walk, for arguments as they are opened. By an AI agent. -/
import Derived.Test.YtgdlcoicejgdkaaDoorLentVers
import Derived.Test.YtgdlcoicejgdkaaDoorRefV
import Derived.Test.YtgdlcoicejgdkaaDoorOpenV
import Derived.Test.YtgdlcoicejgdkaaDoorOp7
namespace Go.Proofs.YtgdlcoicejgdkaaDoor
open Go.RowKit

theorem valueOk {key : ByteArray} {vs : List VerL} (h : ∀ v ∈ vs, v.act.Ok) : (valueL key vs).Ok := by
  unfold valueL
  cases hr : regB key
  · exact outL_ok h
  · show (ofLast key (lastL key vs)).Ok
    have : ∀ (vs : List VerL) (last : Option VerL), (∀ u, last = some u → u.act.Ok) → (∀ v ∈ vs, v.act.Ok) → (ofLast key (vs.foldl (stepL key) last)).Ok := by
      intro vs
      induction vs with
      | nil =>
        intro last hl _
        cases last with
        | none => exact noVal_ok
        | some u => exact after_ok noVal_ok (hl u rfl)
      | cons v vs ih =>
        intro last hl hv
        refine ih _ (fun u hu => ?_) (fun u hu => hv u (by simp [hu]))
        have h1 : ∀ u, some v = some u → u.act.Ok := fun u e => by obtain rfl := Option.some.inj e; exact hv _ (by simp)
        unfold stepL at hu
        split at hu
        · cases last with
          | none => exact h1 u hu
          | some t =>
            simp only at hu
            split at hu
            · exact h1 u hu
            · exact hl u hu
        · exact hl u hu
    exact this vs none (fun u h => by cases h) h
set_option maxHeartbeats 3200000 in
set_option maxRecDepth 100000 in
theorem opValues_any (key : ByteArray) (a : Option Addr) (n ca : Nat) (vs : List VerL) (w : World) (hkey : key.size ≤ 140737488351232) (hv : VA w a n vs) (hT : Tab w) :
    Calls Tryd.prog 3 #[.string key, .slice a n ca] w fun e w' => e = .returned (.bool true) ∧ Bl w w' := by
  have hcap := hv.cap
  have HV := Lib.hid hv
  have HT := Lib.hid hT
  clear hv hT
  go_enter Tryd.func3, Tryd.ntmps3
  by_cases hn : n ≤ 100
  · go_wp2_with fail
    go_loopw [5] (fun i wr => ∃ k : Nat, k ≤ n ∧ i = .int .i64 k ∧ wr = w ∧ ∀ j, j < k → (nthR vs j).at_.length ≤ 60) (fun i _ => n - (intOf i).toNat)
    case atStart => exact ⟨0, Nat.zero_le _, rfl, rfl, fun j hj => by omega⟩
    case round =>
      obtain ⟨k, hk, rfl, rfl, hz⟩ := hrel
      by_cases hlt : k < n
      · obtain ⟨b, off, rfl, hc⟩ := HV.out.cells k hlt
        have E := hc k hlt
        clear hc
        obtain ⟨va, vn, vc, e1, vI⟩ := E.at_
        have e7 := E.c7
        clear E
        have HZ := Lib.hid hz
        clear hz
        by_cases h1 : vn ≤ 60
        · by_cases h2 : (nthR vs k).act.s.size ≤ 2000
          · go_wp2_with fail
            go_roundw
            case rel => exact ⟨k + 1, by omega, by go_num, trivial, fun j hj => by
              by_cases e : j = k
              · subst e; rw [vI.len]; exact h1
              · exact HZ.out j (by omega)⟩
            case measure => simp [intOf]; omega
          · go_wp2_with fail
            refine (alive6_any _ HT.out).mono ?_
            rintro e w1 ⟨rfl, hb1⟩
            go_wp2_with fail
            go_ret
            exact ⟨rfl, hb1⟩
        · go_wp2_with fail
          refine (alive6_any _ HT.out).mono ?_
          rintro e w1 ⟨rfl, hb1⟩
          go_wp2_with fail
          go_ret
          exact ⟨rfl, hb1⟩
      · obtain rfl : k = n := by omega
        have HZ := Lib.hid hz
        clear hz
        go_wp2_with fail
        refine (lentVers_any a k ca vs _ HV.out (by omega) (fun j hj => Nat.le_trans (HZ.out j hj) (by decide))).mono ?_
        rintro e w1 ⟨g, cap, rfl, hg, hM, hb1⟩
        have HM := Lib.hid hM
        clear hM
        go_wp2_with fail
        refine (alive6_any _ (HT.out.keep hb1)).mono ?_
        rintro e w2 ⟨rfl, hb2⟩
        go_wp2_with fail
        refine (value_any key _ _ _ vs _ hkey (HM.out.keep hb2).va).mono ?_
        rintro e w3 ⟨rfl, hb3⟩
        go_wp2_with fail
        refine (rvalue_any key _ _ _ vs _ hkey (HV.out.keep ((hb1.trans hb2).trans hb3))).mono ?_
        rintro e w4 ⟨rfl, hb4⟩
        go_wp2_with fail
        refine (refSameV_any (valueL key vs) (valueL key vs) _ (valueOk HV.out.oks) (valueOk HV.out.oks)).mono ?_
        rintro e w5 ⟨rfl, hb5⟩
        rw [sameV_refl]
        go_wp2_with fail
        have hb6 := ((hb2.trans hb3).trans hb4).trans hb5
        refine (staysVers_yes g k cap a ca vs _ (HM.out.keep hb6) (HV.out.keep (hb1.trans hb6))).mono ?_
        rintro e w7 ⟨rfl, hb7⟩
        go_wp2_with fail
        go_ret
        exact ⟨rfl, (hb1.trans hb6).trans hb7⟩
  · go_wp2_with fail
    refine (alive6_any _ HT.out).mono ?_
    rintro e w1 ⟨rfl, hb1⟩
    go_wp2_with fail
    go_ret
    exact ⟨rfl, hb1⟩
theorem opValues_walk (key : ByteArray) (a : Option Addr) (n ca : Nat) (vs : List VerL) (w : World) (hkey : key.size ≤ 140737488351232) (hv : VA w a n vs ∧ VOk vs) (hT : Tab w) :
    Calls Tryd.prog 3 #[.string key, .slice a n ca] w fun e w' => e = .returned (.bool true) ∧ Bl w w' := opValues_any key a n ca vs w hkey hv.1 hT
end Go.Proofs.YtgdlcoicejgdkaaDoor
