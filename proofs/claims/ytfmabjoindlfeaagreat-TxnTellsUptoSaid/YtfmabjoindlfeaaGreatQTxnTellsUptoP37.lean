import Derived.Test.YtfmabjoindlfeaaGreatQTxnTellsUptoP36
import Derived.Test.YtfmabjoindlfeaaGreatQTxnTellsUptoP23

/- bedrockref3.Copy. By an AI agent. -/
section
set_option linter.unusedVariables false
set_option linter.unusedSimpArgs false
namespace Go.Proofs.YtfmabjoindlfeaaGreat
open Go.RowKit

set_option maxRecDepth 100000 in
theorem rcopy3_any (a : Option Addr) (n ca : Nat) (xs : List Int) (w : World) (hx : IA w a n xs) :
    Calls Tryz.prog 42 #[.slice a n ca] w fun e w' => ∃ v, e = .returned v ∧ FI w.heap.size w' v xs ∧ Bl w w' := by
  have HX := Lib.hid hx
  have hcap := hx.cap
  have HS := Lib.hid (sg_ints hx)
  clear hx
  go_enter Tryz.func42, Tryz.ntmps42
  go_wp2_with (at_builtin; refine wpList_appG rfl _ _ _ rfl el_vc w.heap.size _ 0 [] rfl (World.ownsRow_nil _ _ _ _) (Nat.le_refl _) _ _ _ _ rfl HS.out ?c1 ?c2 ?_)
  case c1 => unfold maxLen; omega
  case c2 => omega
  intro v1 w1 ho1 hg1
  have HB := Lib.hid ((Bl.refl w).ownRow (World.ownsRow_nil w w.heap.size 3 1) (Nat.le_refl _) hg1)
  have HO : Hid (FI w.heap.size w1 v1 xs) := Lib.hid ⟨by
    have hl := HX.out.len
    unfold OI
    rw [hl]
    exact ho1, by have hl := HX.out.len; omega, HX.out.wf⟩
  clear ho1 hg1
  go_wp2_with fail
  go_ret
  exact ⟨_, rfl, HO.out, HB.out⟩
end Go.Proofs.YtfmabjoindlfeaaGreat
end

/- bedrockref3.With. By an AI agent. -/
section
set_option linter.unusedVariables false
set_option linter.unusedSimpArgs false
namespace Go.Proofs.YtfmabjoindlfeaaGreat
open Go.RowKit

set_option maxHeartbeats 400000 in
theorem rwith3_any (a : Option Addr) (n ca : Nat) (xs : List Int) (i t : Int) (w : World) (hx : IA w a n xs) (ht : -9223372036854775808 ≤ t ∧ t ≤ 9223372036854775807) :
    Calls Tryz.prog 39 #[.slice a n ca, .int .i64 i, .int .i64 t] w fun e w' => ∃ v, e = .returned v ∧ FI w.heap.size w' v (withL xs i t) ∧ Bl w w' := by
  have HX := Lib.hid hx.len
  by_cases hin : 0 ≤ i ∧ i < n
  · obtain ⟨h0, h1⟩ := hin
    obtain ⟨k, rfl⟩ := Int.eq_ofNat_of_zero_le h0
    have hkn : k < n := by omega
    go_enter Tryz.func39, Tryz.ntmps39
    go_wp2_with fail
    refine (rcopy3_any a n ca xs w hx).mono ?_
    rintro e w' ⟨v, rfl, hf, hb⟩
    have hn0 := hf.own.1
    obtain ⟨h1', ⟨rfl, h2⟩ | ⟨g, cap, cur, rfl, hB, hg, hn, hm, hs, htk⟩⟩ := hf.own
    · exfalso; have := HX.out; omega
    · have hown : w'.ownsRow w.heap.size 3 1 (.slice (some ⟨g, 0, none⟩) xs.length cap) xs.length (xs.map (Value.int .i64)) := ⟨h1', .inr ⟨g, cap, cur, rfl, hB, hg, hn, hm, hs, htk⟩⟩
      have hst := hown.stored k (.int .i64 t)
      have hc : w'.cell? ⟨g, k, none⟩ = some (.int .i64 (nth xs k)) := by
        rw [hown.cellAt k (by rw [HX.out]; omega)]
        have : k < xs.length := by rw [HX.out]; exact hkn
        simp [nth_eq this, this]
      have hfz : w'.frozen? ⟨g, k, none⟩ = false := hown.frozenAt k
      have hkx : k < xs.length := by rw [HX.out]; exact hkn
      have hnm : xs.length ≤ 9223372036854775807 := by have := hf.cap; omega
      have HST := Lib.hid hst
      have HF := Lib.hid hf
      clear hst hown htk hs hg h1' hf hn0
      go_wp2
      go_ret
      refine ⟨_, rfl, ⟨?_, ?_, ?_⟩, hb.grown HST.out.2 hb.size (fun k hk => by cases hk; exact hB)⟩
      · have := HST.out.1
        simpa [OI, withL, List.map_set] using this
      · rw [withL_len]; exact HF.out.cap
      · intro x hx
        unfold withL at hx
        rw [if_pos h0] at hx
        rcases List.mem_or_eq_of_mem_set hx with h | h
        · exact HF.out.wf x h
        · rw [h]; exact ht
  · have hw : withL xs i t = xs := by
      unfold withL
      split
      · rw [List.set_eq_of_length_le]; have := HX.out; omega
      · rfl
    have HW := Lib.hid hw; clear hw
    by_cases h0 : 0 ≤ i
    · have h1 : ¬ i < n := fun h => hin ⟨h0, h⟩
      clear hin
      go_enter Tryz.func39, Tryz.ntmps39
      go_wp2_with fail
      refine (rcopy3_any a n ca xs w hx).mono ?_
      rintro e w' ⟨v, rfl, hf, hb⟩
      obtain ⟨a', n', cap', rfl, hI⟩ := hf.si
      have hnn : n' = n := hI.len.symm.trans HX.out
      subst hnn
      go_wp2
      go_ret
      exact ⟨_, rfl, by rw [HW.out]; exact hf, hb⟩
    · clear hin
      go_enter Tryz.func39, Tryz.ntmps39
      go_wp2_with fail
      refine (rcopy3_any a n ca xs w hx).mono ?_
      rintro e w' ⟨v, rfl, hf, hb⟩
      obtain ⟨a', n', cap', rfl, hI⟩ := hf.si
      go_wp2
      go_ret
      exact ⟨_, rfl, by rw [HW.out]; exact hf, hb⟩
end Go.Proofs.YtfmabjoindlfeaaGreat
end
