/- op.want, op.num, op.read. By an AI agent. -/
import Derived.Test.YtafoagllbajfnaaDoorActs0
import Derived.Test.YtafoagllbajfnaaDoorOp3
import Derived.Test.YtafoagllbajfnaaDoorGetR2
import Derived.Outline
namespace Go.Proofs.YtafoagllbajfnaaDoor
open Go.RowKit

/-- the panic of what can't be read -/
def panE : Ending := .panicked [{ v := .iface 61 (.int .i64 4), recovered := false }]
theorem want_yes (w : World) : Calls Tryd.prog 129 #[.bool true] w fun e w' => e = .returned (.tuple #[]) ∧ w = w' := by
  go_enter Tryd.func129, Tryd.ntmps129
  go_wp2_with fail
  go_end0
  exact ⟨rfl, rfl⟩
theorem want_no (w : World) : Calls Tryd.prog 129 #[.bool false] w fun e w' => e = panE ∧ w = w' := by
  go_enter Tryd.func129, Tryd.ntmps129
  go_wp2_with fail
  exact ⟨rfl, rfl, rfl⟩
/-- a number, or the panic -/
def onumE (m : List UInt8) : Ending := if m.length = 8 ∧ (getR (getN m).toNat).2 = 0 then .returned (.float .f64 (getR (getN m).toNat).1) else panE
theorem onum_any (s : ByteArray) (m : List UInt8) (w : World) (hs : SB s m) :
    Calls Tryd.prog 130 #[.string s] w fun e w' => e = onumE m ∧ w = w' := by
  have HS := Lib.hid hs
  have hz := hs.size
  by_cases h8 : s.size = 8
  · have hl : m.length = 8 := by omega
    have hm : s.data.toList = m := hs
    have hc : (getR (getN m).toNat).2 = 0 ∨ (getR (getN m).toNat).2 = 4 := by
      unfold getR
      split
      · exact .inl rfl
      · split
        · exact .inr rfl
        · exact .inl rfl
    have HG := Lib.hid (fun W => rget_any s W h8)
    rw [hm] at HG
    have HE := Lib.hid (show onumE m = if m.length = 8 ∧ (getR (getN m).toNat).2 = 0 then .returned (.float .f64 (getR (getN m).toNat).1) else panE from rfl)
    generalize onumE m = E at *
    generalize getR (getN m).toNat = r at *
    obtain ⟨f, c⟩ := r
    simp only at hc
    clear hm hs
    rcases hc with rfl | rfl
    · have HE2 : Hid (E = .returned (.float .f64 f)) := Lib.hid (by rw [HE.out, if_pos ⟨hl, rfl⟩])
      clear HE hl hz
      go_enter Tryd.func130, Tryd.ntmps130
      go_wp2_with fail
      refine (HG.out _).mono ?_
      rintro e w' ⟨rfl, rfl⟩
      go_wp2_with fail
      refine (want_yes _).mono ?_
      rintro e w' ⟨rfl, rfl⟩
      go_wp2_with fail
      go_ret
      exact ⟨HE2.out.symm, rfl⟩
    · have HE2 : Hid (E = panE) := Lib.hid (by rw [HE.out, if_neg (fun h => absurd h.2 (by simp))])
      clear HE hl hz
      go_enter Tryd.func130, Tryd.ntmps130
      go_wp2_with fail
      refine (HG.out _).mono ?_
      rintro e w' ⟨rfl, rfl⟩
      go_wp2_with fail
      refine (want_no _).mono ?_
      rintro e w' ⟨rfl, rfl⟩
      unfold panE
      go_wp2_with fail
      exact ⟨rfl, HE2.out.symm, rfl⟩
  · have HE2 : Hid (onumE m = panE) := Lib.hid (if_neg (fun h => by have := h.1; omega))
    generalize onumE m = E at *
    clear hz hs HS
    go_enter Tryd.func130, Tryd.ntmps130
    go_wp2_with fail
    refine (rget_no s _ h8).mono ?_
    rintro e w' ⟨rfl, rfl⟩
    go_wp2_with fail
    refine (want_no _).mono ?_
    rintro e w' ⟨rfl, rfl⟩
    unfold panE
    go_wp2_with fail
    exact ⟨rfl, HE2.out.symm, rfl⟩
end Go.Proofs.YtafoagllbajfnaaDoor
