import Derived.Test.YtkgpkkdcadkpmaaGreatDoorQR5Get
import Derived.Test.YtkgpkkdcadkpmaaGreatDoorQIkeyTellsUptoP21
import Derived.Test.YtkgpkkdcadkpmaaGreatDoorQIkeyA

/- what is got of bytes, by the program and by the document, in the same words. By an AI agent. -/
section
set_option linter.unusedVariables false
namespace Go.Proofs.YtkgpkkdcadkpmaaGreatDoor
open Go.RowKit

/-- the version that the bytes l are, or none -/
def KY (l : List UInt8) (ky : ByteArray) (ys : List Int) (oy ty cd : Int) : Prop :=
  (cd = 0 ∧ ValidK ⟨ky, ys, oy, ty, ⟨0, 0, 0, ⟨#[]⟩⟩⟩ ∧ putK ⟨ky, ys, oy, ty, ⟨0, 0, 0, ⟨#[]⟩⟩⟩ = l) ∨ (cd = 4 ∧ ky = ⟨#[]⟩ ∧ ys = [] ∧ oy = 0 ∧ ty = 0 ∧ ∀ V, ValidK V → putK V ≠ l)
theorem KY.one {l : List UInt8} {ky ky' : ByteArray} {ys ys' : List Int} {oy ty cd oy' ty' cd' : Int} (h : KY l ky ys oy ty cd) (h' : KY l ky' ys' oy' ty' cd') : ky = ky' ∧ ys = ys' ∧ oy = oy' ∧ ty = ty' ∧ cd = cd' := by
  rcases h with ⟨rfl, v, p⟩ | ⟨rfl, rfl, rfl, rfl, rfl, no⟩
  · rcases h' with ⟨rfl, v', p'⟩ | ⟨rfl, rfl, rfl, rfl, rfl, no⟩
    · obtain ⟨e1, e2, e3, e4⟩ := putK_inj v v' (p.trans p'.symm)
      exact ⟨e1, e2, e3, e4, rfl⟩
    · exact absurd p (no _ v)
  · rcases h' with ⟨rfl, v', p'⟩ | ⟨rfl, rfl, rfl, rfl, rfl, no'⟩
    · exact absurd p' (no _ v')
    · exact ⟨rfl, rfl, rfl, rfl, rfl⟩
theorem KY.len {l : List UInt8} {ky : ByteArray} {ys : List Int} {oy ty cd : Int} (h : KY l ky ys oy ty cd) : ys.length ≤ 8 := by
  rcases h with ⟨_, v, _⟩ | ⟨_, _, rfl, _⟩
  · exact v.len.2
  · simp
theorem kg_one {w w' : World} {l : List UInt8} {e : Ending} (h : KGPost w l e w') : ∃ (ky : ByteArray) (a : Option Addr) (n ca : Nat) (ys : List Int) (oy ty cd : Int),
    e = .returned (.tuple #[.agg #[.string ky, .slice a n ca, .int .i64 oy, .int .i64 ty, .int .i64 0, .float .f64 0, .int .i64 0, .string ⟨#[]⟩], .int .i64 cd]) ∧ FarO w.heap.size w' a n ca ys ∧ Bl w w' ∧ KY l ky ys oy ty cd := by
  rcases h with ⟨key, a, n, ca, xs, o, t, rfl, hf, hb, hv, hp⟩ | ⟨rfl, hb, hno⟩
  · exact ⟨key, a, n, ca, xs, o, t, 0, rfl, hf, hb, .inl ⟨rfl, hv, hp⟩⟩
  · exact ⟨⟨#[]⟩, none, 0, 0, [], 0, 0, 4, rfl, FarO.nil _ _, hb, .inr ⟨rfl, rfl, rfl, rfl, rfl, hno⟩⟩
theorem kg_two {w w' : World} {l : List UInt8} {e : Ending} {ky : ByteArray} {ys : List Int} {oy ty cd : Int} (h : KGPost w l e w') (hy : KY l ky ys oy ty cd) : ∃ (a : Option Addr) (n ca : Nat),
    e = .returned (.tuple #[.agg #[.string ky, .slice a n ca, .int .i64 oy, .int .i64 ty, .int .i64 0, .float .f64 0, .int .i64 0, .string ⟨#[]⟩], .int .i64 cd]) ∧ IA w' a n ys ∧ Bl w w' := by
  obtain ⟨ky', a, n, ca, ys', oy', ty', cd', rfl, hf, hb, h2⟩ := kg_one h
  obtain ⟨rfl, rfl, rfl, rfl, rfl⟩ := hy.one h2
  exact ⟨a, n, ca, rfl, hf.far.1, hb⟩
theorem kk_one {w w' : World} {l : List UInt8} {e : Ending} {ky : ByteArray} {ys : List Int} {oy ty cd : Int} (h : KKPost w l e w') (hy : KY l ky ys oy ty cd) : e = .returned (.tuple #[.string ky, .int .i64 cd]) ∧ Bl w w' := by
  rcases h with ⟨V, rfl, hb, hv, hp⟩ | ⟨rfl, hb, hno⟩
  · rcases hy with ⟨rfl, v, p⟩ | ⟨rfl, rfl, rfl, rfl, rfl, no⟩
    · obtain ⟨e1, -⟩ := putK_inj hv v (hp.trans p.symm)
      exact ⟨by rw [e1], hb⟩
    · exact absurd hp (no _ hv)
  · rcases hy with ⟨rfl, v, p⟩ | ⟨rfl, rfl, rfl, rfl, rfl, no⟩
    · exact absurd p (hno _ v)
    · exact ⟨rfl, hb⟩
/-- ref5.Get and ikey.Get, where it is known what the bytes are -/
theorem r5get_ky (s : ByteArray) (l : List UInt8) (ky : ByteArray) (ys : List Int) (oy ty cd : Int) (w : World) (hs : SB s l) (hz : l.length ≤ 1000000) (hy : KY l ky ys oy ty cd) :
    Calls Tryz.prog 9 #[.string s] w fun e w' => ∃ (a : Option Addr) (n ca : Nat), e = .returned (.tuple #[.agg #[.string ky, .slice a n ca, .int .i64 oy, .int .i64 ty, .int .i64 0, .float .f64 0, .int .i64 0, .string ⟨#[]⟩], .int .i64 cd]) ∧ IA w' a n ys ∧ Bl w w' :=
  (r5get_any s l w hs hz).mono (fun _ _ h => kg_two h hy)
theorem kget_ky (s : ByteArray) (l : List UInt8) (w : World) (hs : SB s l) (hz : l.length ≤ 1000000) :
    Calls Tryz.prog 8 #[.string s] w fun e w' => ∃ (ky : ByteArray) (a : Option Addr) (n ca : Nat) (ys : List Int) (oy ty cd : Int), e = .returned (.tuple #[.agg #[.string ky, .slice a n ca, .int .i64 oy, .int .i64 ty, .int .i64 0, .float .f64 0, .int .i64 0, .string ⟨#[]⟩], .int .i64 cd]) ∧ FarO w.heap.size w' a n ca ys ∧ Bl w w' ∧ KY l ky ys oy ty cd :=
  (kget_any s l w hs hz).mono (fun _ _ h => kg_one h)
theorem kkey_ky (s : ByteArray) (l : List UInt8) (ky : ByteArray) (ys : List Int) (oy ty cd : Int) (w : World) (hs : SB s l) (hz : l.length ≤ 1000000) (hy : KY l ky ys oy ty cd) :
    Calls Tryz.prog 10 #[.string s] w fun e w' => e = .returned (.tuple #[.string ky, .int .i64 cd]) ∧ Bl w w' :=
  (kkeyOf_any s l w hs hz).mono (fun _ _ h => kk_one h hy)
end Go.Proofs.YtkgpkkdcadkpmaaGreatDoor
end
