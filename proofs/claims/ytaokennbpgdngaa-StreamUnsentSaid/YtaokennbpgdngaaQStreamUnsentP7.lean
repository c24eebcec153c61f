import Derived.Test.YtaokennbpgdngaaCore3

/- a vector's elements, as append asks of them. By an AI agent. -/
section
namespace Go.Proofs.Ytaokennbpgdngaa
open Go.RowKit

theorem el_vc : EL 24 3 1 8 := el_of Try.underlying24 (by kernel_rfl) (by decide)
end Go.Proofs.Ytaokennbpgdngaa
end

/- bedrockref3.Copy. By an AI agent. -/
section
set_option linter.unusedVariables false
set_option linter.unusedSimpArgs false
namespace Go.Proofs.Ytaokennbpgdngaa
open Go.RowKit

set_option maxRecDepth 100000 in
theorem rcopy3_any (a : Option Addr) (n ca : Nat) (xs : List Int) (w : World) (hx : IA w a n xs) :
    Calls Try.prog 96 #[.slice a n ca] w fun e w' => ∃ v, e = .returned v ∧ FI w.heap.size w' v xs ∧ Bl w w' := by
  have HX := Lib.hid hx
  have hcap := hx.cap
  have HS := Lib.hid (sg_ints hx)
  clear hx
  go_enter Try.func96, Try.ntmps96
  go_wp2_with (at_builtin; refine wpList_appG rfl _ _ _ rfl el_vc w.heap.size _ 0 [] rfl (World.ownsRow_nil _ _ _ _) (Nat.le_refl _) _ _ _ _ rfl HS.out ?c1 ?c2 ?_)
  case c1 => unfold maxLen; omega
  case c2 => omega
  intro v1 w1 ho1 hg1
  have HB := Lib.hid ((Bl.refl w).ownRow (World.ownsRow_nil w w.heap.size 3 1) (Nat.le_refl _) hg1)
  have HO : Hid (FI w.heap.size w1 v1 xs) := Lib.hid ⟨by
    have hl := HX.out.len
    unfold OI
    rw [hl]
    exact ho1, by have hl := HX.out.len; omega, HX.out.wf⟩
  clear ho1 hg1
  go_wp2_with fail
  go_ret
  exact ⟨_, rfl, HO.out, HB.out⟩
end Go.Proofs.Ytaokennbpgdngaa
end
