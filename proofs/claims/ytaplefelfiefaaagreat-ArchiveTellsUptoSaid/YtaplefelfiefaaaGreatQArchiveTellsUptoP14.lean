import Derived.Test.YtaplefelfiefaaaGreatQArchiveTellsUptoP1
import Derived.Deep.Cut
import Derived.Test.YtaplefelfiefaaaGreatQArchiveTellsUptoP13
import Derived.Test.YtaplefelfiefaaaGreatQArchiveTellsUptoP11
import Derived.Test.YtaplefelfiefaaaGreatQArchiveTellsUptoP6

/- bedrockref1.Get. By an AI agent. -/
section
set_option linter.unusedVariables false
set_option linter.unusedSimpArgs false
namespace Go.Proofs.YtaplefelfiefaaaGreat
open Go.RowKit

set_option maxHeartbeats 800000 in
set_option maxRecDepth 100000 in
theorem refGet_any (s : ByteArray) (w : World) (h1 : 1 ≤ s.size) (h7 : s.size ≤ 7) :
    Calls Tryz.prog 122 #[.string s] w fun e w' => e = .returned (.tuple #[.int .i64 (getN s.data.toList), .int .i64 0]) ∧ w = w' := by
  go_enter Tryz.func122, Tryz.ntmps122
  go_wp2_with fail
  go_loop [4, 5] (fun v i => ∃ (k : Nat) (a : Int), k ≤ s.size ∧ i = .int .i64 k ∧ v = .int .i64 a ∧ a = getN (s.data.toList.take k)) (fun _ i => s.size - (intOf i).toNat)
  case atStart => exact ⟨0, 0, Nat.zero_le _, rfl, rfl, rfl⟩
  case round =>
    obtain ⟨k, a, hk, rfl, rfl, ha⟩ := hrel
    have hbd := getN_bound (s.data.toList.take k)
    rw [← ha] at hbd
    have HA := Lib.hid ha; clear ha
    by_cases hlt : k < s.size
    · have h6 : a < 281474976710656 := by
        have h2 := hbd.2
        have : (s.data.toList.take k).length ≤ 6 := Nat.le_trans (List.length_take_le _ _) (by omega)
        have h3 : (256 : Int) ^ (s.data.toList.take k).length ≤ 256 ^ 6 := by
          have := Nat.pow_le_pow_right (show 0 < 256 by decide) this
          exact_mod_cast this
        omega
      have h0 := hbd.1
      clear hbd
      have HT := Lib.hid (getN_take hlt)
      have hb := Lib.hid (UInt8.toNat_lt s[k])
      go_wp2_with fail
      go_round
      case rel => exact ⟨k + 1, _, by omega, by go_num, rfl, by rw [HT.out, HA.out.symm]; have := hb.out; unfold wrap64; omega⟩
      case measure => simp [intOf]; omega
    · have HE := Lib.hid (show s.data.toList.take k = s.data.toList from List.take_of_length_le (by simp; omega))
      go_wp2_with fail
      go_ret2
      exact ⟨ret_int_ok (HA.out.trans (congrArg getN HE.out)), rfl⟩
end Go.Proofs.YtaplefelfiefaaaGreat
end

/- bedrockref24's desk: take, number. By an AI agent. -/
section
set_option linter.unusedVariables false
set_option linter.unusedSimpArgs false
namespace Go.Proofs.YtaplefelfiefaaaGreat
open Go.RowKit
attribute [local go_sem] eOp eOper eUpon

/-- the desk's two cells -/
def DK (w : World) (g : Nat) (l : List UInt8) (bad : Bool) : Prop := AC w g [.string (strL l), .bool bad]
/-- what is taken, what is left, whether it is bad -/
def dkTake (n : Nat) (l : List UInt8) (bad : Bool) : List UInt8 × List UInt8 × Bool := if bad = false ∧ n ≤ l.length then (l.take n, l.drop n, false) else ([], l, true)
def dkW (w : World) (g n : Nat) (l : List UInt8) (bad : Bool) : World := if bad = false ∧ n ≤ l.length then w.setCell ⟨g, 0, none⟩ (.string (strL (l.drop n))) else w.setCell ⟨g, 1, none⟩ (.bool true)
set_option maxHeartbeats 1600000 in
set_option maxRecDepth 100000 in
theorem dktake_some (g : Nat) (l : List UInt8) (n : Nat) (w : World) (hc : DK w g l false) (hn : n ≤ l.length) :
    Calls Tryz.prog 27 #[.pointer (some ⟨g, 0, none⟩), .int .i64 n] w fun e w' => e = .returned (.string (strL (l.take n))) ∧ w' = w.setCell ⟨g, 0, none⟩ (.string (strL (l.drop n))) := by
  unfold DK at hc
  have h0 := hc.cell 0 _ rfl
  have h1 := hc.cell 1 _ rfl
  have hf := hc.frozen
  have z := strL_size l
  have e1 := strL_take l n
  have e2 := strL_drop l n
  have d1 : decide ((n : Int) < 0) = false := decide_eq_false (by omega)
  rw [z] at e2
  clear hc
  generalize strL (l.take n) = q1 at *
  generalize strL (l.drop n) = q2 at *
  generalize strL l = s at *
  go_enter Tryz.func27, Tryz.ntmps27
  go_wp2_with fail
  go_ret
  exact ⟨rfl, rfl⟩
set_option maxHeartbeats 1600000 in
set_option maxRecDepth 100000 in
theorem dktake_none (g : Nat) (l : List UInt8) (bad : Bool) (n : Nat) (w : World) (hc : DK w g l bad) (hn : bad = true ∨ l.length < n) :
    Calls Tryz.prog 27 #[.pointer (some ⟨g, 0, none⟩), .int .i64 n] w fun e w' => e = .returned (.string ⟨#[]⟩) ∧ w' = w.setCell ⟨g, 1, none⟩ (.bool true) := by
  unfold DK at hc
  have h0 := hc.cell 0 _ rfl
  have h1 := hc.cell 1 _ rfl
  have hf := hc.frozen
  have z := strL_size l
  have d1 : decide ((n : Int) < 0) = false := decide_eq_false (by omega)
  clear hc
  cases bad
  · have d2 : l.length < n := by rcases hn with h | h; (cases h); exact h
    have d3 : decide ((l.length : Int) < (n : Int)) = true := decide_eq_true (by omega)
    have d4 : decide (l.length < n) = true := decide_eq_true d2
    generalize strL l = s at *
    go_enter Tryz.func27, Tryz.ntmps27
    go_wp2_with fail
    go_ret
    exact ⟨rfl, rfl⟩
  · generalize strL l = s at *
    go_enter Tryz.func27, Tryz.ntmps27
    go_wp2_with fail
    go_ret
    exact ⟨rfl, rfl⟩
theorem dktake_any (g : Nat) (l : List UInt8) (bad : Bool) (n : Nat) (w : World) (hc : DK w g l bad) :
    Calls Tryz.prog 27 #[.pointer (some ⟨g, 0, none⟩), .int .i64 n] w fun e w' => e = .returned (.string (strL (dkTake n l bad).1)) ∧ w' = dkW w g n l bad := by
  unfold dkTake dkW
  by_cases h : bad = false ∧ n ≤ l.length
  · rw [if_pos h, if_pos h]
    obtain ⟨rfl, hn⟩ := h
    exact dktake_some g l n w hc hn
  · rw [if_neg h, if_neg h]
    exact dktake_none g l bad n w hc (by cases bad; exact .inr (Nat.lt_of_not_le fun q => h ⟨rfl, q⟩); exact .inl rfl)
theorem refGet_nil (w : World) : Calls Tryz.prog 122 #[.string ⟨#[]⟩] w fun e w' => e = .returned (.tuple #[.int .i64 0, .int .i64 1]) ∧ w = w' := by
  go_enter Tryz.func122, Tryz.ntmps122
  go_wp2_with fail
  go_ret2
  exact ⟨rfl, rfl⟩
/-- the number that is taken -/
def dkNum (n : Nat) (l : List UInt8) (bad : Bool) : Int := if bad = false ∧ n ≤ l.length then getN (l.take n) else 0
theorem dknum_any (g : Nat) (l : List UInt8) (bad : Bool) (n : Nat) (w : World) (hc : DK w g l bad) (h1 : 1 ≤ n) (h7 : n ≤ 7) :
    Calls Tryz.prog 28 #[.pointer (some ⟨g, 0, none⟩), .int .i64 n] w fun e w' => e = .returned (.int .i64 (dkNum n l bad)) ∧ w' = dkW w g n l bad := by
  unfold dkNum dkW
  by_cases h : bad = false ∧ n ≤ l.length
  · rw [if_pos h, if_pos h]
    obtain ⟨rfl, hn⟩ := h
    have HG := Lib.hid (fun w => refGet_any (strL (l.take n)) w (by rw [strL_size, List.length_take]; omega) (by rw [strL_size, List.length_take]; omega))
    go_enter Tryz.func28, Tryz.ntmps28
    go_wp2_with fail
    refine (dktake_some g l n _ hc hn).mono ?_
    rintro e w1 ⟨rfl, rfl⟩
    go_wp2_with fail
    refine (HG.out _).mono ?_
    rintro e w1 ⟨rfl, rfl⟩
    go_wp2_with fail
    go_ret
    exact ⟨rfl, rfl⟩
  · rw [if_neg h, if_neg h]
    have hn : bad = true ∨ l.length < n := by
      cases bad
      · exact .inr (Nat.lt_of_not_le fun q => h ⟨rfl, q⟩)
      · exact .inl rfl
    clear h
    go_enter Tryz.func28, Tryz.ntmps28
    go_wp2_with fail
    refine (dktake_none g l bad n _ hc hn).mono ?_
    rintro e w1 ⟨rfl, rfl⟩
    go_wp2_with fail
    refine (refGet_nil _).mono ?_
    rintro e w1 ⟨rfl, rfl⟩
    go_wp2_with fail
    go_ret
    exact ⟨rfl, rfl⟩
end Go.Proofs.YtaplefelfiefaaaGreat
end

/- own pairs among boxes that turn; own vectors below a block. By an AI agent. -/
section
set_option linter.unusedVariables false
namespace Go.Proofs.YtaplefelfiefaaaGreat
open Go.RowKit

def FarPO (B : Nat) (w : World) (a : Option Addr) (n ca : Nat) (ps : List (ByteArray × ValL)) : Prop := OPR B w (.slice a n ca) n ps
theorem FarPO.keep {B : Nat} {w w' : World} {a : Option Addr} {n ca : Nat} {ps : List (ByteArray × ValL)} (h : FarPO B w a n ca ps) (hb : Bl w w') : FarPO B w' a n ca ps := OPR.keep h hb
theorem FarPO.mono {B B' : Nat} {w : World} {a : Option Addr} {n ca : Nat} {ps : List (ByteArray × ValL)} (h : FarPO B w a n ca ps) (hB : B' ≤ B) : FarPO B' w a n ca ps := by
  obtain ⟨h0, h1, h2 | ⟨g, cap, cur, hv, hg, r⟩⟩ := h
  · exact ⟨h0, h1, .inl h2⟩
  · exact ⟨h0, h1, .inr ⟨g, cap, cur, hv, Nat.le_trans hB hg, r⟩⟩
theorem FarPO.set {B : Nat} {w : World} {a : Option Addr} {n ca : Nat} {ps : List (ByteArray × ValL)} (h : FarPO B w a n ca ps) {q : Nat} (hq : q < B) (j : Nat) (u : Value) : FarPO B (w.setCell ⟨q, j, none⟩ u) a n ca ps := OPR.set h hq j u
theorem FarPO.fill {B : Nat} {a : Option Addr} {n ca : Nat} {ps : List (ByteArray × ValL)} {q : Nat} (hq : q < B) (vs : List Value) : ∀ (w : World) (j : Nat), FarPO B w a n ca ps → FarPO B (Go.Proofs.YtaplefelfiefaaaGreat.fill w q j vs) a n ca ps := by
  induction vs with
  | nil => intro w j h; exact h
  | cons v vs ih => intro w j h; exact ih _ _ (h.set hq j v)
theorem FarPO.far {B : Nat} {w : World} {a : Option Addr} {n ca : Nat} {ps : List (ByteArray × ValL)} (h : FarPO B w a n ca ps) (hk : n ≤ 1000000) : FarPA B w a n ps := OPR.far h hk
/-- the room of the slice that stands in a box's third cell -/
def capV : Value → Nat
  | .slice _ _ c => c
  | _ => 0
def cap2 (cs : List Value) : Nat := (cs[2]?.map capV).getD 0
theorem cap2_set (cs : List Value) {j : Nat} (hj : j ≠ 2) (v : Value) : cap2 (cs.set j v) = cap2 cs := by
  unfold cap2
  rw [List.getElem?_set_ne hj]
theorem FarO.below {B B' : Nat} {w w' : World} {a : Option Addr} {n ca : Nat} {xs : List Int} (h : FarO B w a n ca xs) (hb : Below B' w w') (hq : ∀ b off, a = some ⟨b, off, none⟩ → b < B') : FarO B w' a n ca xs := by
  refine ⟨?_, h.cap, h.wf⟩
  obtain ⟨h1, h2 | ⟨g, cap, cur, hv, hB2, hg, r⟩⟩ := h.own
  · exact ⟨h1, .inl h2⟩
  · have hlt : g < B' := by
      cases hv
      exact hq g 0 rfl
    exact ⟨h1, .inr ⟨g, cap, cur, hv, hB2, by rw [hb.block g hlt]; exact hg, r⟩⟩
end Go.Proofs.YtaplefelfiefaaaGreat
end
