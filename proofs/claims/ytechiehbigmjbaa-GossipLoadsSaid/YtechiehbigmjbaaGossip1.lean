/- vec.Zero; gossip.New, none: what they make. By an AI agent. -/
import Derived.Test.YtechiehbigmjbaaVec2
import Derived.Test.YtechiehbigmjbaaVecQ
namespace Go.Proofs.Ytechiehbigmjbaa
open Go.RowKit

theorem info_vec : (Try.prog.info? 23).map (fun i => (i.zero, i.size, i.bytes)) = some (some (.slice none 0 0), 1, 24) := by kernel_rfl

/-- noughts -/
def zeroL (n : Nat) : List Int := List.replicate n 0

set_option maxHeartbeats 400000 in
set_option maxRecDepth 100000 in
theorem zero_yes (n : Nat) (w : World) (h1 : 1 ≤ n) (h8 : n ≤ 8) :
    Calls Try.prog 111 #[.int .i64 n] w fun e w' => ∃ v, e = .returned v ∧ FI w.heap.size w' v (zeroL n) ∧ Bl w w' := by
  obtain ⟨i0, hi, hz0, hz1, hz2⟩ := info_parts info_int
  go_enter Try.func111, Try.ntmps111
  go_wp2_with (at_make; refine wpList_make_full _ rfl _ _ 23 rfl w.heap.size 3 i0 (.int .i64 0) 1 Try.underlying23 hi hz0 hz1 .i64 .i64 _ _ n rfl rfl rfl rfl ?b1 ?b2 ?b3 ?_)
  case b1 => rw [hz2]; omega
  case b2 => unfold maxLen; omega
  case b3 => exact Nat.le_refl _
  intro w1 hown hgrow
  have hb : Bl w w1 := Below.grown (Bl.refl w) hgrow (Nat.le_refl _) (by simp)
  have hob : OI w.heap.size w1 (.slice (some ⟨w.heap.size, 0, none⟩) n n) (zeroL n) := by
    have e : (madeCells #[Value.int .i64 0] n).toList = List.map (Value.int .i64) (List.replicate n 0) := by
      rw [List.map_replicate]
      exact toList_madeCells_one _ _
    rw [e] at hown
    rw [OI, zeroL, List.length_replicate]
    exact hown
  clear hown hgrow
  go_wp2_with fail
  go_ret
  refine ⟨_, rfl, ⟨hob, by simp [zeroL]; omega, fun x hx => ?_⟩, hb⟩
  simp [zeroL] at hx; omega

/-! ### rows: a list of lists -/
def nthV (vs : List Value) (i : Nat) : Value := vs.getD i (.slice none 0 0)
def nthR (rows : List (List Int)) (i : Nat) : List Int := rows.getD i []
/-- a slice of vectors, made by the call itself, reads as rows -/
def OR (B : Nat) (w : World) (v : Value) (rows : List (List Int)) : Prop :=
  ∃ vs : List Value, w.ownsRow B 23 1 v rows.length vs ∧ vs.length = rows.length ∧ ∀ i, FI B w (nthV vs i) (nthR rows i)
/-- rows at g read as .. -/
def RG (B : Nat) (w : World) (g : Nat) (rows : List (List Int)) : Prop := ∃ v, C1 w g v ∧ B ≤ g ∧ OR (g + 1) w v rows

theorem OR.nil (B : Nat) (w : World) : OR B w (.slice none 0 0) [] := ⟨[], World.ownsRow_nil _ _ _ _, rfl, fun i => by simp [nthV, nthR]; exact FI.nil _ _⟩
theorem OR.keep {B : Nat} {w w' : World} {v : Value} {rows : List (List Int)} (h : OR B w v rows) (hb : Bl w w') : OR B w' v rows := by
  obtain ⟨vs, h1, h2, h3⟩ := h
  exact ⟨vs, ownsRow_bl h1 hb, h2, fun i => (h3 i).keep hb⟩
theorem RG.keep {B : Nat} {w w' : World} {g : Nat} {rows : List (List Int)} (h : RG B w g rows) (hb : Bl w w') : RG B w' g rows := by
  obtain ⟨v, h1, h2, h3⟩ := h
  exact ⟨v, h1.keep hb, h2, h3.keep hb⟩

theorem none_nil (w : World) : Calls Try.prog 71 #[.pointer none] w fun e w' => e = .returned (.bool true) ∧ w = w' := by
  go_enter Try.func71, Try.ntmps71
  go_wp2
  go_ret
  exact ⟨rfl, rfl⟩

theorem OR.slice {B : Nat} {w : World} {v : Value} {rows : List (List Int)} (h : OR B w v rows) : ∃ a c, v = .slice a rows.length c := by
  obtain ⟨vs, hown, _, _⟩ := h
  rcases hown.2 with ⟨rfl, e⟩ | ⟨g, cap, cur, rfl, _⟩
  · exact ⟨_, _, by rw [e]⟩
  · exact ⟨_, _, rfl⟩

theorem none_any (g n c : Nat) (a : Option Addr) (w : World) (h : C1 w g (.slice a n c)) : Calls Try.prog 71 #[.pointer (some ⟨g, 0, none⟩)] w fun e w' => e = .returned (.bool (decide (n = 0))) ∧ w = w' := by
  have hc := h.cell
  by_cases h0 : n = 0
  · have q : ((n : Int) == 0) = true := by simp [h0]
    have HN := Lib.hid h0; clear h0
    go_enter Try.func71, Try.ntmps71
    go_wp2
    go_ret
    exact ⟨ret_bool (by simp [HN.out]), rfl⟩
  · have q : ((n : Int) == 0) = false := by simp; omega
    have HN := Lib.hid h0; clear h0
    go_enter Try.func71, Try.ntmps71
    go_wp2
    go_ret
    exact ⟨ret_bool (by simp [HN.out]), rfl⟩
end Go.Proofs.Ytechiehbigmjbaa
