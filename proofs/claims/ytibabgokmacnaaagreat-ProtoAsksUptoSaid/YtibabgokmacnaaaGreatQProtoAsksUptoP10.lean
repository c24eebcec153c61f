import Derived.Test.YtibabgokmacnaaaGreatQProtoAsksUptoP9
import Derived.Test.YtibabgokmacnaaaGreatQProtoAsksUptoP8
import Derived.Test.YtibabgokmacnaaaGreatQProtoAsksUptoP4
import Derived.Deep.Cut

/- bedrockref26.has, number, uses. By an AI agent. -/
section
set_option linter.unusedVariables false
set_option linter.unusedSimpArgs false
namespace Go.Proofs.YtibabgokmacnaaaGreat
open Go.RowKit

def hasL (s : ByteArray) (c : Nat) : Bool := s.data.toList.any fun x => x.toNat == c
theorem any_take_succ {s : ByteArray} {k c : Nat} (h : k < s.size) : (s.data.toList.take (k + 1)).any (fun x => x.toNat == c) = ((s.data.toList.take k).any (fun x => x.toNat == c) || (s[k].toNat == c)) := by
  have e : s.data.toList[k]? = some s[k] := by
    rw [Array.getElem?_toList, Array.getElem?_eq_getElem (show k < s.data.size from h)]
    rfl
  rw [List.take_add_one, e, List.any_append]
  simp
theorem rhas_any (s : ByteArray) (c : Nat) (w : World) (hc : c < 256) (hs : s.size ≤ 1000000) :
    Calls Tryz.prog 159 #[.string s, .int .u8 c] w fun e w' => e = .returned (.bool (hasL s c)) ∧ w = w' := by
  go_enter Tryz.func159, Tryz.ntmps159
  go_wp2
  go_loop [5] (fun i => ∃ k : Nat, k ≤ s.size ∧ i = .int .i64 k ∧ (s.data.toList.take k).any (fun x => x.toNat == c) = false) (fun i => s.size - (intOf i).toNat)
  case atStart => exact ⟨0, Nat.zero_le _, rfl, rfl⟩
  case round =>
    obtain ⟨k, hk, rfl, ha⟩ := hrel
    have HA := Lib.hid ha; clear ha
    by_cases hlt : k < s.size
    · have HT := Lib.hid (any_take_succ (c := c) hlt)
      cases hq : (s[k].toNat == c)
      · have HQ := Lib.hid hq
        have q : ((s[k].toNat : Int) == (c : Int)) = false := by
          rw [beq_eq_false_iff_ne] at hq ⊢
          exact fun e => hq (by exact_mod_cast e)
        clear hq
        go_wp2
        go_round
        case rel => exact ⟨k + 1, by omega, by go_num, by rw [HT.out, HA.out, HQ.out]; rfl⟩
        case measure => simp [intOf]; omega
      · have HQ := Lib.hid hq
        have q : ((s[k].toNat : Int) == (c : Int)) = true := by
          rw [beq_iff_eq] at hq ⊢
          exact_mod_cast hq
        have HE := Lib.hid (show hasL s c = true by
          have h1 : (s.data.toList.take (k + 1)).any (fun x => x.toNat == c) = true := by rw [HT.out, HA.out, HQ.out]; rfl
          obtain ⟨x, hx, h2⟩ := List.any_eq_true.1 h1
          exact List.any_eq_true.2 ⟨x, List.mem_of_mem_take hx, h2⟩)
        clear hq
        go_wp2
        go_ret
        exact ⟨ret_bool HE.out.symm, rfl⟩
    · have HE := Lib.hid (show hasL s c = false by
        have := HA.out
        rwa [List.take_of_length_le (by simp; omega)] at this)
      go_wp2
      go_ret
      exact ⟨ret_bool HE.out.symm, rfl⟩
/-- number(n, used) -/
theorem rnumber_any (n : Int) (u : Bool) (w : World) (h0 : -9223372036854775808 ≤ n) (h1 : n ≤ 9223372036854775807) :
    Calls Tryz.prog 158 #[.int .i64 n, .bool u] w fun e w' => e = .returned (.bool (rangeB n u)) ∧ w = w' := by
  by_cases hz : n = 0
  · subst hz
    go_enter Tryz.func158, Tryz.ntmps158
    go_wp2
    go_ret
    exact ⟨ret_bool (by simp [rangeB]), rfl⟩
  · have q0 : ((n : Int) == 0) = false := by rw [beq_eq_false_iff_ne]; exact hz
    cases u
    · go_enter Tryz.func158, Tryz.ntmps158
      go_wp2
      go_ret
      exact ⟨ret_bool (by simp [rangeB, hz]), rfl⟩
    · by_cases h2 : 0 < n
      · have q2 : decide (0 < n) = true := decide_eq_true h2
        go_enter Tryz.func158, Tryz.ntmps158
        go_wp2
        go_ret
        exact ⟨ret_bool (by rw [Bool.eq_iff_iff]; simp [rangeB]; omega), rfl⟩
      · have q2 : decide (0 < n) = false := decide_eq_false h2
        go_enter Tryz.func158, Tryz.ntmps158
        go_wp2
        go_ret
        exact ⟨ret_bool (by rw [Bool.eq_iff_iff]; simp [rangeB]; omega), rfl⟩
/-- what a kind uses -/
structure UseOk (u : ByteArray) (k : Int) : Prop where
  small : u.size ≤ 10
  ses : hasL u 83 = uSes k
  at_ : hasL u 65 = uAt k
  tx : hasL u 84 = uTx k
  key : hasL u 75 = uKey k
  act : hasL u 67 = uAct k
  text : hasL u 88 = uText k
  num : hasL u 78 = uNum k
  id : hasL u 73 = uId k
set_option maxRecDepth 100000 in
theorem ruse_0 (w : World) : Calls Tryz.prog 157 #[.int .i64 0] w fun e w' => ∃ u : ByteArray, e = .returned (.string u) ∧ UseOk u 0 ∧ w = w' := by
  have hix : ∀ w, Sem.run Tryz.prog (Instr.index 245 (.agg #[.string ⟨#[]⟩, .string ⟨#[83]⟩, .string ⟨#[83, 65]⟩, .string ⟨#[83, 84, 75]⟩, .string ⟨#[83, 84, 75, 67]⟩, .string ⟨#[83, 84]⟩, .string ⟨#[83, 84]⟩, .string ⟨#[83, 84, 75, 88, 78]⟩, .string ⟨#[83, 65, 78]⟩, .string ⟨#[83, 73, 78]⟩, .string ⟨#[83, 73]⟩, .string ⟨#[83]⟩, .string ⟨#[83]⟩, .string ⟨#[83]⟩, .string ⟨#[83, 65]⟩, .string ⟨#[83, 88]⟩]) (.int .i64 0)) w = .ok (.string ⟨#[]⟩) w := fun w => by rfl
  go_enter Tryz.func157, Tryz.ntmps157
  go_wp2
  go_ret
  exact ⟨_, rfl, ⟨by decide, by decide, by decide, by decide, by decide, by decide, by decide, by decide, by decide⟩, rfl⟩
set_option maxRecDepth 100000 in
theorem ruse_1 (w : World) : Calls Tryz.prog 157 #[.int .i64 1] w fun e w' => ∃ u : ByteArray, e = .returned (.string u) ∧ UseOk u 1 ∧ w = w' := by
  have hix : ∀ w, Sem.run Tryz.prog (Instr.index 245 (.agg #[.string ⟨#[]⟩, .string ⟨#[83]⟩, .string ⟨#[83, 65]⟩, .string ⟨#[83, 84, 75]⟩, .string ⟨#[83, 84, 75, 67]⟩, .string ⟨#[83, 84]⟩, .string ⟨#[83, 84]⟩, .string ⟨#[83, 84, 75, 88, 78]⟩, .string ⟨#[83, 65, 78]⟩, .string ⟨#[83, 73, 78]⟩, .string ⟨#[83, 73]⟩, .string ⟨#[83]⟩, .string ⟨#[83]⟩, .string ⟨#[83]⟩, .string ⟨#[83, 65]⟩, .string ⟨#[83, 88]⟩]) (.int .i64 1)) w = .ok (.string ⟨#[83]⟩) w := fun w => by rfl
  go_enter Tryz.func157, Tryz.ntmps157
  go_wp2
  go_ret
  exact ⟨_, rfl, ⟨by decide, by decide, by decide, by decide, by decide, by decide, by decide, by decide, by decide⟩, rfl⟩
set_option maxRecDepth 100000 in
theorem ruse_2 (w : World) : Calls Tryz.prog 157 #[.int .i64 2] w fun e w' => ∃ u : ByteArray, e = .returned (.string u) ∧ UseOk u 2 ∧ w = w' := by
  have hix : ∀ w, Sem.run Tryz.prog (Instr.index 245 (.agg #[.string ⟨#[]⟩, .string ⟨#[83]⟩, .string ⟨#[83, 65]⟩, .string ⟨#[83, 84, 75]⟩, .string ⟨#[83, 84, 75, 67]⟩, .string ⟨#[83, 84]⟩, .string ⟨#[83, 84]⟩, .string ⟨#[83, 84, 75, 88, 78]⟩, .string ⟨#[83, 65, 78]⟩, .string ⟨#[83, 73, 78]⟩, .string ⟨#[83, 73]⟩, .string ⟨#[83]⟩, .string ⟨#[83]⟩, .string ⟨#[83]⟩, .string ⟨#[83, 65]⟩, .string ⟨#[83, 88]⟩]) (.int .i64 2)) w = .ok (.string ⟨#[83, 65]⟩) w := fun w => by rfl
  go_enter Tryz.func157, Tryz.ntmps157
  go_wp2
  go_ret
  exact ⟨_, rfl, ⟨by decide, by decide, by decide, by decide, by decide, by decide, by decide, by decide, by decide⟩, rfl⟩
set_option maxRecDepth 100000 in
theorem ruse_3 (w : World) : Calls Tryz.prog 157 #[.int .i64 3] w fun e w' => ∃ u : ByteArray, e = .returned (.string u) ∧ UseOk u 3 ∧ w = w' := by
  have hix : ∀ w, Sem.run Tryz.prog (Instr.index 245 (.agg #[.string ⟨#[]⟩, .string ⟨#[83]⟩, .string ⟨#[83, 65]⟩, .string ⟨#[83, 84, 75]⟩, .string ⟨#[83, 84, 75, 67]⟩, .string ⟨#[83, 84]⟩, .string ⟨#[83, 84]⟩, .string ⟨#[83, 84, 75, 88, 78]⟩, .string ⟨#[83, 65, 78]⟩, .string ⟨#[83, 73, 78]⟩, .string ⟨#[83, 73]⟩, .string ⟨#[83]⟩, .string ⟨#[83]⟩, .string ⟨#[83]⟩, .string ⟨#[83, 65]⟩, .string ⟨#[83, 88]⟩]) (.int .i64 3)) w = .ok (.string ⟨#[83, 84, 75]⟩) w := fun w => by rfl
  go_enter Tryz.func157, Tryz.ntmps157
  go_wp2
  go_ret
  exact ⟨_, rfl, ⟨by decide, by decide, by decide, by decide, by decide, by decide, by decide, by decide, by decide⟩, rfl⟩
set_option maxRecDepth 100000 in
theorem ruse_4 (w : World) : Calls Tryz.prog 157 #[.int .i64 4] w fun e w' => ∃ u : ByteArray, e = .returned (.string u) ∧ UseOk u 4 ∧ w = w' := by
  have hix : ∀ w, Sem.run Tryz.prog (Instr.index 245 (.agg #[.string ⟨#[]⟩, .string ⟨#[83]⟩, .string ⟨#[83, 65]⟩, .string ⟨#[83, 84, 75]⟩, .string ⟨#[83, 84, 75, 67]⟩, .string ⟨#[83, 84]⟩, .string ⟨#[83, 84]⟩, .string ⟨#[83, 84, 75, 88, 78]⟩, .string ⟨#[83, 65, 78]⟩, .string ⟨#[83, 73, 78]⟩, .string ⟨#[83, 73]⟩, .string ⟨#[83]⟩, .string ⟨#[83]⟩, .string ⟨#[83]⟩, .string ⟨#[83, 65]⟩, .string ⟨#[83, 88]⟩]) (.int .i64 4)) w = .ok (.string ⟨#[83, 84, 75, 67]⟩) w := fun w => by rfl
  go_enter Tryz.func157, Tryz.ntmps157
  go_wp2
  go_ret
  exact ⟨_, rfl, ⟨by decide, by decide, by decide, by decide, by decide, by decide, by decide, by decide, by decide⟩, rfl⟩
set_option maxRecDepth 100000 in
theorem ruse_5 (w : World) : Calls Tryz.prog 157 #[.int .i64 5] w fun e w' => ∃ u : ByteArray, e = .returned (.string u) ∧ UseOk u 5 ∧ w = w' := by
  have hix : ∀ w, Sem.run Tryz.prog (Instr.index 245 (.agg #[.string ⟨#[]⟩, .string ⟨#[83]⟩, .string ⟨#[83, 65]⟩, .string ⟨#[83, 84, 75]⟩, .string ⟨#[83, 84, 75, 67]⟩, .string ⟨#[83, 84]⟩, .string ⟨#[83, 84]⟩, .string ⟨#[83, 84, 75, 88, 78]⟩, .string ⟨#[83, 65, 78]⟩, .string ⟨#[83, 73, 78]⟩, .string ⟨#[83, 73]⟩, .string ⟨#[83]⟩, .string ⟨#[83]⟩, .string ⟨#[83]⟩, .string ⟨#[83, 65]⟩, .string ⟨#[83, 88]⟩]) (.int .i64 5)) w = .ok (.string ⟨#[83, 84]⟩) w := fun w => by rfl
  go_enter Tryz.func157, Tryz.ntmps157
  go_wp2
  go_ret
  exact ⟨_, rfl, ⟨by decide, by decide, by decide, by decide, by decide, by decide, by decide, by decide, by decide⟩, rfl⟩
set_option maxRecDepth 100000 in
theorem ruse_6 (w : World) : Calls Tryz.prog 157 #[.int .i64 6] w fun e w' => ∃ u : ByteArray, e = .returned (.string u) ∧ UseOk u 6 ∧ w = w' := by
  have hix : ∀ w, Sem.run Tryz.prog (Instr.index 245 (.agg #[.string ⟨#[]⟩, .string ⟨#[83]⟩, .string ⟨#[83, 65]⟩, .string ⟨#[83, 84, 75]⟩, .string ⟨#[83, 84, 75, 67]⟩, .string ⟨#[83, 84]⟩, .string ⟨#[83, 84]⟩, .string ⟨#[83, 84, 75, 88, 78]⟩, .string ⟨#[83, 65, 78]⟩, .string ⟨#[83, 73, 78]⟩, .string ⟨#[83, 73]⟩, .string ⟨#[83]⟩, .string ⟨#[83]⟩, .string ⟨#[83]⟩, .string ⟨#[83, 65]⟩, .string ⟨#[83, 88]⟩]) (.int .i64 6)) w = .ok (.string ⟨#[83, 84]⟩) w := fun w => by rfl
  go_enter Tryz.func157, Tryz.ntmps157
  go_wp2
  go_ret
  exact ⟨_, rfl, ⟨by decide, by decide, by decide, by decide, by decide, by decide, by decide, by decide, by decide⟩, rfl⟩
set_option maxRecDepth 100000 in
theorem ruse_7 (w : World) : Calls Tryz.prog 157 #[.int .i64 7] w fun e w' => ∃ u : ByteArray, e = .returned (.string u) ∧ UseOk u 7 ∧ w = w' := by
  have hix : ∀ w, Sem.run Tryz.prog (Instr.index 245 (.agg #[.string ⟨#[]⟩, .string ⟨#[83]⟩, .string ⟨#[83, 65]⟩, .string ⟨#[83, 84, 75]⟩, .string ⟨#[83, 84, 75, 67]⟩, .string ⟨#[83, 84]⟩, .string ⟨#[83, 84]⟩, .string ⟨#[83, 84, 75, 88, 78]⟩, .string ⟨#[83, 65, 78]⟩, .string ⟨#[83, 73, 78]⟩, .string ⟨#[83, 73]⟩, .string ⟨#[83]⟩, .string ⟨#[83]⟩, .string ⟨#[83]⟩, .string ⟨#[83, 65]⟩, .string ⟨#[83, 88]⟩]) (.int .i64 7)) w = .ok (.string ⟨#[83, 84, 75, 88, 78]⟩) w := fun w => by rfl
  go_enter Tryz.func157, Tryz.ntmps157
  go_wp2
  go_ret
  exact ⟨_, rfl, ⟨by decide, by decide, by decide, by decide, by decide, by decide, by decide, by decide, by decide⟩, rfl⟩
set_option maxRecDepth 100000 in
theorem ruse_8 (w : World) : Calls Tryz.prog 157 #[.int .i64 8] w fun e w' => ∃ u : ByteArray, e = .returned (.string u) ∧ UseOk u 8 ∧ w = w' := by
  have hix : ∀ w, Sem.run Tryz.prog (Instr.index 245 (.agg #[.string ⟨#[]⟩, .string ⟨#[83]⟩, .string ⟨#[83, 65]⟩, .string ⟨#[83, 84, 75]⟩, .string ⟨#[83, 84, 75, 67]⟩, .string ⟨#[83, 84]⟩, .string ⟨#[83, 84]⟩, .string ⟨#[83, 84, 75, 88, 78]⟩, .string ⟨#[83, 65, 78]⟩, .string ⟨#[83, 73, 78]⟩, .string ⟨#[83, 73]⟩, .string ⟨#[83]⟩, .string ⟨#[83]⟩, .string ⟨#[83]⟩, .string ⟨#[83, 65]⟩, .string ⟨#[83, 88]⟩]) (.int .i64 8)) w = .ok (.string ⟨#[83, 65, 78]⟩) w := fun w => by rfl
  go_enter Tryz.func157, Tryz.ntmps157
  go_wp2
  go_ret
  exact ⟨_, rfl, ⟨by decide, by decide, by decide, by decide, by decide, by decide, by decide, by decide, by decide⟩, rfl⟩
set_option maxRecDepth 100000 in
theorem ruse_9 (w : World) : Calls Tryz.prog 157 #[.int .i64 9] w fun e w' => ∃ u : ByteArray, e = .returned (.string u) ∧ UseOk u 9 ∧ w = w' := by
  have hix : ∀ w, Sem.run Tryz.prog (Instr.index 245 (.agg #[.string ⟨#[]⟩, .string ⟨#[83]⟩, .string ⟨#[83, 65]⟩, .string ⟨#[83, 84, 75]⟩, .string ⟨#[83, 84, 75, 67]⟩, .string ⟨#[83, 84]⟩, .string ⟨#[83, 84]⟩, .string ⟨#[83, 84, 75, 88, 78]⟩, .string ⟨#[83, 65, 78]⟩, .string ⟨#[83, 73, 78]⟩, .string ⟨#[83, 73]⟩, .string ⟨#[83]⟩, .string ⟨#[83]⟩, .string ⟨#[83]⟩, .string ⟨#[83, 65]⟩, .string ⟨#[83, 88]⟩]) (.int .i64 9)) w = .ok (.string ⟨#[83, 73, 78]⟩) w := fun w => by rfl
  go_enter Tryz.func157, Tryz.ntmps157
  go_wp2
  go_ret
  exact ⟨_, rfl, ⟨by decide, by decide, by decide, by decide, by decide, by decide, by decide, by decide, by decide⟩, rfl⟩
set_option maxRecDepth 100000 in
theorem ruse_10 (w : World) : Calls Tryz.prog 157 #[.int .i64 10] w fun e w' => ∃ u : ByteArray, e = .returned (.string u) ∧ UseOk u 10 ∧ w = w' := by
  have hix : ∀ w, Sem.run Tryz.prog (Instr.index 245 (.agg #[.string ⟨#[]⟩, .string ⟨#[83]⟩, .string ⟨#[83, 65]⟩, .string ⟨#[83, 84, 75]⟩, .string ⟨#[83, 84, 75, 67]⟩, .string ⟨#[83, 84]⟩, .string ⟨#[83, 84]⟩, .string ⟨#[83, 84, 75, 88, 78]⟩, .string ⟨#[83, 65, 78]⟩, .string ⟨#[83, 73, 78]⟩, .string ⟨#[83, 73]⟩, .string ⟨#[83]⟩, .string ⟨#[83]⟩, .string ⟨#[83]⟩, .string ⟨#[83, 65]⟩, .string ⟨#[83, 88]⟩]) (.int .i64 10)) w = .ok (.string ⟨#[83, 73]⟩) w := fun w => by rfl
  go_enter Tryz.func157, Tryz.ntmps157
  go_wp2
  go_ret
  exact ⟨_, rfl, ⟨by decide, by decide, by decide, by decide, by decide, by decide, by decide, by decide, by decide⟩, rfl⟩
set_option maxRecDepth 100000 in
theorem ruse_11 (w : World) : Calls Tryz.prog 157 #[.int .i64 11] w fun e w' => ∃ u : ByteArray, e = .returned (.string u) ∧ UseOk u 11 ∧ w = w' := by
  have hix : ∀ w, Sem.run Tryz.prog (Instr.index 245 (.agg #[.string ⟨#[]⟩, .string ⟨#[83]⟩, .string ⟨#[83, 65]⟩, .string ⟨#[83, 84, 75]⟩, .string ⟨#[83, 84, 75, 67]⟩, .string ⟨#[83, 84]⟩, .string ⟨#[83, 84]⟩, .string ⟨#[83, 84, 75, 88, 78]⟩, .string ⟨#[83, 65, 78]⟩, .string ⟨#[83, 73, 78]⟩, .string ⟨#[83, 73]⟩, .string ⟨#[83]⟩, .string ⟨#[83]⟩, .string ⟨#[83]⟩, .string ⟨#[83, 65]⟩, .string ⟨#[83, 88]⟩]) (.int .i64 11)) w = .ok (.string ⟨#[83]⟩) w := fun w => by rfl
  go_enter Tryz.func157, Tryz.ntmps157
  go_wp2
  go_ret
  exact ⟨_, rfl, ⟨by decide, by decide, by decide, by decide, by decide, by decide, by decide, by decide, by decide⟩, rfl⟩
set_option maxRecDepth 100000 in
theorem ruse_12 (w : World) : Calls Tryz.prog 157 #[.int .i64 12] w fun e w' => ∃ u : ByteArray, e = .returned (.string u) ∧ UseOk u 12 ∧ w = w' := by
  have hix : ∀ w, Sem.run Tryz.prog (Instr.index 245 (.agg #[.string ⟨#[]⟩, .string ⟨#[83]⟩, .string ⟨#[83, 65]⟩, .string ⟨#[83, 84, 75]⟩, .string ⟨#[83, 84, 75, 67]⟩, .string ⟨#[83, 84]⟩, .string ⟨#[83, 84]⟩, .string ⟨#[83, 84, 75, 88, 78]⟩, .string ⟨#[83, 65, 78]⟩, .string ⟨#[83, 73, 78]⟩, .string ⟨#[83, 73]⟩, .string ⟨#[83]⟩, .string ⟨#[83]⟩, .string ⟨#[83]⟩, .string ⟨#[83, 65]⟩, .string ⟨#[83, 88]⟩]) (.int .i64 12)) w = .ok (.string ⟨#[83]⟩) w := fun w => by rfl
  go_enter Tryz.func157, Tryz.ntmps157
  go_wp2
  go_ret
  exact ⟨_, rfl, ⟨by decide, by decide, by decide, by decide, by decide, by decide, by decide, by decide, by decide⟩, rfl⟩
set_option maxRecDepth 100000 in
theorem ruse_13 (w : World) : Calls Tryz.prog 157 #[.int .i64 13] w fun e w' => ∃ u : ByteArray, e = .returned (.string u) ∧ UseOk u 13 ∧ w = w' := by
  have hix : ∀ w, Sem.run Tryz.prog (Instr.index 245 (.agg #[.string ⟨#[]⟩, .string ⟨#[83]⟩, .string ⟨#[83, 65]⟩, .string ⟨#[83, 84, 75]⟩, .string ⟨#[83, 84, 75, 67]⟩, .string ⟨#[83, 84]⟩, .string ⟨#[83, 84]⟩, .string ⟨#[83, 84, 75, 88, 78]⟩, .string ⟨#[83, 65, 78]⟩, .string ⟨#[83, 73, 78]⟩, .string ⟨#[83, 73]⟩, .string ⟨#[83]⟩, .string ⟨#[83]⟩, .string ⟨#[83]⟩, .string ⟨#[83, 65]⟩, .string ⟨#[83, 88]⟩]) (.int .i64 13)) w = .ok (.string ⟨#[83]⟩) w := fun w => by rfl
  go_enter Tryz.func157, Tryz.ntmps157
  go_wp2
  go_ret
  exact ⟨_, rfl, ⟨by decide, by decide, by decide, by decide, by decide, by decide, by decide, by decide, by decide⟩, rfl⟩
set_option maxRecDepth 100000 in
theorem ruse_14 (w : World) : Calls Tryz.prog 157 #[.int .i64 14] w fun e w' => ∃ u : ByteArray, e = .returned (.string u) ∧ UseOk u 14 ∧ w = w' := by
  have hix : ∀ w, Sem.run Tryz.prog (Instr.index 245 (.agg #[.string ⟨#[]⟩, .string ⟨#[83]⟩, .string ⟨#[83, 65]⟩, .string ⟨#[83, 84, 75]⟩, .string ⟨#[83, 84, 75, 67]⟩, .string ⟨#[83, 84]⟩, .string ⟨#[83, 84]⟩, .string ⟨#[83, 84, 75, 88, 78]⟩, .string ⟨#[83, 65, 78]⟩, .string ⟨#[83, 73, 78]⟩, .string ⟨#[83, 73]⟩, .string ⟨#[83]⟩, .string ⟨#[83]⟩, .string ⟨#[83]⟩, .string ⟨#[83, 65]⟩, .string ⟨#[83, 88]⟩]) (.int .i64 14)) w = .ok (.string ⟨#[83, 65]⟩) w := fun w => by rfl
  go_enter Tryz.func157, Tryz.ntmps157
  go_wp2
  go_ret
  exact ⟨_, rfl, ⟨by decide, by decide, by decide, by decide, by decide, by decide, by decide, by decide, by decide⟩, rfl⟩
set_option maxRecDepth 100000 in
theorem ruse_15 (w : World) : Calls Tryz.prog 157 #[.int .i64 15] w fun e w' => ∃ u : ByteArray, e = .returned (.string u) ∧ UseOk u 15 ∧ w = w' := by
  have hix : ∀ w, Sem.run Tryz.prog (Instr.index 245 (.agg #[.string ⟨#[]⟩, .string ⟨#[83]⟩, .string ⟨#[83, 65]⟩, .string ⟨#[83, 84, 75]⟩, .string ⟨#[83, 84, 75, 67]⟩, .string ⟨#[83, 84]⟩, .string ⟨#[83, 84]⟩, .string ⟨#[83, 84, 75, 88, 78]⟩, .string ⟨#[83, 65, 78]⟩, .string ⟨#[83, 73, 78]⟩, .string ⟨#[83, 73]⟩, .string ⟨#[83]⟩, .string ⟨#[83]⟩, .string ⟨#[83]⟩, .string ⟨#[83, 65]⟩, .string ⟨#[83, 88]⟩]) (.int .i64 15)) w = .ok (.string ⟨#[83, 88]⟩) w := fun w => by rfl
  go_enter Tryz.func157, Tryz.ntmps157
  go_wp2
  go_ret
  exact ⟨_, rfl, ⟨by decide, by decide, by decide, by decide, by decide, by decide, by decide, by decide, by decide⟩, rfl⟩
theorem ruses_any (k : Int) (w : World) (h0 : 0 ≤ k) (h1 : k ≤ 15) :
    Calls Tryz.prog 157 #[.int .i64 k] w fun e w' => ∃ u : ByteArray, e = .returned (.string u) ∧ UseOk u k ∧ w = w' := by
  have h : k = 0 ∨ k = 1 ∨ k = 2 ∨ k = 3 ∨ k = 4 ∨ k = 5 ∨ k = 6 ∨ k = 7 ∨ k = 8 ∨ k = 9 ∨ k = 10 ∨ k = 11 ∨ k = 12 ∨ k = 13 ∨ k = 14 ∨ k = 15 := by omega
  clear h0 h1
  rcases h with rfl | rfl | rfl | rfl | rfl | rfl | rfl | rfl | rfl | rfl | rfl | rfl | rfl | rfl | rfl | rfl
  · exact ruse_0 w
  · exact ruse_1 w
  · exact ruse_2 w
  · exact ruse_3 w
  · exact ruse_4 w
  · exact ruse_5 w
  · exact ruse_6 w
  · exact ruse_7 w
  · exact ruse_8 w
  · exact ruse_9 w
  · exact ruse_10 w
  · exact ruse_11 w
  · exact ruse_12 w
  · exact ruse_13 w
  · exact ruse_14 w
  · exact ruse_15 w
end Go.Proofs.YtibabgokmacnaaaGreat
end

/- bedrockref2.isNan, key, Compare, Same. By an AI agent. -/
section
namespace Go.Proofs.YtibabgokmacnaaaGreat
open Go.RowKit

theorem ret_pairC {a b c d : Int} (h : a = b) (k : c = d) : Ending.returned (.tuple #[.int .i64 a, .int .i64 c]) = Ending.returned (.tuple #[.int .i64 b, .int .i64 d]) := by rw [h, k]
def keyH (x : Nat) : Nat := fkey x / 4294967296
def keyL (x : Nat) : Nat := fkey x % 4294967296
theorem keyH_lt {x : Nat} (hx : x < two64) : keyH x < 4294967296 := by
  have := fkey_lt hx
  unfold keyH; unfold two64 at this; omega
theorem keyL_lt (x : Nat) : keyL x < 4294967296 := by unfold keyL; omega
theorem key_nan {x : Nat} (h : nanB x = true) : keyH x = 0 ∧ keyL x = 0 := by
  have : fkey x = 0 := by unfold fkey; rw [h]; rfl
  unfold keyH keyL; rw [this]; exact ⟨rfl, rfl⟩
theorem key_neg {x : Nat} (h : nanB x = false) (hx : x < two64) (k : 2147483648 ≤ x / 4294967296) : keyH x = 4294967295 - x / 4294967296 ∧ keyL x = 4294967295 - x % 4294967296 := by
  have e := fkey_num h
  unfold two63 at e
  rw [if_pos (by omega)] at e
  unfold keyH keyL
  rw [e]
  unfold two64 at *
  omega
theorem half_pos {x : Nat} (h : nanB x = false) (k : ¬ 2147483648 ≤ x / 4294967296) : keyH x = x / 4294967296 + 2147483648 ∧ keyL x = x % 4294967296 := by
  have e := fkey_num h
  unfold two63 at e
  rw [if_neg (by omega)] at e
  unfold keyH keyL
  rw [e]
  omega
theorem key_order (x y : Nat) : cmpN (fkey x) (fkey y) = if keyH x < keyH y ∨ (keyH x = keyH y ∧ keyL x < keyL y) then -1 else if keyH y < keyH x ∨ keyL y < keyL x then 1 else 0 := by
  have h1 : fkey x < fkey y ↔ (keyH x < keyH y ∨ (keyH x = keyH y ∧ keyL x < keyL y)) := by unfold keyH keyL; omega
  have h2 : ¬ fkey x < fkey y → (fkey y < fkey x ↔ (keyH y < keyH x ∨ keyL y < keyL x)) := by unfold keyH keyL; omega
  unfold cmpN
  by_cases h : fkey x < fkey y
  · rw [if_pos h, if_pos (h1.1 h)]
  · rw [if_neg h, if_neg (fun k => h (h1.2 k))]
    by_cases h3 : fkey y < fkey x
    · rw [if_pos h3, if_pos ((h2 h).1 h3)]
    · rw [if_neg h3, if_neg (fun k => h3 ((h2 h).2 k))]
theorem key_same (x y : Nat) : fkey x = fkey y ↔ keyH x = keyH y ∧ keyL x = keyL y := by unfold keyH keyL; omega

/-- eight bytes in two halves -/
theorem refNan_any (x : Nat) (w : World) (hx : x < two64) : Calls Tryz.prog 224 #[.float .f64 x] w fun e w' => e = .returned (.bool (nanB x)) ∧ w = w' := by
  have q : (FloatKind.f64.format.order x x != some .eq) = nanB x := self_nan hx
  cases hn : nanB x
  · rw [hn] at q
    go_enter Tryz.func224, Tryz.ntmps224
    go_wp2_with fail
    go_ret
    exact ⟨rfl, rfl⟩
  · rw [hn] at q
    go_enter Tryz.func224, Tryz.ntmps224
    go_wp2_with fail
    go_ret
    exact ⟨rfl, rfl⟩

set_option maxHeartbeats 800000 in
set_option maxRecDepth 100000 in
theorem refKey_any (x : Nat) (w : World) (hx : x < two64) :
    Calls Tryz.prog 204 #[.float .f64 x] w fun e w' => e = .returned (.tuple #[.int .i64 (keyH x), .int .i64 (keyL x)]) ∧ w = w' := by
  have hrb := run_bits x
  obtain ⟨H, hH⟩ : ∃ H : Nat, x / 4294967296 = H := ⟨_, rfl⟩
  obtain ⟨L, hL⟩ : ∃ L : Nat, x % 4294967296 = L := ⟨_, rfl⟩
  have eH := Lib.hid (show (x : Int) / 4294967296 = (H : Int) by omega)
  have eL := Lib.hid (show (x : Int) % 4294967296 = (L : Int) by omega)
  have bH : H < 4294967296 := by unfold two64 at hx; omega
  have bL : L < 4294967296 := by omega
  cases hn : nanB x
  · have hx2 : x < 18446744073709551616 := hx
    by_cases k : 2147483648 ≤ H
    · have HK := Lib.hid (key_neg hn hx (by rw [hH]; exact k))
      rw [hH, hL] at HK
      clear hH hL
      have q : decide ((2147483648 : Int) ≤ (H : Int)) = true := by simp; omega
      go_enter Tryz.func204, Tryz.ntmps204
      go_wp2_with fail
      refine (refNan_any x _ hx).mono ?_
      rintro e w1 ⟨rfl, rfl⟩
      rw [hn]
      go_upto_region 5 with fail
      rw [eH.out, eL.out]
      go_wp2_with fail
      go_ret2
      exact ⟨ret_pairC (by rw [HK.out.1]; omega) (by rw [HK.out.2]; omega), rfl⟩
    · have HK := Lib.hid (half_pos hn (by rw [hH]; exact k))
      rw [hH, hL] at HK
      clear hH hL
      have q : decide ((2147483648 : Int) ≤ (H : Int)) = false := by simp; omega
      go_enter Tryz.func204, Tryz.ntmps204
      go_wp2_with fail
      refine (refNan_any x _ hx).mono ?_
      rintro e w1 ⟨rfl, rfl⟩
      rw [hn]
      go_upto_region 5 with fail
      rw [eH.out, eL.out]
      go_wp2_with fail
      go_ret2
      exact ⟨ret_pairC (by rw [HK.out.1]; omega) (by rw [HK.out.2]), rfl⟩
  · have HK := Lib.hid (key_nan hn)
    clear hH hL bH bL
    go_enter Tryz.func204, Tryz.ntmps204
    go_wp2_with fail
    refine (refNan_any x _ hx).mono ?_
    rintro e w1 ⟨rfl, rfl⟩
    rw [hn]
    go_wp2_with fail
    go_ret2
    exact ⟨ret_pairC (by rw [HK.out.1]; rfl) (by rw [HK.out.2]; rfl), rfl⟩

set_option maxRecDepth 100000 in
theorem refCompare_any (x y : Nat) (w : World) (hx : x < two64) (hy : y < two64) :
    Calls Tryz.prog 141 #[.float .f64 x, .float .f64 y] w fun e w' => e = .returned (.int .i64 (cmpN (fkey x) (fkey y))) ∧ w = w' := by
  have HK := Lib.hid (key_order x y)
  obtain ⟨a, ha⟩ : ∃ a, keyH x = a := ⟨_, rfl⟩
  obtain ⟨b, hb⟩ : ∃ b, keyL x = b := ⟨_, rfl⟩
  obtain ⟨c, hc⟩ : ∃ c, keyH y = c := ⟨_, rfl⟩
  obtain ⟨d, hd⟩ : ∃ d, keyL y = d := ⟨_, rfl⟩
  have K1 := Lib.hid (fun w => refKey_any x w hx)
  have K2 := Lib.hid (fun w => refKey_any y w hy)
  rw [ha, hb] at K1 HK
  rw [hc, hd] at K2 HK
  clear ha hb hc hd
  go_enter Tryz.func141, Tryz.ntmps141
  go_wp2_with fail
  refine (K1.out _).mono ?_
  rintro e w1 ⟨rfl, rfl⟩
  go_wp2_with fail
  refine (K2.out _).mono ?_
  rintro e w1 ⟨rfl, rfl⟩
  rcases Nat.lt_trichotomy a c with h1 | h1 | h1
  · have q1 : decide ((a : Int) < (c : Int)) = true := by simp; omega
    go_wp2_with fail
    go_ret
    exact ⟨ret_int (by rw [HK.out, if_pos (by omega)]), rfl⟩
  · subst h1
    have q1 : decide ((a : Int) < (a : Int)) = false := by simp
    have q2 : ((a : Int) == (a : Int)) = true := by simp
    rcases Nat.lt_trichotomy b d with h2 | h2 | h2
    · have q3 : decide ((b : Int) < (d : Int)) = true := by simp; omega
      go_wp2_with fail
      go_ret
      exact ⟨ret_int (by rw [HK.out]; simp [h2]), rfl⟩
    · subst h2
      have q3 : decide ((b : Int) < (b : Int)) = false := by simp
      go_wp2_with fail
      go_ret
      exact ⟨ret_int (by rw [HK.out, if_neg (by omega), if_neg (by omega)]), rfl⟩
    · have q3 : decide ((b : Int) < (d : Int)) = false := by simp; omega
      have q4 : decide ((d : Int) < (b : Int)) = true := by simp; omega
      go_wp2_with fail
      go_ret
      exact ⟨ret_int (by rw [HK.out, if_neg (by omega), if_pos (by omega)]), rfl⟩
  · have q1 : decide ((a : Int) < (c : Int)) = false := by simp; omega
    have q2 : ((a : Int) == (c : Int)) = false := by simp; omega
    have q3 : decide ((c : Int) < (a : Int)) = true := by simp; omega
    go_wp2_with fail
    go_ret
    exact ⟨ret_int (by rw [HK.out, if_neg (by omega), if_pos (by omega)]), rfl⟩
theorem refSame_any (x y : Nat) (w : World) (hx : x < two64) (hy : y < two64) : Calls Tryz.prog 44 #[.float .f64 x, .float .f64 y] w fun e w' => e = .returned (.bool (decide (fkey x = fkey y))) ∧ w = w' := by
  have HZ := Lib.hid (cmpN_zero (fkey x) (fkey y))
  go_enter Tryz.func44, Tryz.ntmps44
  go_wp2_with fail
  refine (refCompare_any x y _ hx hy).mono ?_
  rintro e w1 ⟨rfl, rfl⟩
  go_wp2_with fail
  go_ret
  exact ⟨ret_bool HZ.out, rfl⟩
end Go.Proofs.YtibabgokmacnaaaGreat
end
