import Derived.Test.YtibabgokmacnaaaGreatQVecTellsUptoP1
import Derived.Deep.Cut
import Derived.Test.YtibabgokmacnaaaGreatQVecTellsUptoP17
import Derived.Test.YtibabgokmacnaaaGreatQVecTellsUptoP19
import Derived.Test.YtibabgokmacnaaaGreatQVecTellsUptoP11
import Derived.StillTailTactics
import Derived.Deep.DeepCutAuto
import Derived.Outline

/- bedrockref1.Get. By an AI agent. -/
section
set_option linter.unusedVariables false
set_option linter.unusedSimpArgs false
namespace Go.Proofs.YtibabgokmacnaaaGreat
open Go.RowKit

set_option maxHeartbeats 800000 in
set_option maxRecDepth 100000 in
theorem refGet_any (s : ByteArray) (w : World) (h1 : 1 ≤ s.size) (h7 : s.size ≤ 7) :
    Calls Tryz.prog 63 #[.string s] w fun e w' => e = .returned (.tuple #[.int .i64 (getN s.data.toList), .int .i64 0]) ∧ w = w' := by
  go_enter Tryz.func63, Tryz.ntmps63
  go_wp2_with fail
  go_loop [4, 5] (fun v i => ∃ (k : Nat) (a : Int), k ≤ s.size ∧ i = .int .i64 k ∧ v = .int .i64 a ∧ a = getN (s.data.toList.take k)) (fun _ i => s.size - (intOf i).toNat)
  case atStart => exact ⟨0, 0, Nat.zero_le _, rfl, rfl, rfl⟩
  case round =>
    obtain ⟨k, a, hk, rfl, rfl, ha⟩ := hrel
    have hbd := getN_bound (s.data.toList.take k)
    rw [← ha] at hbd
    have HA := Lib.hid ha; clear ha
    by_cases hlt : k < s.size
    · have h6 : a < 281474976710656 := by
        have h2 := hbd.2
        have : (s.data.toList.take k).length ≤ 6 := Nat.le_trans (List.length_take_le _ _) (by omega)
        have h3 : (256 : Int) ^ (s.data.toList.take k).length ≤ 256 ^ 6 := by
          have := Nat.pow_le_pow_right (show 0 < 256 by decide) this
          exact_mod_cast this
        omega
      have h0 := hbd.1
      clear hbd
      have HT := Lib.hid (getN_take hlt)
      have hb := Lib.hid (UInt8.toNat_lt s[k])
      go_wp2_with fail
      go_round
      case rel => exact ⟨k + 1, _, by omega, by go_num, rfl, by rw [HT.out, HA.out.symm]; have := hb.out; unfold wrap64; omega⟩
      case measure => simp [intOf]; omega
    · have HE := Lib.hid (show s.data.toList.take k = s.data.toList from List.take_of_length_le (by simp; omega))
      go_wp2_with fail
      go_ret2
      exact ⟨ret_int_ok (HA.out.trans (congrArg getN HE.out)), rfl⟩
end Go.Proofs.YtibabgokmacnaaaGreat
end

/- bedrockref3.Get. By an AI agent. -/
section
set_option linter.unusedVariables false
set_option linter.unusedSimpArgs false
namespace Go.Proofs.YtibabgokmacnaaaGreat
open Go.RowKit

theorem el_int : EL 23 3 1 8 := el_of Tryz.underlying23 (by kernel_rfl) (by decide)
/-- what reading a vector comes to -/
def RdPost (w : World) (l : List UInt8) (e : Ending) (w' : World) : Prop :=
  (∃ (xs : List Int) (m : List UInt8) (v : Value), rdV l = some (xs, m) ∧ e = .returned (.tuple #[v, .int .i64 ((1 + 6 * xs.length : Nat) : Int), .int .i64 0]) ∧ FI w.heap.size w' v xs ∧ Bl w w') ∨
  (rdV l = none ∧ ∃ c : Int, (c = 3 ∨ c = 4) ∧ e = .returned (.tuple #[.slice none 0 0, .int .i64 0, .int .i64 c]) ∧ Bl w w')
theorem rget3_nil (w : World) : Calls Tryz.prog 14 #[.string ⟨#[]⟩] w (RdPostC w []) := by
  go_enter Tryz.func14, Tryz.ntmps14
  go_wp2_with fail
  go_ret3
  exact .inr ⟨rfl, rfl, Bl.refl _⟩
set_option maxHeartbeats 3200000 in
set_option maxRecDepth 100000 in
theorem rget3_bad (s : ByteArray) (d : UInt8) (m : List UInt8) (w : World) (hs : s = strL (d :: m)) (n : Nat) (hdn : d.toNat = n) (hm : m.length ≤ 1900000) (hd : (n < 1 ∨ 8 < n) ∨ m.length < 6 * n) : Calls Tryz.prog 14 #[.string s] w (RdPostC w (d :: m)) := by
  have hsz : s.size = m.length + 1 := by rw [hs, strL_size]; simp
  have hz : 0 < s.size := by omega
  have h0 : (s[0]'hz).toNat = n := by subst hs; exact hdn
  have HR : Hid (rdV (d :: m) = none) := Lib.hid (by rw [rdV_cons, if_neg (by omega)])
  have hnb : n ≤ 255 := by have := UInt8.toNat_lt d; omega
  have HC0 : Hid (codeV (d :: m) = if n < 1 ∨ 8 < n then 4 else 3) := Lib.hid (by rw [codeV_cons, hdn])
  clear hs hdn
  by_cases hn : n < 1 ∨ 8 < n
  · clear hd
    have HCD : Hid (codeV (d :: m) = 4) := Lib.hid (by rw [HC0.out, if_pos hn])
    rcases hn with h | h
    · go_enter Tryz.func14, Tryz.ntmps14
      go_wp2_with fail
      go_ret3
      exact .inr ⟨HR.out, by rw [HCD.out]; rfl, Bl.refl _⟩
    · go_enter Tryz.func14, Tryz.ntmps14
      go_wp2_with fail
      go_ret3
      exact .inr ⟨HR.out, by rw [HCD.out]; rfl, Bl.refl _⟩
  · have h1 : 1 ≤ n := by omega
    have h8 : n ≤ 8 := by omega
    have hlt : m.length < 6 * n := by omega
    have HCD : Hid (codeV (d :: m) = 3) := Lib.hid (by rw [HC0.out, if_neg hn])
    clear hd hn
    go_enter Tryz.func14, Tryz.ntmps14
    go_wp2_with fail
    go_ret3
    exact .inr ⟨HR.out, by rw [HCD.out]; rfl, Bl.refl _⟩
set_option maxHeartbeats 3200000 in
set_option maxRecDepth 100000 in
theorem rget3_loop (s : ByteArray) (d : UInt8) (m : List UInt8) (w : World) (hs : s = strL (d :: m)) (n : Nat) (hdn : d.toNat = n) (h1 : 1 ≤ n) (h8 : n ≤ 8) (hm : m.length ≤ 1900000) (hlt : 6 * n ≤ m.length) : Calls Tryz.prog 14 #[.string s] w (RdPostC w (d :: m)) := by
  have hsz : s.size = m.length + 1 := by rw [hs, strL_size]; simp
  have hz : 0 < s.size := by omega
  have h0 : (s[0]'hz).toNat = n := by subst hs; exact hdn
  have HX : Hid (∀ k, s.extract (1 + 6 * k) (7 + 6 * k) = strL ((m.drop (6 * k)).take 6)) := Lib.hid (fun k => by
    subst hs
    rw [strL_ext, show 1 + 6 * k = 6 * k + 1 by omega, List.drop_succ_cons]
    congr 2
    omega)
  have HR : Hid (rdV (d :: m) = some (valsL n m, m.drop (6 * n))) := Lib.hid (by rw [rdV_cons, hdn, if_pos (by omega)])
  clear hs hdn
  go_enter Tryz.func14, Tryz.ntmps14
  go_wp2_with fail
  clear h0 hz
  go_loopw [6, 7] (fun sv i wr => ∃ (k : Nat) (acc : List Int), k ≤ n ∧ i = .int .i64 k ∧ OI w.heap.size wr sv acc ∧ Bl w wr ∧ acc = valsL k m) (fun _ i _ => n - (intOf i).toNat)
  case atStart => exact ⟨0, [], Nat.zero_le _, rfl, OI.nil _ _, Bl.refl _, rfl⟩
  case round =>
    obtain ⟨k, acc, hk, rfl, hoi, hb, hacc⟩ := hrel
    have HA := Lib.hid hacc
    have hal : acc.length = k := by rw [hacc, valsL_len]
    have HO := Lib.hid hoi
    have HB := Lib.hid hb
    clear hacc hoi hb
    by_cases hk2 : k < n
    · have hl6 : ((m.drop (6 * k)).take 6).length = 6 := by rw [List.length_take, List.length_drop]; omega
      have HXk := Lib.hid (HX.out k)
      have HG := Lib.hid (fun w => refGet_any (strL ((m.drop (6 * k)).take 6)) w (by rw [strL_size, hl6]; omega) (by rw [strL_size, hl6]; omega))
      rw [show (strL ((m.drop (6 * k)).take 6)).data.toList = (m.drop (6 * k)).take 6 from rfl] at HG
      have HGB := Lib.hid (get6_bound (m.drop (6 * k)))
      have HS := Lib.hid (valsL_succ k m)
      generalize getN ((m.drop (6 * k)).take 6) = x at *
      generalize strL ((m.drop (6 * k)).take 6) = sx at *
      clear hl6
      have hxk := HXk.out
      go_wp2_with fail
      refine (HG.out _).mono ?_
      rintro e w1 ⟨rfl, rfl⟩
      have hsz2 := HB.out.size
      go_wp2_with (at_builtin; refine wpList_appG rfl _ _ _ rfl el_int w.heap.size _ acc.length _ rfl (ownsRow_bl HO.out ((Bl.refl wr).alloc _)) ?c1 _ 1 1 [.int .i64 x] rfl (SG.lit (heap_alloc_new _ _) rfl (by simp [Value.oneCell'])) ?c2 ?c3 ?_)
      case c1 => simp; omega
      case c2 => unfold maxLen; omega
      case c3 => omega
      intro v' w2 ho2 hg2
      have hb2 := Lib.hid (Bl.ownRow (HB.out.alloc (.cells #[.int .i64 x] 3)) (ownsRow_bl HO.out ((Bl.refl wr).alloc _)) (Nat.le_refl _) hg2)
      have HO2 : Hid (OI w.heap.size w2 v' (acc ++ [x])) := Lib.hid (by
        unfold OI
        rw [List.length_append, List.map_append, hal]
        exact ho2)
      clear ho2 hg2
      go_wp2_with fail
      go_roundw
      case rel => exact ⟨k + 1, acc ++ [x], by omega, by go_num, HO2.out, hb2.out, by rw [HS.out, HA.out]⟩
      case measure => simp [intOf]; omega
    · obtain rfl : k = n := by omega
      go_wp2_with fail
      go_ret3
      refine .inl ⟨acc, m.drop (6 * k), _, by rw [HA.out]; exact HR.out, ?_, ⟨HO.out, by omega, fun y hy => ?_⟩, HB.out⟩
      · rw [hal]; simp
      · rw [HA.out] at hy
        have := valsL_bound _ _ y hy
        omega
theorem rget3_c (l : List UInt8) (w : World) (hz : l.length ≤ 1900000) : Calls Tryz.prog 14 #[.string (strL l)] w (RdPostC w l) := by
  cases l with
  | nil => exact rget3_nil w
  | cons d m =>
    rw [List.length_cons] at hz
    by_cases hd : (d.toNat < 1 ∨ 8 < d.toNat) ∨ m.length < 6 * d.toNat
    · exact rget3_bad _ d m w rfl _ rfl (by omega) hd
    · exact rget3_loop _ d m w rfl d.toNat rfl (by omega) (by omega) (by omega) (by omega)
theorem rget3_any (l : List UInt8) (w : World) (hz : l.length ≤ 1900000) : Calls Tryz.prog 14 #[.string (strL l)] w (RdPost w l) := by
  refine (rget3_c l w hz).mono ?_
  rintro e w' (⟨xs, m, v, h1, h2, h3, h4⟩ | ⟨h1, h2, h3⟩)
  · exact .inl ⟨xs, m, v, h1, h2, h3, h4⟩
  · exact .inr ⟨h1, codeV l, codeV_is l, h2, h3⟩
end Go.Proofs.YtibabgokmacnaaaGreat
end
