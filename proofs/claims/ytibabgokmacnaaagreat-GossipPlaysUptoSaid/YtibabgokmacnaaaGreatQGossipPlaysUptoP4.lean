import Derived.Test.YtibabgokmacnaaaGreatQGossipPlaysUptoP1
import Derived.Test.YtibabgokmacnaaaGreatQGossipPlaysUptoP3
import Derived.Deep.QuietTactic
import Derived.BigQuiet

/- vec.Join, vec.Meet: what each computes, for every two vectors. By an AI agent. -/
section
namespace Go.Proofs.YtibabgokmacnaaaGreat
open Go.RowKit

theorem max_any (x y : Int) (w : World) : Calls Tryz.prog 57 #[.int .i64 x, .int .i64 y] w fun e w' => e = .returned (.int .i64 (max x y)) ∧ w = w' := by
  go_enter Tryz.func57, Tryz.ntmps57
  go_wp2
  all_goals (go_ret; exact ⟨ret_int (by omega), rfl⟩)

/-- a function of two ints that stays among them -/
def Tells (g : FuncId) (t : Int → Int → Int) : Prop :=
  (∀ x y w, Calls Tryz.prog g #[.int .i64 x, .int .i64 y] w fun e w' => e = .returned (.int .i64 (t x y)) ∧ w = w') ∧ (∀ x y, t x y = x ∨ t x y = y) ∧
  ∀ args w, (callFunc g args).run Tryz.prog w = .ok (.enter g args) w
theorem tells_max : Tells 57 max := ⟨max_any, fun x y => by omega, fun _ _ => by kernel_rfl⟩



set_option maxHeartbeats 800000 in
theorem each_any (g : FuncId) (t : Int → Int → Int) (hg : Tells g t) (a b : Option Addr) (n m ca cb : Nat) (xs ys : List Int) (w : World) (hx : IA w a n xs) (hy : IA w b m ys) :
    Calls Tryz.prog 56 #[.slice a n ca, .slice b m cb, .func (.func g) #[] #[]] w fun e w' => ∃ v, e = .returned v ∧ FI w.heap.size w' v (eachL t xs ys) ∧ Bl w w' := by
  obtain ⟨i0, hi, hz0, hz1, hz2⟩ := info_parts info_int
  have hx1 := hx.cap
  have hy1 := hy.cap
  by_cases hl : n = m
  · subst hl
    have HLL := Lib.hid (hx.len.trans hy.len.symm)
    have HX := Lib.hid hx.len
    have h2 : ((n : Int) != (n : Int)) = false := by simp
    have HZL : ∀ k, k ≤ n → ((List.zipWith t xs ys).take k).length = k := fun k hk => by
      have h1 := HLL.out; have h2 := HX.out
      simp; omega
    have HZ := Lib.hid HZL; clear HZL
    have hcf := hg.2.2
    go_enter Tryz.func56, Tryz.ntmps56
    go_wp2
    go_loopw [7, 17] (fun v i wr => ∃ (k : Nat) (acc : List Int), k ≤ n ∧ i = .int .i64 k ∧ Bl w wr ∧ OI w.heap.size wr v acc ∧ acc = (List.zipWith t xs ys).take k) (fun _ i _ => n - (intOf i).toNat)
    case atStart => exact ⟨0, [], Nat.zero_le _, rfl, Bl.refl _, OI.nil _ _, rfl⟩
    case round =>
      obtain ⟨k, acc, hk, rfl, hbl, hown, hacc⟩ := hrel
      have hal : acc.length ≤ n := by rw [hacc, HZ.out k hk]; exact hk
      have HACC := Lib.hid hacc; clear hacc
      have hbs := hbl.size
      by_cases hlt : k < n
      · obtain ⟨ba, oa, rfl, hca⟩ := hx.cells k hlt
        obtain ⟨bb, ob, rfl, hcb⟩ := hy.cells k hlt
        have ha := hbl.cell (hca k hlt)
        have hb := hbl.cell (hcb k hlt)
        clear hca hcb
        go_wp2_with fail
        refine (hg.1 _ _ _).mono ?_
        rintro e w' ⟨rfl, rfl⟩
        go_wp2_with (at_builtin; refine wpList_append_own _ rfl _ _ 23 rfl (w.heap.size) 3 i0 (.int .i64 0) 1 8 Tryz.underlying23 hi hz0 hz1 hz2 rfl (by decide) _ _ _ rfl (World.ownsRow.alloc hown _) ⟨wr.heap.size, 0, none⟩ 1 1 [.int .i64 (t (nth xs k) (nth ys k))] rfl rfl ?c1 ?c2 ?c3 ?c4 ?c5 ?_)
        case c1 =>
          intro j u hj
          match j, hj with
          | 0, hj => simp at hj; subst hj; simp [Addr.add]
        case c2 => intro u hu; simp at hu; subst hu; rfl
        case c3 => unfold maxLen; omega
        case c4 => omega
        case c5 => simp; omega
        intro v' w1 hown' hgrow _
        have R := OI.push hbl hbs hown hown' hgrow
        have HA := Lib.hid (zip_take (t := t) HLL.out (by rw [HX.out]; exact hlt))
        clear hown hown' hgrow
        go_wp2
        go_roundw
        case rel => exact ⟨k + 1, _, by omega, by go_num, R.2, R.1, by rw [HA.out, HACC.out]⟩
        case measure => simp [intOf]; omega
      · go_wp2
        go_ret
        have e1 : k = n := by omega
        subst e1
        refine ⟨_, rfl, ?_, hbl⟩
        have e2 : (List.zipWith t xs ys).take k = eachL t xs ys := by
          rw [eachL, if_pos HLL.out, List.take_of_length_le]
          have h1 := HLL.out; have h2 := HX.out
          simp; omega
        rw [HACC.out, e2] at hown
        refine ⟨hown, ?_, ?_⟩
        · rw [eachL, if_pos HLL.out]
          have h1 := HLL.out; have h2 := HX.out
          simp; omega
        · rw [eachL, if_pos HLL.out]
          exact zip_wf hg.2.1 hx.wf hy.wf
  · have h2 : ((n : Int) != (m : Int)) = true := by simp; omega
    go_enter Tryz.func56, Tryz.ntmps56
    go_wp2
    go_ret
    refine ⟨_, rfl, ?_, Bl.refl _⟩
    rw [eachL, if_neg (by rw [hx.len, hy.len]; exact hl)]
    exact FI.nil _ _

theorem join_any (a b : Option Addr) (n m ca cb : Nat) (xs ys : List Int) (w : World) (hx : IA w a n xs) (hy : IA w b m ys) :
    Calls Tryz.prog 9 #[.slice a n ca, .slice b m cb] w fun e w' => ∃ v, e = .returned v ∧ FI w.heap.size w' v (joinL xs ys) ∧ Bl w w' := by
  go_enter Tryz.func9, Tryz.ntmps9
  go_wp2_with fail
  refine (each_any _ _ tells_max a b n m ca cb xs ys _ hx hy).mono ?_
  rintro e w' ⟨v, rfl, hs, hb⟩
  go_wp2
  go_ret
  exact ⟨_, rfl, hs, hb⟩
end Go.Proofs.YtibabgokmacnaaaGreat
end

/- vec.Meet. By an AI agent. -/
section
set_option linter.unusedVariables false
set_option linter.unusedSimpArgs false
namespace Go.Proofs.YtibabgokmacnaaaGreat
open Go.RowKit

theorem min_any (x y : Int) (w : World) : Calls Tryz.prog 58 #[.int .i64 x, .int .i64 y] w fun e w' => e = .returned (.int .i64 (min x y)) ∧ w = w' := by
  go_enter Tryz.func58, Tryz.ntmps58
  go_wp2
  all_goals (go_ret; exact ⟨ret_int (by omega), rfl⟩)
theorem tells_min : Tells 58 min := ⟨min_any, fun x y => by omega, fun _ _ => by kernel_rfl⟩
theorem meet_any (a b : Option Addr) (n m ca cb : Nat) (xs ys : List Int) (w : World) (hx : IA w a n xs) (hy : IA w b m ys) :
    Calls Tryz.prog 10 #[.slice a n ca, .slice b m cb] w fun e w' => ∃ v, e = .returned v ∧ FI w.heap.size w' v (meetL xs ys) ∧ Bl w w' := by
  go_enter Tryz.func10, Tryz.ntmps10
  go_wp2_with fail
  refine (each_any _ _ tells_min a b n m ca cb xs ys _ hx hy).mono ?_
  rintro e w' ⟨v, rfl, hs, hb⟩
  go_wp2
  go_ret
  exact ⟨_, rfl, hs, hb⟩
end Go.Proofs.YtibabgokmacnaaaGreat
end
