import Derived.Test.YtaelghbjbopilaaGreatQProtoRepliesUptoP22
import Derived.Test.YtaelghbjbopilaaGreatQProtoRepliesUptoP27
import Derived.Test.YtaelghbjbopilaaGreatQProtoRepliesUptoP1
import Derived.Deep.QuietTactic
import Derived.BigQuiet
import Derived.Test.YtaelghbjbopilaaGreatQProtoRepliesUptoP3
import Derived.Test.YtaelghbjbopilaaGreatQProtoRepliesUptoP20

/- proto.right of an answer whose numbers cannot be. By an AI agent. -/
section
set_option linter.unusedVariables false
set_option linter.unusedSimpArgs false
namespace Go.Proofs.YtaelghbjbopilaaGreat
open Go.RowKit

set_option maxHeartbeats 3200000 in
set_option maxRecDepth 100000 in
theorem right_no_hid (code num : Int) (ad : Option Addr) (n ca : Nat) (xs : List Int) (t : Bool) (x : Nat) (m : Int) (s : ByteArray) (pd : Option Addr) (pn pc : Nat) (text : ByteArray) (w : World) (hx : IA w ad n xs)
    (h : ¬ ((0 ≤ code ∧ code ≤ 281474976710655) ∧ (0 ≤ num ∧ num ≤ 281474976710655) ∧ (n = 0 ∨ validL xs = true))) :
    Calls Tryz.prog 22 #[repV code num ad n ca t x m s pd pn pc text] w fun e w' => e = .returned (.bool false) ∧ Bl w w' := by
  have hsf := store_float
  have hn := hx.cap
  have HX := Lib.hid hx
  have hg := AC.new w _ rfl (repCs code num ad n ca t x m s pd pn pc text) 30
  have hb := (Bl.refl w).alloc (.cells (repCs code num ad n ca t x m s pd pn pc text).toArray 30)
  obtain ⟨c0, c1, c2, c3, c4, c5, c6, c7, c8⟩ := AC.rep hg
  unfold repV
  unfold repCs at hg hb c0 c1 c2 c3 c4 c5 c6 c7 c8
  have hsfn := store_func
  have hmf := hmf
  clear hx
  by_cases k0 : code < 0
  · have g0 : decide (code < 0) = true := decide_eq_true k0
    clear h hg
    go_enter Tryz.func22, Tryz.ntmps22
    go_wp2_with fail
    go_ret
    exact ⟨rfl, hb⟩
  have g0 : decide (code < 0) = false := decide_eq_false k0
  by_cases k1 : 281474976710655 < code
  · have g1 : decide (281474976710655 < code) = true := decide_eq_true k1
    clear h hg
    go_enter Tryz.func22, Tryz.ntmps22
    go_wp2_with fail
    go_ret
    exact ⟨rfl, hb⟩
  have g1 : decide (281474976710655 < code) = false := decide_eq_false k1
  by_cases k2 : num < 0
  · have g2 : decide (num < 0) = true := decide_eq_true k2
    clear h hg
    go_enter Tryz.func22, Tryz.ntmps22
    go_wp2_with fail
    go_ret
    exact ⟨rfl, hb⟩
  have g2 : decide (num < 0) = false := decide_eq_false k2
  by_cases k3 : 281474976710655 < num
  · have g3 : decide (281474976710655 < num) = true := decide_eq_true k3
    clear h hg
    go_enter Tryz.func22, Tryz.ntmps22
    go_wp2_with fail
    go_ret
    exact ⟨rfl, hb⟩
  have g3 : decide (281474976710655 < num) = false := decide_eq_false k3
  have hz : ¬ (n = 0 ∨ validL xs = true) := fun q => h ⟨⟨by omega, by omega⟩, ⟨by omega, by omega⟩, q⟩
  have hn0 : ¬ n = 0 := fun q => hz (.inl q)
  have HV : Hid (validL xs = false) := Lib.hid (by
    cases q : validL xs
    · rfl
    · exact absurd (.inr q) hz)
  have hn1 : 0 < n := by omega
  clear h hg hz k0 k1 k2 k3
  go_enter Tryz.func22, Tryz.ntmps22
  go_wp2_with fail
  refine (valid_any ad n ca xs _ (HX.out.keep hb)).mono ?_
  rintro e w' ⟨rfl, rfl⟩
  rw [HV.out]
  go_wp2_with fail
  go_ret
  exact ⟨rfl, hb⟩
theorem pright_no (r : ReplyL) (ad : Option Addr) (n ca : Nat) (pd : Option Addr) (pn pc : Nat) (w : World) (ok : RepOk w r ad n pd pn) (h : rightN r = false) :
    Calls Tryz.prog 22 #[repV r.code r.num ad n ca r.val.there r.val.x r.val.n r.val.s pd pn pc r.text] w fun e w' => e = .returned (.bool false) ∧ Bl w w' := by
  refine right_no_hid r.code r.num ad n ca r.at_ r.val.there r.val.x r.val.n r.val.s pd pn pc r.text w ok.x (fun q => ?_)
  have : rightN r = true := rightN_iff.2 ⟨q.1, q.2.1, q.2.2.imp_left (fun e => List.eq_nil_of_length_eq_zero (by rw [ok.x.len, e]))⟩
  rw [h] at this
  cases this
end Go.Proofs.YtaelghbjbopilaaGreat
end

/- bedrockref3: Leq, Same, Valid. By an AI agent. -/
section
namespace Go.Proofs.YtaelghbjbopilaaGreat
open Go.RowKit

set_option maxHeartbeats 400000 in
theorem rleq_any (a b : Option Addr) (n m ca cb : Nat) (xs ys : List Int) (w : World) (hx : IA w a n xs) (hy : IA w b m ys) :
    Calls Tryz.prog 125 #[.slice a n ca, .slice b m cb] w fun e w' => e = .returned (.bool (leqL xs ys)) ∧ Bl w w' := by
  have hx1 := hx.cap
  have hy1 := hy.cap
  by_cases hl : n = m
  · subst hl
    have HLL := Lib.hid (hx.len.trans hy.len.symm)
    have HX := Lib.hid hx.len
    have h2 : ((n : Int) != (n : Int)) = false := by simp
    go_enter Tryz.func125, Tryz.ntmps125
    go_wp2
    go_loopw [5] (fun i wr => ∃ k : Nat, k ≤ n ∧ i = .int .i64 k ∧ Bl w wr ∧ ∀ j, j < k → nth xs j ≤ nth ys j) (fun i _ => n - (intOf i).toNat)
    case atStart => exact ⟨0, Nat.zero_le _, rfl, Bl.refl _, fun j h => by omega⟩
    case round =>
      obtain ⟨k, hk, rfl, hbl, hle⟩ := hrel
      have HLE := Lib.hid hle; clear hle
      by_cases hlt : k < n
      · obtain ⟨ba, oa, rfl, hca⟩ := hx.cells k hlt
        obtain ⟨bb, ob, rfl, hcb⟩ := hy.cells k hlt
        have ha := hbl.cell (hca k hlt)
        have hb := hbl.cell (hcb k hlt)
        clear hca hcb
        by_cases hgt : nth ys k < nth xs k
        · have HR := Lib.hid (leqL_false HLL.out (by rw [HX.out]; exact hlt) hgt)
          go_wp2
          go_quiet (fail)
          go_wp2
          go_ret
          exact ⟨ret_bool HR.out.symm, hbl.drewN _⟩
        · go_wp2
          go_quiet (fail)
          go_wp2
          go_roundw
          case rel => exact ⟨k + 1, by omega, by go_num, hbl.drewN _, fun j hj => by
            by_cases e : j = k
            · subst e; omega
            · exact HLE.out j (by omega)⟩
          case measure => simp [intOf]; omega
      · have HR := Lib.hid ((leqL_iff HLL.out).2 (fun j hj => HLE.out j (by rw [HX.out] at hj; omega)))
        go_wp2
        go_ret
        exact ⟨ret_bool HR.out.symm, hbl⟩
  · have h2 : ((n : Int) != (m : Int)) = true := by simp; omega
    have HR := Lib.hid (leqL_len (xs := xs) (ys := ys) (by rw [hx.len, hy.len]; exact hl))
    go_enter Tryz.func125, Tryz.ntmps125
    go_wp2
    go_ret
    exact ⟨ret_bool HR.out.symm, Bl.refl _⟩

theorem leq_both (xs ys : List Int) : (leqL xs ys && leqL ys xs) = decide (xs = ys) := by
  by_cases hl : xs.length = ys.length
  · rw [Bool.eq_iff_iff, Bool.and_eq_true, decide_eq_true_eq, leqL_iff hl, leqL_iff hl.symm]
    constructor
    · rintro ⟨h1, h2⟩
      exact getD_ext hl fun j hj => Int.le_antisymm (h1 j hj) (h2 j (by omega))
    · rintro rfl
      exact ⟨fun _ _ => Int.le_refl _, fun _ _ => Int.le_refl _⟩
  · rw [leqL_len hl, decide_eq_false (fun e => hl (by rw [e]))]; rfl

theorem rsame_any (a b : Option Addr) (n m ca cb : Nat) (xs ys : List Int) (w : World) (hx : IA w a n xs) (hy : IA w b m ys) :
    Calls Tryz.prog 35 #[.slice a n ca, .slice b m cb] w fun e w' => e = .returned (.bool (decide (xs = ys))) ∧ Bl w w' := by
  have HB := Lib.hid (leq_both xs ys)
  cases h1 : leqL xs ys
  · have HQ := Lib.hid h1
    go_enter Tryz.func35, Tryz.ntmps35
    go_wp2_with fail
    refine (rleq_any a b n m ca cb xs ys _ hx hy).mono ?_
    rintro e w1 ⟨rfl, hb1⟩
    rw [h1]
    clear h1
    go_wp2_with fail
    go_ret
    exact ⟨ret_bool (by rw [← HB.out, HQ.out]; rfl), hb1⟩
  · have HQ := Lib.hid h1
    go_enter Tryz.func35, Tryz.ntmps35
    go_wp2_with fail
    refine (rleq_any a b n m ca cb xs ys _ hx hy).mono ?_
    rintro e w1 ⟨rfl, hb1⟩
    rw [h1]
    clear h1
    go_wp2_with fail
    refine (rleq_any b a m n cb ca ys xs _ (hy.keep hb1) (hx.keep hb1)).mono ?_
    rintro e w2 ⟨rfl, hb2⟩
    go_wp2_with fail
    go_ret
    exact ⟨ret_bool (by rw [← HB.out, HQ.out]; rfl), hb1.trans hb2⟩
end Go.Proofs.YtaelghbjbopilaaGreat
end

/- bedrockref3.Valid. By an AI agent. -/
section
namespace Go.Proofs.YtaelghbjbopilaaGreat
open Go.RowKit

theorem valid_bad {xs : List Int} {k : Nat} (hk : k < xs.length) (h : badT (nth xs k) = true) : validL xs = false := by
  have : xs.any badT = true := List.any_eq_true.2 ⟨nth xs k, by rw [nth_eq hk]; exact List.getElem_mem hk, h⟩
  simp [validL, this]
theorem valid_good {xs : List Int} (h : ∀ j, j < xs.length → badT (nth xs j) = false) : validL xs = (decide (1 ≤ xs.length) && decide (xs.length ≤ 8)) := by
  have : xs.any badT = false := by
    rw [List.any_eq_false]
    intro x hx
    obtain ⟨j, hj, rfl⟩ := List.getElem_of_mem hx
    have := h j hj
    rw [nth_eq hj] at this
    simp [this]
  simp [validL, this]

set_option maxHeartbeats 800000 in
theorem rvalid_any (a : Option Addr) (n ca : Nat) (xs : List Int) (w : World) (hx : IA w a n xs) :
    Calls Tryz.prog 30 #[.slice a n ca] w fun e w' => e = .returned (.bool (validL xs)) ∧ w = w' := by
  have hx1 := hx.cap
  have HX := Lib.hid hx.len
  go_enter Tryz.func30, Tryz.ntmps30
  go_wp2
  go_loop [3] (fun i => ∃ k : Nat, k ≤ n ∧ i = .int .i64 k ∧ ∀ j, j < k → badT (nth xs j) = false) (fun i => n - (intOf i).toNat)
  case atStart => exact ⟨0, Nat.zero_le _, rfl, fun j h => by omega⟩
  case round =>
    obtain ⟨k, hk, rfl, hle⟩ := hrel
    have HLE := Lib.hid hle; clear hle
    by_cases hlt : k < n
    · obtain ⟨ba, oa, rfl, hca⟩ := hx.cells k hlt
      have ha := hca k hlt
      clear hca
      have hkx : k < xs.length := by rw [HX.out]; exact hlt
      by_cases h0 : nth xs k < 0
      · have HB := Lib.hid (valid_bad hkx (show badT (nth xs k) = true by simp [badT, h0]))
        go_wp2
        go_ret
        exact ⟨ret_bool HB.out.symm, rfl⟩
      · by_cases h1 : 281474976710656 ≤ nth xs k
        · have HB := Lib.hid (valid_bad hkx (show badT (nth xs k) = true by simp [badT, h1]))
          go_wp2
          go_ret
          exact ⟨ret_bool HB.out.symm, rfl⟩
        · have HB := Lib.hid (show badT (nth xs k) = false by simp [badT]; omega)
          go_wp2
          go_round
          case rel => exact ⟨k + 1, by omega, by go_num, fun j hj => by
            by_cases e : j = k
            · subst e; exact HB.out
            · exact HLE.out j (by omega)⟩
          case measure => simp [intOf]; omega
    · have HV := Lib.hid (valid_good (xs := xs) (fun j hj => HLE.out j (by rw [HX.out] at hj; omega)))
      by_cases h1 : (1 : Int) ≤ n
      · by_cases h8 : (n : Int) ≤ 8
        · go_wp2
          go_ret
          exact ⟨ret_bool (by rw [HV.out, HX.out]; simp; omega), rfl⟩
        · go_wp2
          go_ret
          exact ⟨ret_bool (by rw [HV.out, HX.out]; simp; omega), rfl⟩
      · go_wp2
        go_ret
        exact ⟨ret_bool (by rw [HV.out, HX.out]; simp; omega), rfl⟩
end Go.Proofs.YtaelghbjbopilaaGreat
end

/- bedrocklaw25.light, proto.SameAsk (printed by wip/gen/apart0.py). By an AI agent. -/
section
set_option linter.unusedVariables false
set_option linter.unusedSimpArgs false
namespace Go.Proofs.YtaelghbjbopilaaGreat
open Go.RowKit

/-- SameAsk's two boxes -/
structure AB (w W : World) (c1 c2 : List Value) : Prop where
  bl : Bl w W
  a : AC W w.heap.size c1
  b : AC W (w.heap.size + 1) c2
theorem AB.keep {w W W' : World} {c1 c2 : List Value} (h : AB w W c1 c2) (k : Bl W W') : AB w W' c1 c2 := ⟨h.bl.trans k, h.a.keep k, h.b.keep k⟩
theorem AB.new (w : World) (T U : TypeId) (c1 c2 : List Value) : AB w ((w.alloc (.cells c1.toArray T)).alloc (.cells c2.toArray U)) c1 c2 :=
  ⟨((Bl.refl w).alloc _).alloc _, (AC.new w w.heap.size rfl c1 T).keep ((Bl.refl _).alloc _), AC.new _ (w.heap.size + 1) (by simp) c2 U⟩
end Go.Proofs.YtaelghbjbopilaaGreat
end
