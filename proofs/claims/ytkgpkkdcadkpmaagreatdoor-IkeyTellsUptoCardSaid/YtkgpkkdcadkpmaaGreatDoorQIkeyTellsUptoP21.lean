import Derived.Test.YtkgpkkdcadkpmaaGreatDoorQIkeyTellsUptoP13
import Derived.Test.YtkgpkkdcadkpmaaGreatDoorQIkeyTellsUptoP4
import Derived.Test.YtkgpkkdcadkpmaaGreatDoorQIkeyA
import Derived.Test.YtkgpkkdcadkpmaaGreatDoorQIkeyTellsUptoP20
import Derived.Deep.QuietTactic
import Derived.BigQuiet

/- bedrockref3.Leq, Same; bedrockref5.SameVersion of versions without acts. By an AI agent. -/
section
namespace Go.Proofs.YtkgpkkdcadkpmaaGreatDoor
open Go.RowKit

set_option maxHeartbeats 400000 in
theorem rleq_any (a b : Option Addr) (n m ca cb : Nat) (xs ys : List Int) (w : World) (hx : IA w a n xs) (hy : IA w b m ys) :
    Calls Tryz.prog 105 #[.slice a n ca, .slice b m cb] w fun e w' => e = .returned (.bool (leqL xs ys)) ∧ Bl w w' := by
  have hx1 := hx.cap
  have hy1 := hy.cap
  by_cases hl : n = m
  · subst hl
    have HLL := Lib.hid (hx.len.trans hy.len.symm)
    have HX := Lib.hid hx.len
    have h2 : ((n : Int) != (n : Int)) = false := by simp
    go_enter Tryz.func105, Tryz.ntmps105
    go_wp2
    go_loopw [5] (fun i wr => ∃ k : Nat, k ≤ n ∧ i = .int .i64 k ∧ Bl w wr ∧ ∀ j, j < k → nth xs j ≤ nth ys j) (fun i _ => n - (intOf i).toNat)
    case atStart => exact ⟨0, Nat.zero_le _, rfl, Bl.refl _, fun j h => by omega⟩
    case round =>
      obtain ⟨k, hk, rfl, hbl, hle⟩ := hrel
      have HLE := Lib.hid hle; clear hle
      by_cases hlt : k < n
      · obtain ⟨ba, oa, rfl, hca⟩ := hx.cells k hlt
        obtain ⟨bb, ob, rfl, hcb⟩ := hy.cells k hlt
        have ha := hbl.cell (hca k hlt)
        have hb := hbl.cell (hcb k hlt)
        clear hca hcb
        by_cases hgt : nth ys k < nth xs k
        · have HR := Lib.hid (leqL_false HLL.out (by rw [HX.out]; exact hlt) hgt)
          go_wp2
          go_quiet (fail)
          go_wp2
          go_ret
          exact ⟨ret_bool HR.out.symm, hbl.drewN _⟩
        · go_wp2
          go_quiet (fail)
          go_wp2
          go_roundw
          case rel => exact ⟨k + 1, by omega, by go_num, hbl.drewN _, fun j hj => by
            by_cases e : j = k
            · subst e; omega
            · exact HLE.out j (by omega)⟩
          case measure => simp [intOf]; omega
      · have HR := Lib.hid ((leqL_iff HLL.out).2 (fun j hj => HLE.out j (by rw [HX.out] at hj; omega)))
        go_wp2
        go_ret
        exact ⟨ret_bool HR.out.symm, hbl⟩
  · have h2 : ((n : Int) != (m : Int)) = true := by simp; omega
    have HR := Lib.hid (leqL_len (xs := xs) (ys := ys) (by rw [hx.len, hy.len]; exact hl))
    go_enter Tryz.func105, Tryz.ntmps105
    go_wp2
    go_ret
    exact ⟨ret_bool HR.out.symm, Bl.refl _⟩

theorem leq_both (xs ys : List Int) : (leqL xs ys && leqL ys xs) = decide (xs = ys) := by
  by_cases hl : xs.length = ys.length
  · rw [Bool.eq_iff_iff, Bool.and_eq_true, decide_eq_true_eq, leqL_iff hl, leqL_iff hl.symm]
    constructor
    · rintro ⟨h1, h2⟩
      exact getD_ext hl fun j hj => Int.le_antisymm (h1 j hj) (h2 j (by omega))
    · rintro rfl
      exact ⟨fun _ _ => Int.le_refl _, fun _ _ => Int.le_refl _⟩
  · rw [leqL_len hl, decide_eq_false (fun e => hl (by rw [e]))]; rfl

theorem rsame_any (a b : Option Addr) (n m ca cb : Nat) (xs ys : List Int) (w : World) (hx : IA w a n xs) (hy : IA w b m ys) :
    Calls Tryz.prog 31 #[.slice a n ca, .slice b m cb] w fun e w' => e = .returned (.bool (decide (xs = ys))) ∧ Bl w w' := by
  have HB := Lib.hid (leq_both xs ys)
  cases h1 : leqL xs ys
  · have HQ := Lib.hid h1
    go_enter Tryz.func31, Tryz.ntmps31
    go_wp2_with fail
    refine (rleq_any a b n m ca cb xs ys _ hx hy).mono ?_
    rintro e w1 ⟨rfl, hb1⟩
    rw [h1]
    clear h1
    go_wp2_with fail
    go_ret
    exact ⟨ret_bool (by rw [← HB.out, HQ.out]; rfl), hb1⟩
  · have HQ := Lib.hid h1
    go_enter Tryz.func31, Tryz.ntmps31
    go_wp2_with fail
    refine (rleq_any a b n m ca cb xs ys _ hx hy).mono ?_
    rintro e w1 ⟨rfl, hb1⟩
    rw [h1]
    clear h1
    go_wp2_with fail
    refine (rleq_any b a m n cb ca ys xs _ (hy.keep hb1) (hx.keep hb1)).mono ?_
    rintro e w2 ⟨rfl, hb2⟩
    go_wp2_with fail
    go_ret
    exact ⟨ret_bool (by rw [← HB.out, HQ.out]; rfl), hb1.trans hb2⟩

/-- the two versions' boxes -/
structure GO2 (w W : World) (c1 c2 : List Value) : Prop where
  bl : Bl w W
  a : AC W w.heap.size c1
  b : AC W (w.heap.size + 1) c2
theorem GO2.keep {w W W' : World} {c1 c2 : List Value} (h : GO2 w W c1 c2) (k : Bl W W') : GO2 w W' c1 c2 := ⟨h.bl.trans k, h.a.keep k, h.b.keep k⟩
theorem GO2.new (w : World) (T U : TypeId) (c1 c2 : List Value) : GO2 w ((w.alloc (.cells c1.toArray T)).alloc (.cells c2.toArray U)) c1 c2 :=
  ⟨((Bl.refl w).alloc _).alloc _, (AC.new w _ rfl c1 T).keep ((Bl.refl _).alloc _), AC.new _ (w.heap.size + 1) (by simp) c2 U⟩
theorem zeroA_ok : ActL.Ok ⟨0, 0, 0, ⟨#[]⟩⟩ := ⟨by decide, by decide, by decide, by decide⟩
theorem zeroA_same : sameA ⟨0, 0, 0, ⟨#[]⟩⟩ ⟨0, 0, 0, ⟨#[]⟩⟩ = true := by decide +kernel
theorem key_beq (a b : ByteArray) : (a.toList == b.toList) = decide (a = b) := by
  rw [SB.beq (show SB a a.data.toList from rfl) (show SB b b.data.toList from rfl), decide_eq_decide]
  exact ⟨fun e => ByteArray.ext (Array.toList_inj.1 e), fun e => by rw [e]⟩
set_option maxHeartbeats 1600000 in
set_option maxRecDepth 100000 in
theorem sameVer_any (key : ByteArray) (a : Option Addr) (n ca : Nat) (xs : List Int) (o t : Int) (key' : ByteArray) (b : Option Addr) (m cb : Nat) (ys : List Int) (o' t' : Int) (r : Bool) (w : World) (hx : IA w a n xs) (hy : IA w b m ys)
    (HR : Hid (decide (key = key' ∧ xs = ys ∧ o = o' ∧ t = t') = r)) :
    Calls Tryz.prog 11 #[.agg #[.string key, .slice a n ca, .int .i64 o, .int .i64 t, .int .i64 0, .float .f64 0, .int .i64 0, .string ⟨#[]⟩], .agg #[.string key', .slice b m cb, .int .i64 o', .int .i64 t', .int .i64 0, .float .f64 0, .int .i64 0, .string ⟨#[]⟩]] w
      fun e w' => e = .returned (.bool r) ∧ Bl w w' := by
  have hsf := store_float
  have G := GO2.new w 28 28 (verC key a n ca o t 0 0 0 ⟨#[]⟩) (verC key' b m cb o' t' 0 0 0 ⟨#[]⟩)
  by_cases hk : key = key'
  · have q1 : (key.toList == key'.toList) = true := by rw [key_beq]; exact decide_eq_true hk
    have HK := Lib.hid hk
    clear hk
    have H3 := Lib.hid (fun w hx hy => rsame_any a b n m ca cb xs ys w hx hy)
    go_enter Tryz.func11, Tryz.ntmps11
    go_wp2_with fail
    refine (H3.out _ (hx.keep G.bl) (hy.keep G.bl)).mono ?_
    rintro e w1 ⟨rfl, hb1⟩
    replace G := G.keep hb1
    obtain ⟨a0, a1, a2, a3, a4, a5, a6, a7⟩ := G.a.ver
    obtain ⟨b0, b1, b2, b3, b4, b5, b6, b7⟩ := G.b.ver
    by_cases hxy : xs = ys
    · rw [decide_eq_true hxy]
      have HXY := Lib.hid hxy
      clear hxy
      by_cases ho : o = o'
      · by_cases ht : t = t'
        · subst ho; subst ht
          go_wp2_with fail
          refine (refSameA_any ⟨0, 0, 0, ⟨#[]⟩⟩ ⟨0, 0, 0, ⟨#[]⟩⟩ _ zeroA_ok zeroA_ok).mono ?_
          rintro e w2 ⟨rfl, hb2⟩
          rw [zeroA_same]
          go_wp2_with fail
          go_ret
          exact ⟨ret_bool (by rw [← HR.out]; simp [HK.out, HXY.out]), G.bl.trans hb2⟩
        · have q2 : (t == t') = false := by rw [beq_eq_false_iff_ne]; exact ht
          have HT := Lib.hid ht
          clear ht
          subst ho
          go_wp2_with fail
          go_ret
          exact ⟨ret_bool (by rw [← HR.out]; exact (decide_eq_false (fun h => HT.out h.2.2.2)).symm), G.bl⟩
      · have q2 : (o == o') = false := by rw [beq_eq_false_iff_ne]; exact ho
        have HO := Lib.hid ho
        clear ho
        go_wp2_with fail
        go_ret
        exact ⟨ret_bool (by rw [← HR.out]; exact (decide_eq_false (fun h => HO.out h.2.2.1)).symm), G.bl⟩
    · rw [decide_eq_false hxy]
      have HXY := Lib.hid hxy
      clear hxy
      go_wp2_with fail
      go_ret
      exact ⟨ret_bool (by rw [← HR.out]; exact (decide_eq_false (fun h => HXY.out h.2.1)).symm), G.bl⟩
  · have q1 : (key.toList == key'.toList) = false := by rw [key_beq]; exact decide_eq_false hk
    have HK := Lib.hid hk
    clear hk
    go_enter Tryz.func11, Tryz.ntmps11
    go_wp2_with fail
    go_ret
    exact ⟨ret_bool (by rw [← HR.out]; exact (decide_eq_false (fun h => HK.out h.1)).symm), G.bl⟩

end Go.Proofs.YtkgpkkdcadkpmaaGreatDoor
end

/- bedrockref3.Leq, Same; bedrockref5.SameVersion; ikey.Key. By an AI agent. -/
section
namespace Go.Proofs.YtkgpkkdcadkpmaaGreatDoor
open Go.RowKit
def KKPost (w : World) (l : List UInt8) (e : Ending) (w' : World) : Prop :=
  (∃ V : VerL, e = .returned (.tuple #[.string V.key, .int .i64 0]) ∧ Bl w w' ∧ ValidK V ∧ putK V = l) ∨
  (e = .returned (.tuple #[.string ⟨#[]⟩, .int .i64 4]) ∧ Bl w w' ∧ ∀ V, ValidK V → putK V ≠ l)
set_option maxRecDepth 100000 in
theorem kkeyOf_any (s : ByteArray) (l : List UInt8) (w : World) (hs : SB s l) (hz : l.length ≤ 1000000) :
    Calls Tryz.prog 10 #[.string s] w (KKPost w l) := by
  have hsf := store_float
  have H := Lib.hid (kget_any s l w hs hz)
  clear hs
  go_enter Tryz.func10, Tryz.ntmps10
  go_wp2_with fail
  refine H.out.mono ?_
  rintro e w1 (⟨key, a, n, ca, xs, o, t, rfl, hF, hb1, hv, hp⟩ | ⟨rfl, hb1, hno⟩)
  · have hA := ver_box w1 key a n ca o t 0 0 0 ⟨#[]⟩
    have hb2 := hb1.alloc (.cells #[.string key, .slice a n ca, .int .i64 o, .int .i64 t, .int .i64 0, .float .f64 0, .int .i64 0, .string ⟨#[]⟩] 28)
    go_wp2_with fail
    go_ret2
    exact .inl ⟨_, rfl, hb2, hv, hp⟩
  · have hb2 := hb1.alloc (.cells #[.string ⟨#[]⟩, .slice none 0 0, .int .i64 0, .int .i64 0, .int .i64 0, .float .f64 0, .int .i64 0, .string ⟨#[]⟩] 28)
    go_wp2_with fail
    go_ret2
    exact .inr ⟨rfl, hb2, hno⟩
end Go.Proofs.YtkgpkkdcadkpmaaGreatDoor
end
