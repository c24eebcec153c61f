import Derived.Test.YtibabgokmacnaaaGreatQVecTellsUptoP3
import Derived.Test.YtibabgokmacnaaaGreatQVecTellsUptoP22
import Derived.Test.YtibabgokmacnaaaGreatShelf
import Derived.Test.YtibabgokmacnaaaGreatQVecTellsUptoP21
import Derived.Test.YtibabgokmacnaaaGreatQVecTellsUptoP19

/- vec.Text. By an AI agent. -/
section
set_option linter.unusedVariables false
set_option linter.unusedSimpArgs false
namespace Go.Proofs.YtibabgokmacnaaaGreat
open Go.RowKit

theorem info_string : (Tryz.prog.info? 9).map (fun i => (i.zero, i.size, i.bytes)) = some (some (.string ByteArray.empty), 1, 16) := by kernel_rfl
def OS (B : Nat) (w : World) (v : Value) (xs : List ByteArray) : Prop := w.ownsRow B 9 1 v xs.length (xs.map Value.string)
theorem OS.push {B : Nat} {w0 w w1 : World} {v v' : Value} {xs : List ByteArray} {x : ByteArray} {o : Obj} (hb : Below B w0 w) (hB : B ≤ w.heap.size) (hown : OS B w v xs)
    (hown' : w1.ownsRow B 9 1 v' (xs.length + 1) (xs.map Value.string ++ [.string x])) (hg : (w.alloc o).grownBy w1 v.ownBlock) : OS B w1 v' (xs ++ [x]) ∧ Below B w0 w1 :=
  ⟨by simpa [OS] using hown', (hb.alloc hB o).grown hg (by simp; omega) (fun j hj => (World.ownsRow.lt hown j hj).1)⟩
theorem OS.keep {B : Nat} {w w' : World} {v : Value} {xs : List ByteArray} (h : OS B w v xs) (hb : Bl w w') : OS B w' v xs := ownsRow_bl h hb

/-- a vector's text -/
def textL (xs : List Int) : List UInt8 := 91 :: Lib.join (xs.map fun x => bytesN (digL x)) [44] ++ [93]

theorem joinTail_len (l : List (List UInt8)) (m : Nat) (h : ∀ x ∈ l, x.length ≤ m) : (Lib.joinTail [44] l).length ≤ (m + 1) * l.length := by
  induction l with
  | nil => simp [Lib.joinTail]
  | cons x l ih =>
    have h1 := ih (fun y hy => h y (by simp [hy]))
    have h2 := h x (by simp)
    have e : Lib.joinTail [44] (x :: l) = [44] ++ x ++ Lib.joinTail [44] l := by simp [Lib.joinTail]
    rw [e]
    simp only [List.length_append, List.length_cons, List.length_nil, Nat.mul_add]
    omega
theorem join_len (l : List (List UInt8)) (m : Nat) (h : ∀ x ∈ l, x.length ≤ m) : (Lib.join l [44]).length ≤ (m + 1) * l.length := by
  cases l with
  | nil => simp [Lib.join_nil]
  | cons x l =>
    rw [Lib.join_cons]
    simp only [List.length_append, List.length_cons, Nat.mul_add]
    have h1 := joinTail_len l m (fun y hy => h y (by simp [hy]))
    have h2 := h x (by simp)
    omega

set_option maxHeartbeats 800000 in
set_option maxRecDepth 100000 in
theorem text_any (a : Option Addr) (n ca : Nat) (xs : List Int) (w : World) (hx : IA w a n xs) (hn : n ≤ 1000000) :
    Calls Tryz.prog 27 #[.slice a n ca] w fun e w' => ∃ s : ByteArray, e = .returned (.string s) ∧ SB s (textL xs) ∧ Bl w w' := by
  obtain ⟨i0, hi, hz0, hz1, hz2⟩ := info_parts info_string
  have HX := Lib.hid hx.len
  go_enter Tryz.func27, Tryz.ntmps27
  go_wp2
  go_loopw [3, 8] (fun v i wr => ∃ (k : Nat) (acc : List ByteArray), k ≤ n ∧ i = .int .i64 k ∧ Bl w wr ∧ OS w.heap.size wr v acc ∧ acc.length = k ∧ acc = (xs.take k).map (fun x => strOfNums (digL x))) (fun _ i _ => n - (intOf i).toNat)
  case atStart => exact ⟨0, [], Nat.zero_le _, rfl, Bl.refl _, World.ownsRow_nil _ _ _ _, rfl, rfl⟩
  case round =>
    obtain ⟨k, acc, hk, rfl, hbl, hown, hal, hacc⟩ := hrel
    have hal' : acc.length ≤ 1000000 := by omega
    have HAL := Lib.hid hal; clear hal
    have HACC := Lib.hid hacc; clear hacc
    by_cases hlt : k < n
    · obtain ⟨ba, oa, rfl, hca⟩ := hx.cells k hlt
      have ha := hbl.cell (hca k hlt)
      clear hca
      have hwf := hx.wf_get k
      go_wp2_with fail
      refine (digits_any (nth xs k) _ hwf.1 hwf.2).mono ?_
      rintro e w2 ⟨rfl, hbl2⟩
      have hown2 := hown.keep hbl2
      have hbl4 := hbl.trans hbl2
      have hs4 := hbl4.size
      clear hwf
      go_wp2_with (at_builtin; refine wpList_append_own _ rfl _ _ 103 rfl (w.heap.size) 9 i0 (.string ByteArray.empty) 1 16 Tryz.underlying103 hi hz0 hz1 hz2 rfl (by decide) _ _ _ rfl (World.ownsRow.alloc hown2 _) ⟨w2.heap.size, 0, none⟩ 1 1 [.string (strOfNums (digL (nth xs k)))] rfl rfl ?c1 ?c2 ?c3 ?c4 ?c5 ?_)
      case c1 =>
        intro j u hj
        match j, hj with
        | 0, hj => simp at hj; subst hj; simp [Addr.add]
      case c2 => intro u hu; simp at hu; subst hu; rfl
      case c3 => unfold maxLen; omega
      case c4 => omega
      case c5 => simp; omega
      intro v' w3 hown' hgrow _
      have R := OS.push hbl4 hs4 hown2 hown' hgrow
      have HA := Lib.hid (take_nth (xs := xs) (k := k) (by rw [HX.out]; exact hlt))
      clear hown hown2 hown' hgrow
      go_wp2
      go_roundw
      case rel => exact ⟨k + 1, _, by omega, by go_num, R.2, R.1, by simp [HAL.out], by rw [HA.out, HACC.out]; simp⟩
      case measure => simp [intOf]; omega
    · have hfin : acc = xs.map (fun x => strOfNums (digL x)) := by
        rw [HACC.out, List.take_of_length_le (by rw [HX.out]; omega)]
      have hjl : (Lib.join (acc.map (·.data.toList)) [44]).length ≤ 21000000 := by
        rw [hfin, List.map_map]
        have h2 := join_len (List.map ((fun x : ByteArray => x.data.toList) ∘ fun x => strOfNums (digL x)) xs) 20 (by
          intro y hy
          obtain ⟨x, hx', rfl⟩ := List.mem_map.1 hy
          have := hx.wf x hx'
          have h3 := digL_len x this.1 this.2
          show (bytesN (digL x)).length ≤ 20
          rw [bytesN_len]; exact h3.2)
        rw [List.length_map, HX.out] at h2
        omega
      have hspec : Lib.join (acc.map (·.data.toList)) [44] = Lib.join (xs.map fun x => bytesN (digL x)) [44] := by
        rw [hfin, List.map_map]; rfl
      have HSP := Lib.hid hspec; clear hspec hfin
      have hjoin : Calls Tryz.prog 74 #[u3, .string ⟨#[44]⟩] wr fun e w' => ∃ s : ByteArray, e = .returned (.string s) ∧ SB s (Lib.join (xs.map fun x => bytesN (digL x)) [44]) ∧ s.size ≤ 21000000 ∧ Bl wr w' := by
        have hown0 := hown
        obtain ⟨h1, ⟨rfl, h2⟩ | ⟨g, cap, cur, rfl, hB, hg, hn, hm, hs, htk⟩⟩ := hown
        · refine (Tryz.strings_Join_none none 0 _ wr).mono ?_
          rintro e w' ⟨rfl, rfl⟩
          have e0 : acc = [] := List.eq_nil_of_length_eq_zero h2
          refine ⟨_, rfl, ?_, by decide, Bl.refl _⟩
          rw [← HSP.out, e0]; rfl
        · refine (Tryz.strings_Join g 0 cap acc ⟨#[44]⟩ wr ?_ (lt_of_heap hg) (by omega) (by omega) ?_).mono ?_
          · intro j x hj
            have hjl := (List.getElem?_eq_some_iff.1 hj).1
            rw [Nat.zero_add, World.ownsRow.cellAt hown0 j (by omega)]
            simp [hj]
          · exact Nat.le_trans hjl (by omega)
          · rintro e w' ⟨rfl, hb⟩
            refine ⟨_, rfl, ?_, ?_, hb⟩
            · rw [← HSP.out]; rfl
            · exact hjl
      have HJ := Lib.hid hjoin; clear hjoin
      clear hown hjl
      go_wp2_with fail
      refine HJ.out.mono ?_
      rintro e w5 ⟨s, rfl, hs, hsz, hb5⟩
      go_wp2
      go_ret
      refine ⟨_, rfl, ?_, hbl.trans hb5⟩
      rw [SB] at hs
      simp [SB, textL, hs]
end Go.Proofs.YtibabgokmacnaaaGreat
end

/- bedrockref3.Text, and bedrockref3.Put of what is no vector. By an AI agent. -/
section
set_option linter.unusedVariables false
set_option linter.unusedSimpArgs false
namespace Go.Proofs.YtibabgokmacnaaaGreat
open Go.RowKit

theorem rput3_no (a : Option Addr) (n ca : Nat) (xs : List Int) (w : World) (hx : IA w a n xs) (hv : validL xs = false) :
    Calls Tryz.prog 16 #[.slice a n ca] w fun e w' => e = .returned (.tuple #[.string ⟨#[]⟩, .int .i64 1]) ∧ w = w' := by
  have HV := Lib.hid hv; clear hv
  go_enter Tryz.func16, Tryz.ntmps16
  go_wp2_with fail
  refine (rvalid_any a n ca xs _ hx).mono ?_
  rintro e w' ⟨rfl, rfl⟩
  rw [HV.out]
  go_wp2
  go_ret2
  exact ⟨rfl, rfl⟩

def preL (xs : List Int) (k : Nat) : List UInt8 := 91 :: Lib.join ((xs.take k).map fun x => bytesN (digL x)) [44]
theorem preL_zero (xs : List Int) : preL xs 0 = [91] := by simp [preL, Lib.join_nil]
theorem preL_one (xs : List Int) (h : 0 < xs.length) : preL xs 0 ++ bytesN (digL (nth xs 0)) = preL xs 1 := by
  cases xs with
  | nil => simp at h
  | cons x l => simp [preL, Lib.join_nil, Lib.join_one]
theorem preL_succ (xs : List Int) (k : Nat) (h0 : 0 < k) (h : k < xs.length) : preL xs k ++ [44] ++ bytesN (digL (nth xs k)) = preL xs (k + 1) := by
  cases xs with
  | nil => simp at h
  | cons x l =>
    obtain ⟨m, rfl⟩ : ∃ m, k = m + 1 := ⟨k - 1, by omega⟩
    have hm : m < l.length := by simpa using h
    have e := Lib.joinTail_take_succ [44] (l.map fun x => bytesN (digL x)) m (bytesN (digL (nth l m))) (by rw [List.getElem?_map, List.getElem?_eq_getElem hm, nth_eq hm]; rfl)
    simp only [preL, List.take_succ_cons, List.map_cons, Lib.join_cons, nth_cons_succ, List.map_take, e]
    simp [List.append_assoc]
theorem preL_all (xs : List Int) : preL xs xs.length ++ [93] = textL xs := by
  rw [preL, List.take_length]; rfl
theorem preL_len (xs : List Int) (k : Nat) (hw : ∀ x ∈ xs, -9223372036854775808 ≤ x ∧ x ≤ 9223372036854775807) : (preL xs k).length ≤ 1 + 21 * k := by
  have h2 := join_len ((xs.take k).map fun x => bytesN (digL x)) 20 (by
    intro y hy
    obtain ⟨x, hx', rfl⟩ := List.mem_map.1 hy
    have := hw x (List.mem_of_mem_take hx')
    have h3 := digL_len x this.1 this.2
    rw [bytesN_len]; exact h3.2)
  rw [List.length_map, List.length_take] at h2
  rw [preL, List.length_cons]
  have : min k xs.length ≤ k := Nat.min_le_left _ _
  omega

set_option maxHeartbeats 1600000 in
set_option maxRecDepth 100000 in
theorem rtext_any (a : Option Addr) (n ca : Nat) (xs : List Int) (w : World) (hx : IA w a n xs) (hn : n ≤ 1000000) :
    Calls Tryz.prog 28 #[.slice a n ca] w fun e w' => e = .returned (.string (strL (textL xs))) ∧ Bl w w' := by
  have HX := Lib.hid hx.len
  go_enter Tryz.func28, Tryz.ntmps28
  go_wp2_with fail
  go_loopw [3, 4] (fun s i wr => ∃ k : Nat, k ≤ n ∧ i = .int .i64 k ∧ s = .string (strL (preL xs k)) ∧ Bl w wr) (fun _ i _ => n - (intOf i).toNat)
  case atStart => exact ⟨0, Nat.zero_le _, rfl, rfl, Bl.refl _⟩
  case round =>
    obtain ⟨k, hk, rfl, rfl, hb⟩ := hrel
    have hpl := preL_len xs k hx.wf
    have zl : (strL (preL xs k)).size ≤ 21000001 := by rw [strL_size]; omega
    by_cases hlt : k < n
    · obtain ⟨ba, oa, rfl, hca⟩ := hx.cells k hlt
      have ha := hb.cell (hca k hlt)
      clear hca
      have hwf := hx.wf_get k
      have hdl := digL_len (nth xs k) hwf.1 hwf.2
      have HG := Lib.hid (fun w => refDigits_any (nth xs k) w hwf.1 hwf.2)
      have zq : (strL (bytesN (digL (nth xs k)))).size ≤ 20 := by rw [strL_size, bytesN_len]; exact hdl.2
      rw [show strOfNums (digL (nth xs k)) = strL (bytesN (digL (nth xs k))) from rfl] at HG
      by_cases h0 : 0 < k
      · have HA := Lib.hid (show strL (preL xs k) ++ ⟨#[44]⟩ ++ strL (bytesN (digL (nth xs k))) = strL (preL xs (k + 1)) by
          rw [show (⟨#[44]⟩ : ByteArray) = strL [44] from rfl, strL_app, strL_app, preL_succ xs k h0 (by rw [HX.out]; exact hlt)])
        have g0 : decide ((0 : Int) < (k : Int)) = true := decide_eq_true (by omega)
        have g1 : decide (0 < k) = true := decide_eq_true h0
        clear hpl hdl hwf
        generalize strL (bytesN (digL (nth xs k))) = q at *
        generalize strL (preL xs k) = sl at *
        have hsum : (9223372036854775807 < sl.size + 1) = False := eq_false (by omega)
        have hsum2 : (9223372036854775807 < (sl ++ (⟨#[44]⟩ : ByteArray)).size + q.size) = False := eq_false (by rw [ByteArray.size_append]; show ¬ _ < sl.size + 1 + q.size; omega)
        go_wp2_with fail
        refine (HG.out _).mono ?_
        rintro e w2 ⟨rfl, hb2⟩
        go_wp2_with fail
        go_roundw
        case rel => exact ⟨k + 1, by omega, by go_num, congrArg Value.string HA.out, hb.trans hb2⟩
        case measure => simp [intOf]; omega
      · obtain rfl : k = 0 := by omega
        have ha0 : wr.cell? ⟨ba, oa, none⟩ = some (.int .i64 (nth xs 0)) := ha
        have HA := Lib.hid (show strL (preL xs 0) ++ strL (bytesN (digL (nth xs 0))) = strL (preL xs 1) by
          rw [strL_app, preL_one xs (by rw [HX.out]; exact hlt)])
        clear hpl hdl hwf
        generalize strL (bytesN (digL (nth xs 0))) = q at *
        generalize strL (preL xs 0) = sl at *
        have hsum : (9223372036854775807 < sl.size + q.size) = False := eq_false (by omega)
        go_wp2_with fail
        refine (HG.out _).mono ?_
        rintro e w2 ⟨rfl, hb2⟩
        go_wp2_with fail
        go_roundw
        case rel => exact ⟨1, by omega, by go_num, congrArg Value.string HA.out, hb.trans hb2⟩
        case measure => simp [intOf]; omega
    · obtain rfl : k = n := by omega
      have HA := Lib.hid (show strL (preL xs k) ++ ⟨#[93]⟩ = strL (textL xs) by
        rw [show (⟨#[93]⟩ : ByteArray) = strL [93] from rfl, strL_app, ← preL_all xs, HX.out])
      clear hpl
      generalize strL (preL xs k) = sl at *
      have hsum : (9223372036854775807 < sl.size + 1) = False := eq_false (by omega)
      go_wp2_with fail
      go_ret
      exact ⟨congrArg (fun s => Ending.returned (.string s)) HA.out, hb⟩
end Go.Proofs.YtibabgokmacnaaaGreat
end
