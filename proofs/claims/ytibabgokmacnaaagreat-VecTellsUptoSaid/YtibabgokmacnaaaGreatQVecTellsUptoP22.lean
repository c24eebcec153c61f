import Derived.Test.YtibabgokmacnaaaGreatQVecTellsUptoP1
import Derived.Deep.AppendSrc
import Derived.Deep.Cut

/- raw.Digits. By an AI agent. -/
section
namespace Go.Proofs.YtibabgokmacnaaaGreat
open Go.RowKit

theorem slice_arr20 (g i : Nat) (x : Int) (hx : x = i) (h : i < 20) (w : World) :
    (Instr.sliceAt 175 (.pointer (some ⟨g, 0, none⟩)) (some (.int .i64 x)) none none).run Tryz.prog w = .ok (.slice (some ⟨g, i, none⟩) (20 - i) (20 - i)) w := by
  subst hx
  have hne : ¬ (20 : Nat) = i := by omega
  have hle : (i : Int) ≤ 20 := by omega
  have ha : Addr.add ⟨g, 0, none⟩ i = ⟨g, i, none⟩ := by unfold Addr.add; split <;> simp_all
  simp [Instr.sliceAt, Instr.sureAddr, run_underlying Tryz.underlying175, Instr.sliceBounds, run_sliceBound, hne, hle, Result.andThen, ha]

set_option maxHeartbeats 1600000 in
set_option maxRecDepth 100000 in
theorem digits_any (v : Int) (w : World) (h0 : -9223372036854775808 ≤ v) (h1 : v ≤ 9223372036854775807) :
    Calls Tryz.prog 73 #[.int .i64 v] w fun e w' => e = .returned (.string (strOfNums (digL v))) ∧ Bl w w' := by
  have hu : ∃ u : Nat, u = v.natAbs ∧ u ≤ 9223372036854775808 := ⟨_, rfl, by omega⟩
  obtain ⟨u, hu, hu1⟩ := hu
  have HLU := Lib.hid (decD_len 18 u (by omega))
  have har : AR (w.alloc (.cells #[.int .u8 0, .int .u8 0, .int .u8 0, .int .u8 0, .int .u8 0, .int .u8 0, .int .u8 0, .int .u8 0, .int .u8 0, .int .u8 0, .int .u8 0, .int .u8 0, .int .u8 0, .int .u8 0, .int .u8 0, .int .u8 0, .int .u8 0, .int .u8 0, .int .u8 0, .int .u8 0] 175)) w.heap.size (List.replicate 20 0) := ⟨175, by
    rw [heap_alloc_new]; rfl⟩
  have hbl := (Bl.refl w).alloc (.cells #[.int .u8 0, .int .u8 0, .int .u8 0, .int .u8 0, .int .u8 0, .int .u8 0, .int .u8 0, .int .u8 0, .int .u8 0, .int .u8 0, .int .u8 0, .int .u8 0, .int .u8 0, .int .u8 0, .int .u8 0, .int .u8 0, .int .u8 0, .int .u8 0, .int .u8 0, .int .u8 0] 175)
  have HU := Lib.hid hu; clear hu
  have HU1 := Lib.hid hu1; clear hu1
  have H0 := Lib.hid h0; clear h0
  have H1 := Lib.hid h1; clear h1
  by_cases hneg : v < 0
  · have HDL := Lib.hid (show digL v = 45 :: decD u from by rw [digL, if_pos hneg, HU.out])
    go_enter Tryz.func73, Tryz.ntmps73
    go_wp2
    go_loopw [4, 5] (fun n i wr => ∃ (m k : Nat) (xs t : List Int), n = .int .u64 m ∧ i = .int .i64 k ∧ xs.length = 20 ∧ AR wr w.heap.size xs ∧ Bl w wr ∧ xs.drop k = t ∧ k ≤ 20 ∧ m ≤ 9223372036854775808 ∧ decD u = decD m ++ t) (fun _ i _ => (intOf i).toNat)
    case atStart => exact ⟨u, 20, _, [], by
      have h0 := H0.out; have h1 := H1.out; have hu := HU.out
      congr 1; simp only [IntKind.wrap_u64]; omega, rfl, List.length_replicate, har, hbl, rfl, Nat.le_refl _, HU1.out, by simp⟩
    case round =>
      clear har hbl
      obtain ⟨m, k, xs, t, rfl, rfl, hxl, har, hb, ht, hk, hm, hd⟩ := hrel
      have hk2 : 2 ≤ k := by
        have h1 := HLU.out.2
        rw [hd, List.length_append] at h1
        have h2 := decD_pos m
        have h3 : t.length = 20 - k := by rw [← ht, List.length_drop, hxl]
        omega
      have hw : IntKind.u64.wrap ((m : Int) / 10) = (m : Int) / 10 := by rw [IntKind.wrap_u64]; omega
      have HX := Lib.hid hxl
      have HT := Lib.hid ht
      have HD := Lib.hid hd
      have HM := Lib.hid hm
      clear ht hd hm
      have hc1 := har.cell (k - 1) (by omega)
      have hc2 := har.cell (k - 1 - 1) (by omega)
      have hf1 := har.frozen (k - 1)
      have hf2 := har.frozen (k - 1 - 1)
      clear hxl
      generalize nth xs (k - 1) = o1 at hc1
      generalize nth xs (k - 1 - 1) = o2 at hc2
      have HT2 := Lib.hid (drop_set_pred (by omega) (by rw [HX.out]; exact hk) HT.out (48 + (m : Int) % 10))
      have har1 := har.set (k - 1) (48 + (m : Int) % 10)
      by_cases hm10 : m < 10
      · have hq : ((m : Int) / 10 == 0) = true := by simp; omega
        have hdd : digL v = 45 :: (48 + (m : Int) % 10) :: t := by
          rw [HDL.out, HD.out, decD_small hm10, show (m : Int) % 10 = m by omega]; rfl
        have HDD := Lib.hid hdd; clear hdd
        have har2 := har1.set (k - 1 - 1) 45
        have hsx := har2.string (k - 1 - 1) (20 - (k - 1 - 1)) (20 - (k - 1 - 1)) (by simp [HX.out]; omega)
        have hsl := slice_arr20 w.heap.size (k - 1 - 1) ((k : Int) - 1 - 1) (by omega) (by omega)
        have HT3 := Lib.hid (drop_set_pred (xs := xs.set (k - 1) (48 + (m : Int) % 10)) (by omega) (by simp [HX.out]; omega) HT2.out 45)
        go_wp2
        go_ret
        exact ⟨ret_str (by rw [HDD.out, HT3.out]), (hb.setCell (Nat.le_refl _) _).setCell (Nat.le_refl _) _⟩
      · have hq : ((m : Int) / 10 == 0) = false := by simp; omega
        have HD2 := Lib.hid (decD_big hm10)
        go_wp2
        go_roundw
        case rel => exact ⟨m / 10, k - 1, _, _, by go_num, by go_num, by simp [HX.out], har1, hb.setCell (Nat.le_refl _) _, HT2.out, by omega, by have := HM.out; omega, by rw [HD.out, HD2.out]; simp⟩
        case measure => simp [intOf]; omega
  · have HDL := Lib.hid (show digL v = decD u from by rw [digL, if_neg hneg, HU.out])
    go_enter Tryz.func73, Tryz.ntmps73
    go_wp2
    go_loopw [4, 5] (fun n i wr => ∃ (m k : Nat) (xs t : List Int), n = .int .u64 m ∧ i = .int .i64 k ∧ xs.length = 20 ∧ AR wr w.heap.size xs ∧ Bl w wr ∧ xs.drop k = t ∧ k ≤ 20 ∧ m ≤ 9223372036854775808 ∧ decD u = decD m ++ t) (fun _ i _ => (intOf i).toNat)
    case atStart => exact ⟨u, 20, _, [], by
      have h0 := H0.out; have h1 := H1.out; have hu := HU.out
      congr 1; simp only [IntKind.wrap_u64]; omega, rfl, List.length_replicate, har, hbl, rfl, Nat.le_refl _, HU1.out, by simp⟩
    case round =>
      clear har hbl
      obtain ⟨m, k, xs, t, rfl, rfl, hxl, har, hb, ht, hk, hm, hd⟩ := hrel
      have hk2 : 2 ≤ k := by
        have h1 := HLU.out.2
        rw [hd, List.length_append] at h1
        have h2 := decD_pos m
        have h3 : t.length = 20 - k := by rw [← ht, List.length_drop, hxl]
        omega
      have hw : IntKind.u64.wrap ((m : Int) / 10) = (m : Int) / 10 := by rw [IntKind.wrap_u64]; omega
      have HX := Lib.hid hxl
      have HT := Lib.hid ht
      have HD := Lib.hid hd
      have HM := Lib.hid hm
      clear ht hd hm
      have hc1 := har.cell (k - 1) (by omega)
      have hc2 := har.cell (k - 1 - 1) (by omega)
      have hf1 := har.frozen (k - 1)
      have hf2 := har.frozen (k - 1 - 1)
      clear hxl
      generalize nth xs (k - 1) = o1 at hc1
      generalize nth xs (k - 1 - 1) = o2 at hc2
      have HT2 := Lib.hid (drop_set_pred (by omega) (by rw [HX.out]; exact hk) HT.out (48 + (m : Int) % 10))
      have har1 := har.set (k - 1) (48 + (m : Int) % 10)
      by_cases hm10 : m < 10
      · have hq : ((m : Int) / 10 == 0) = true := by simp; omega
        have hdd : digL v = (48 + (m : Int) % 10) :: t := by
          rw [HDL.out, HD.out, decD_small hm10, show (m : Int) % 10 = m by omega]; rfl
        have HDD := Lib.hid hdd; clear hdd
        have hsl := slice_arr20 w.heap.size (k - 1) ((k : Int) - 1) (by omega) (by omega)
        have hsx := har1.string (k - 1) (20 - (k - 1)) (20 - (k - 1)) (by simp [HX.out]; omega)
        go_wp2
        go_ret
        exact ⟨ret_str (by rw [HDD.out, HT2.out]), hb.setCell (Nat.le_refl _) _⟩
      · have hq : ((m : Int) / 10 == 0) = false := by simp; omega
        have HD2 := Lib.hid (decD_big hm10)
        go_wp2
        go_roundw
        case rel => exact ⟨m / 10, k - 1, _, _, by go_num, by go_num, by simp [HX.out], har1, hb.setCell (Nat.le_refl _) _, HT2.out, by omega, by have := HM.out; omega, by rw [HD.out, HD2.out]; simp⟩
        case measure => simp [intOf]; omega
end Go.Proofs.YtibabgokmacnaaaGreat
end

/- bedrockref1.Digits: digits that are put ahead of others. By an AI agent. -/
section
namespace Go.Proofs.YtibabgokmacnaaaGreat
open Go.RowKit

theorem OB.lit {B : Nat} {w : World} {x : Int} (hB : B ≤ w.heap.size) : OB B (w.alloc (.cells #[.int .u8 x] 5)) (.slice (some ⟨w.heap.size, 0, none⟩) 1 1) [x] :=
  ⟨by simp, .inr ⟨w.heap.size, 1, #[.int .u8 x], rfl, hB, heap_alloc_new w _, Nat.le_refl _, by decide, by simp, by simp⟩⟩
section
variable {ops : Array Oper}
/-- append([]byte{c}, l...) -/
theorem wpList_pre {rest : List Oper} {o : Oper} {a : Act} {w : World} {Q : Exit → Act → World → Prop} (hgd : o.guard = none) (s x : Operand)
    (ho : o.op = .call { callee := .builtin .append, args := #[s, x], argTypes := #[92, 92] }) (B : Nat) (j : Nat) (c : Int) (hs : a.eval s = .slice (some ⟨j, 0, none⟩) 1 1) (hown : OB B w (.slice (some ⟨j, 0, none⟩) 1 1) [c]) (hB : B ≤ w.heap.size)
    (v : Value) (xs : List Int) (hx : a.eval x = v) (hv : OB B w v xs) (hn : xs.length ≤ 1000)
    (h : ∀ v' w', OB B w' v' (c :: xs) → w.grownBy w' (some j) → wpList Tryz.prog ops Q rest (a.put o.dst v') w') : wpList Tryz.prog ops Q (o :: rest) a w := by
  obtain ⟨ti, hi, hz, h1, h2⟩ := info_parts info_byte
  have hv' := hv
  obtain ⟨hl, ⟨rfl, h0⟩ | ⟨g, cap, cur, rfl, hBg, hg, _⟩⟩ := hv'
  · have e : xs = [] := List.eq_nil_of_length_eq_zero h0
    subst e
    have hr : (Builtin.append_ #[92, 92] o.type #[.slice (some ⟨j, 0, none⟩) 1 1, .slice none 0 0]).run Tryz.prog w = .ok (.slice (some ⟨j, 0, none⟩) 1 1) w := by
      have := run_append_room_src (P := Tryz.prog) w 92 92 o.type 5 ti Tryz.underlying92 hi j 0 1 1 (.slice none 0 0) 0 [] (Src.ofNil w Tryz.underlying92 0) (by decide) (fun k hk => by simp at hk) (fun k hk => by simp at hk)
      simpa [World.setCells] using this
    refine wpList_plain hgd fun _ hK => ?_
    unfold Oper.wp execOp
    simp only [ho, resolve, invoke, builtin, Sem.run_bind, Sem.run_pure, Result.andThen_ok, List.map_toArray, List.map_cons, List.map_nil, hs, hx, hr]
    exact hK _ _ (h _ _ hown ⟨rfl, rfl, rfl, Nat.le_refl _, fun _ _ _ => rfl⟩)
  · refine wpList_append_own w hgd s x _ ho B 5 ti (.int .u8 0) 1 1 Tryz.underlying92 hi hz h1 h2 rfl (by decide) _ 1 _ hs hown ⟨g, 0, none⟩ xs.length cap (xs.map (Value.int .u8)) hx (by simp) ?_ ?_ (by unfold maxLen; omega) (by omega) hB ?_
    · intro k u hu
      have hk : k < xs.length := by
        have := (List.getElem?_eq_some_iff.1 hu).1
        simpa using this
      have hc := hv.cell rfl k hk
      have e : (⟨g, 0, none⟩ : Addr).add k = ⟨g, k, none⟩ := by unfold Addr.add; split <;> simp_all
      rw [e, hc]
      simp [hk] at hu
      rw [← hu, nth_eq hk]
    · intro u hu
      obtain ⟨y, _, rfl⟩ := List.mem_map.1 hu
      rfl
    · intro v' w' hown' hgr _
      refine h v' w' ?_ hgr
      rw [OB, List.length_cons, Nat.add_comm xs.length 1]
      exact hown'
end

theorem decD_step (u : Nat) : (u / 10 = 0 → decD u = [48 + ((u % 10 : Nat) : Int)]) ∧ (u / 10 ≠ 0 → decD u = decD (u / 10) ++ [48 + ((u % 10 : Nat) : Int)]) := by
  constructor
  · intro h0
    rw [decD_small (by omega), Nat.mod_eq_of_lt (by omega)]
  · intro h0
    exact decD_big (by omega)
/-- what is laid so far -/
def DigInv (n u : Nat) (xs : List Int) : Prop := (u = 0 → xs = decD n) ∧ (u ≠ 0 → decD n = decD u ++ xs)
theorem DigInv.step {n u : Nat} {xs : List Int} (h : DigInv n u xs) (h0 : u ≠ 0) : DigInv n (u / 10) ((48 + ((u % 10 : Nat) : Int)) :: xs) := by
  obtain ⟨s1, s2⟩ := decD_step u
  have hn := h.2 h0
  constructor
  · intro k
    rw [hn, s1 k]; rfl
  · intro k
    rw [hn, s2 k, List.append_assoc]; rfl
theorem DigInv.len {n u : Nat} {xs : List Int} (h : DigInv n u xs) (hn : n < 10 ^ 19) : xs.length ≤ 19 := by
  have hl := (decD_len 18 n hn).2
  by_cases h0 : u = 0
  · rw [h.1 h0]; exact hl
  · rw [h.2 h0, List.length_append] at hl; omega

theorem refDigits_zero (w : World) : Calls Tryz.prog 75 #[.int .i64 0] w fun e w' => e = .returned (.string (strOfNums (digL 0))) ∧ Bl w w' := by
  go_enter Tryz.func75, Tryz.ntmps75
  go_wp2_with fail
  go_ret
  exact ⟨by rw [show digL 0 = [48] from by unfold digL; rw [if_neg (by decide)]; exact decD_small (by decide)]; rfl, Bl.refl _⟩
set_option maxHeartbeats 1600000 in
set_option maxRecDepth 100000 in
theorem refDigits_pos (n : Nat) (w : World) (h0 : n ≠ 0) (hn : n ≤ 9223372036854775807) : Calls Tryz.prog 75 #[.int .i64 n] w fun e w' => e = .returned (.string (strOfNums (decD n))) ∧ Bl w w' := by
  have q0 : ((n : Int) == 0) = false := by simpa using h0
  have qn : decide ((n : Int) < 0) = false := by simp
  have H19 := Lib.hid (show n < 10 ^ 19 by omega)
  go_enter Tryz.func75, Tryz.ntmps75
  go_wp2_with fail
  go_loopw [3, 4] (fun b i wr => ∃ (u : Nat) (xs : List Int), i = .int .i64 u ∧ u ≤ 9223372036854775807 ∧ Hid (DigInv n u xs) ∧ Bl w wr ∧ OB w.heap.size wr b xs) (fun _ i _ => (intOf i).toNat)
  case atStart => exact ⟨n, [], rfl, hn, Lib.hid ⟨fun e => absurd e h0, fun _ => by simp⟩, Bl.refl _, OB.nil _ _⟩
  case round =>
    obtain ⟨u, xs, rfl, hu, HI, hb, hob⟩ := hrel
    by_cases hz : u = 0
    · subst hz
      have e := HI.out.1 rfl
      subst e
      clear HI
      obtain ⟨ys, hys⟩ : ∃ ys : List Int, decD n = ys := ⟨_, rfl⟩
      rw [hys] at hob
      have hy0 : 0 < ys.length := by rw [← hys]; exact decD_pos n
      have HY := Lib.hid hys
      clear hys
      have hcases := hob
      obtain ⟨_, ⟨rfl, e0⟩ | ⟨g, cap, cur, rfl, hBg, _, _⟩⟩ := hcases
      · exact absurd e0 (by omega)
      · have hs := hob.string rfl
        go_wp2_with fail
        go_ret
        exact ⟨by rw [HY.out]; rfl, hb⟩
    · have q1 : ((u : Int) != 0) = true := by simpa using hz
      have hst := Lib.hid (HI.out.step hz)
      have hlen := HI.out.len H19.out
      obtain ⟨D, hD⟩ : ∃ D : Nat, u % 10 = D := ⟨_, rfl⟩
      have hD10 : D < 10 := by omega
      have eD : (u : Int) % 10 = (D : Int) := by omega
      have qD : decide ((D : Int) < 0) = false := by simp
      rw [hD] at hst
      clear hD
      go_upto_region 10 with fail
      rw [eD]
      have hlit : OB w.heap.size (wr.alloc (.cells #[.int .u8 (48 + (D : Int))] 5)) (.slice (some ⟨wr.heap.size, 0, none⟩) 1 1) [48 + (D : Int)] := OB.lit hb.size
      have hal : OB w.heap.size (wr.alloc (.cells #[.int .u8 (48 + (D : Int))] 5)) u3 xs := World.ownsRow.alloc hob _
      go_wp2_with (at_builtin; refine wpList_pre rfl _ _ rfl w.heap.size wr.heap.size (48 + (D : Int)) rfl hlit ?c2 _ xs rfl hal ?c3 ?_)
      case c2 => have := hb.size; simp; omega
      case c3 => omega
      intro v' w2 hown' hg
      have hb2 : Bl w w2 := (hb.alloc _).grown hg (by have := hb.size; simp; omega) (fun j hj => by cases hj; exact hb.size)
      clear hlit hal hg hob
      go_wp2_with fail
      go_roundw
      case rel => exact ⟨u / 10, _, by go_num, by omega, hst, hb2, hown'⟩
      case measure => simp [intOf]; omega
set_option maxHeartbeats 1600000 in
set_option maxRecDepth 100000 in
theorem refDigits_neg (n : Nat) (w : World) (h0 : n ≠ 0) (hn : n ≤ 9223372036854775808) : Calls Tryz.prog 75 #[.int .i64 (-(n : Int))] w fun e w' => e = .returned (.string (strOfNums (45 :: decD n))) ∧ Bl w w' := by
  have q0 : (-(n : Int) == 0) = false := by simp; omega
  have qn : decide (-(n : Int) < 0) = true := by simp; omega
  have H19 := Lib.hid (show n < 10 ^ 19 by omega)
  go_enter Tryz.func75, Tryz.ntmps75
  go_wp2_with fail
  go_loopw [3, 4] (fun b i wr => ∃ (u : Nat) (xs : List Int), i = .int .i64 (-(u : Int)) ∧ u ≤ 9223372036854775808 ∧ Hid (DigInv n u xs) ∧ Bl w wr ∧ OB w.heap.size wr b xs) (fun _ i _ => (-(intOf i)).toNat)
  case atStart => exact ⟨n, [], rfl, hn, Lib.hid ⟨fun e => absurd e h0, fun _ => by simp⟩, Bl.refl _, OB.nil _ _⟩
  case round =>
    obtain ⟨u, xs, rfl, hu, HI, hb, hob⟩ := hrel
    have hlen := HI.out.len H19.out
    by_cases hz : u = 0
    · subst hz
      have e := HI.out.1 rfl
      subst e
      clear HI
      have hlit : OB w.heap.size (wr.alloc (.cells #[.int .u8 45] 5)) (.slice (some ⟨wr.heap.size, 0, none⟩) 1 1) [45] := OB.lit hb.size
      have hal : OB w.heap.size (wr.alloc (.cells #[.int .u8 45] 5)) u3 (decD n) := World.ownsRow.alloc hob _
      rw [show -((0 : Nat) : Int) = 0 from rfl]
      go_wp2_with (at_builtin; refine wpList_pre rfl _ _ rfl w.heap.size wr.heap.size 45 rfl hlit ?c2 _ _ rfl hal ?c3 ?_)
      case c2 => have := hb.size; simp; omega
      case c3 => omega
      intro v' w2 hown' hg
      have hb2 : Bl w w2 := (hb.alloc _).grown hg (by have := hb.size; simp; omega) (fun j hj => by cases hj; exact hb.size)
      clear hlit hal hg hob
      obtain ⟨ys, hys⟩ : ∃ ys : List Int, 45 :: decD n = ys := ⟨_, rfl⟩
      rw [hys] at hown'
      have hy0 : 0 < ys.length := by rw [← hys]; simp
      have HY := Lib.hid hys
      clear hys
      have hcases := hown'
      obtain ⟨_, ⟨rfl, e0⟩ | ⟨g, cap, cur, rfl, hBg, _, _⟩⟩ := hcases
      · exact absurd e0 (by omega)
      · have hs := hown'.string rfl
        go_wp2_with fail
        go_ret
        exact ⟨by rw [HY.out]; rfl, hb2⟩
    · have q1 : (-(u : Int) != 0) = true := by simp; omega
      have hst := Lib.hid (HI.out.step hz)
      obtain ⟨D, hD⟩ : ∃ D : Nat, u % 10 = D := ⟨_, rfl⟩
      obtain ⟨U, hU⟩ : ∃ U : Nat, u / 10 = U := ⟨_, rfl⟩
      have hD10 : D < 10 := by omega
      have eD : (-(u : Int)).tmod 10 = -(D : Int) := by rw [Int.neg_tmod, Int.tmod_eq_emod_of_nonneg (by omega)]; omega
      have eU : (-(u : Int)).tdiv 10 = -(U : Int) := by rw [Int.neg_tdiv, Int.tdiv_eq_ediv_of_nonneg (by omega)]; omega
      have hUu : U < u := by omega
      rw [hD, hU] at hst
      clear hD hU
      have hlit : OB w.heap.size (wr.alloc (.cells #[.int .u8 (48 + (D : Int))] 5)) (.slice (some ⟨wr.heap.size, 0, none⟩) 1 1) [48 + (D : Int)] := OB.lit hb.size
      have hal : OB w.heap.size (wr.alloc (.cells #[.int .u8 (48 + (D : Int))] 5)) u3 xs := World.ownsRow.alloc hob _
      by_cases d0 : D = 0
      · subst d0
        rw [show -((0 : Nat) : Int) = 0 from rfl] at eD
        go_wp2_with (at_builtin; refine wpList_pre rfl _ _ rfl w.heap.size wr.heap.size 48 rfl hlit ?c2 _ xs rfl hal ?c3 ?_)
        case c2 => have := hb.size; simp; omega
        case c3 => omega
        intro v' w2 hown' hg
        have hb2 : Bl w w2 := (hb.alloc _).grown hg (by have := hb.size; simp; omega) (fun j hj => by cases hj; exact hb.size)
        clear hlit hal hg hob
        go_wp2_with fail
        go_roundw
        case rel => exact ⟨U, _, rfl, by omega, hst, hb2, hown'⟩
        case measure => simp [intOf]; omega
      · have qD : decide (-(D : Int) < 0) = true := by simp; omega
        go_wp2_with (at_builtin; refine wpList_pre rfl _ _ rfl w.heap.size wr.heap.size (48 + (D : Int)) rfl hlit ?c2 _ xs rfl hal ?c3 ?_)
        case c2 => have := hb.size; simp; omega
        case c3 => omega
        intro v' w2 hown' hg
        have hb2 : Bl w w2 := (hb.alloc _).grown hg (by have := hb.size; simp; omega) (fun j hj => by cases hj; exact hb.size)
        clear hlit hal hg hob
        go_wp2_with fail
        go_roundw
        case rel => exact ⟨U, _, rfl, by omega, hst, hb2, hown'⟩
        case measure => simp [intOf]; omega
/-- bedrockref1.Digits is raw.Digits -/
theorem refDigits_any (v : Int) (w : World) (h0 : -9223372036854775808 ≤ v) (h1 : v ≤ 9223372036854775807) : Calls Tryz.prog 75 #[.int .i64 v] w fun e w' => e = .returned (.string (strOfNums (digL v))) ∧ Bl w w' := by
  by_cases hz : v = 0
  · subst hz; exact refDigits_zero w
  · by_cases hv : v < 0
    · have e : digL v = 45 :: decD v.natAbs := by unfold digL; rw [if_pos hv]
      rw [e]
      have h := refDigits_neg v.natAbs w (by omega) (by omega)
      rwa [show -(v.natAbs : Int) = v by omega] at h
    · have e : digL v = decD v.natAbs := by unfold digL; rw [if_neg hv]
      rw [e]
      have h := refDigits_pos v.natAbs w (by omega) (by omega)
      rwa [show (v.natAbs : Int) = v by omega] at h
end Go.Proofs.YtibabgokmacnaaaGreat
end
