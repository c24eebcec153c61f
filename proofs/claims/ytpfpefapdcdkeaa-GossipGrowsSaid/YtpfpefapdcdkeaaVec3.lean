/- vec.Put, vec.Text. By an AI agent. -/
import Derived.Test.YtpfpefapdcdkeaaVec2
import Derived.Test.YtpfpefapdcdkeaaRaw
import Derived.Test.YtpfpefapdcdkeaaBuilder
namespace Go.Proofs.Ytpfpefapdcdkeaa
open Go.RowKit Go.Shelf

/-- the bytes of some numbers -/
def bytesN (l : List Int) : List UInt8 := l.map fun n => UInt8.ofNat n.toNat
theorem strOfNums_list (l : List Int) : (strOfNums l).data.toList = bytesN l := rfl
theorem bytesN_append (a b : List Int) : bytesN (a ++ b) = bytesN a ++ bytesN b := by simp [bytesN]
theorem bytesN_len (a : List Int) : (bytesN a).length = a.length := by simp [bytesN]

/-! ### a builder that holds the bytes l -/
def BI (B b : Nat) (l : List UInt8) (w : World) : Prop := Lib.IsBuilder 72 5 B b (Lib.byteCells l) w
theorem BI.new (w : World) : BI w.heap.size w.heap.size [] (w.alloc (.cells #[.pointer none, .slice none 0 0] 72)) :=
  .inl ⟨Nat.le_refl _, .slice none 0 0, heap_alloc_new w _, ⟨by simp [Lib.byteCells], .inl ⟨rfl, by simp [Lib.byteCells]⟩⟩, by simp [Value.ownBlock]⟩

theorem BI.keep {B b : Nat} {l : List UInt8} {w w' : World} (h : BI B b l w) (hb : Bl w w') : BI B b l w' := by
  rcases h with ⟨h1, v, h2, h3, h4⟩ | ⟨h1, v, h2, h3, h4⟩
  · exact .inl ⟨h1, v, hb.heap h2, ownsRow_bl h3 hb, h4⟩
  · exact .inr ⟨h1, v, hb.heap h2, ownsRow_bl h3 hb, h4⟩

theorem bi_writeByte (B b : Nat) (l : List UInt8) (c : Nat) (w : World) (h : BI B b l w) (hc : c < 256) (hlen : l.length + 1 ≤ 140737488355328) (hBw : B ≤ w.heap.size) :
    Calls Try.prog 49 #[.pointer (some ⟨b, 0, none⟩), .int .u8 c] w fun e w' => e = .returned .nilIface ∧ BI B b (l ++ [UInt8.ofNat c]) w' ∧ Below B w w' := by
  refine (writeByte_any B b _ c w h (by simpa [Lib.byteCells] using hlen) hBw).mono ?_
  rintro e w' ⟨he, h1, hb⟩
  refine ⟨he, .inr ?_, hb⟩
  have e : Lib.byteCells (l ++ [UInt8.ofNat c]) = Lib.byteCells l ++ [Value.int .u8 c] := by
    simp [Lib.byteCells]; omega
  rw [e]; exact h1
theorem bi_writeString (B b : Nat) (l : List UInt8) (s : ByteArray) (m : List UInt8) (hs : s.data.toList = m) (w : World) (h : BI B b l w) (hlen : l.length + m.length ≤ 140737488355328) (hBw : B ≤ w.heap.size) :
    Calls Try.prog 51 #[.pointer (some ⟨b, 0, none⟩), .string s] w fun e w' => e = .returned (.tuple #[.int .i64 s.size, .nilIface]) ∧ BI B b (l ++ m) w' ∧ Below B w w' := by
  have hz : s.size = m.length := by rw [← hs]; simp
  refine (writeString_any B b _ s w h (by rw [hz]; simpa [Lib.byteCells] using hlen) hBw).mono ?_
  rintro e w' ⟨he, h1, hb⟩
  refine ⟨he, .inr ?_, hb⟩
  have e : Lib.byteCells (l ++ m) = Lib.byteCells l ++ Lib.strCells s := by
    simp [Lib.byteCells, Lib.strCells, hs]
  rw [e]; exact h1

/-! ### vec.Put -/
def putBodyL (xs : List Int) : List UInt8 := xs.flatMap fun x => bytesN (putN x 6 6)
def putL (xs : List Int) : List UInt8 := UInt8.ofNat xs.length :: putBodyL xs
theorem putBodyL_snoc (xs : List Int) (x : Int) : putBodyL (xs ++ [x]) = putBodyL xs ++ bytesN (putN x 6 6) := by simp [putBodyL]
theorem putBodyL_len (xs : List Int) : (putBodyL xs).length = 6 * xs.length := by
  induction xs with
  | nil => rfl
  | cons x xs ih =>
    have : putBodyL (x :: xs) = bytesN (putN x 6 6) ++ putBodyL xs := by simp [putBodyL]
    rw [this, List.length_append, ih, bytesN_len, putN_len]; simp; omega

theorem valid_parts {xs : List Int} (h : validL xs = true) : 1 ≤ xs.length ∧ xs.length ≤ 8 ∧ ∀ j, j < xs.length → 0 ≤ nth xs j ∧ nth xs j < 281474976710656 := by
  simp only [validL, Bool.and_eq_true, decide_eq_true_eq, Bool.not_eq_true'] at h
  obtain ⟨⟨h1, h2⟩, h3⟩ := h
  refine ⟨h1, h2, fun j hj => ?_⟩
  have h4 : badT (nth xs j) = false := by
    cases hb : badT (nth xs j)
    · rfl
    · have : xs.any badT = true := List.any_eq_true.2 ⟨nth xs j, by rw [nth_eq hj]; exact List.getElem_mem hj, hb⟩
      rw [h3] at this; cases this
  simp [badT] at h4; omega

set_option maxHeartbeats 800000 in
set_option maxRecDepth 100000 in
theorem vput_yes (a : Option Addr) (n ca : Nat) (xs : List Int) (w : World) (hx : IA w a n xs) (hv : validL xs = true) :
    Calls Try.prog 30 #[.slice a n ca] w fun e w' => e = .returned (.tuple #[.string ⟨(putL xs).toArray⟩, .int .i64 0]) ∧ Bl w w' := by
  have hpt := valid_parts hv
  have h1 : 1 ≤ n := by rw [← hx.len]; exact hpt.1
  have h8 : n ≤ 8 := by rw [← hx.len]; exact hpt.2.1
  have HP := Lib.hid hpt.2.2; clear hpt
  have HX := Lib.hid hx.len
  have HV := Lib.hid hv; clear hv
  have hw8 : IntKind.u8.wrap (n : Int) = n := by rw [IntKind.wrap_u8]; omega
  go_enter Try.func30, Try.ntmps30
  go_wp2_with fail
  refine (valid_any a n ca xs _ hx).mono ?_
  rintro e w' ⟨rfl, rfl⟩
  rw [HV.out]
  have hnew := BI.new w
  have hbl := (Bl.refl w).alloc (.cells #[.pointer none, .slice none 0 0] 72)
  go_wp2_with fail
  refine (bi_writeByte w.heap.size w.heap.size [] n _ hnew (by omega) (by simp) (by simp)).mono ?_
  rintro e w1 ⟨rfl, hb1, hbl1⟩
  have hbl2 := Below.trans hbl hbl1
  clear hnew hbl hbl1
  go_wp2
  go_loopw [18] (fun i wr => ∃ (k : Nat) (l : List UInt8), k ≤ n ∧ i = .int .i64 k ∧ BI w.heap.size w.heap.size l wr ∧ Bl w wr ∧ l = UInt8.ofNat n :: putBodyL (xs.take k)) (fun i _ => n - (intOf i).toNat)
  case atStart => exact ⟨0, _, Nat.zero_le _, rfl, hb1, hbl2, rfl⟩
  case round =>
    clear hb1 hbl2
    obtain ⟨k, l, hk, rfl, hb, hbl, hl⟩ := hrel
    have hll : l.length ≤ 49 := by rw [hl, List.length_cons, putBodyL_len, List.length_take]; omega
    have HL := Lib.hid hl; clear hl
    by_cases hlt : k < n
    · obtain ⟨ba, oa, rfl, hca⟩ := hx.cells k hlt
      have ha := hbl.cell (hca k hlt)
      clear hca
      have hpk := HP.out k (by rw [HX.out]; exact hlt)
      go_wp2_with fail
      refine (put_any (nth xs k) 6 _ hpk.1 (by omega) (by omega) (by omega)).mono ?_
      rintro e w2 ⟨rfl, hbl2⟩
      have hb2 := hb.keep hbl2
      have hbl4 := hbl.trans hbl2
      go_wp2_with fail
      refine (bi_writeString w.heap.size w.heap.size l _ _ (strOfNums_list _) _ hb2 (by rw [bytesN_len, putN_len]; omega) hbl4.size).mono ?_
      rintro e w3 ⟨rfl, hb3, hbl3⟩
      go_wp2
      go_roundw
      case rel => exact ⟨k + 1, _, by omega, by go_num, hb3, Below.trans hbl4 hbl3, by rw [HL.out, take_nth (by rw [HX.out]; exact hlt), putBodyL_snoc]; rfl⟩
      case measure => simp [intOf]; omega
    · have hfin : l = putL xs := by
        rw [HL.out, putL, HX.out, List.take_of_length_le (by rw [HX.out]; omega)]
      have HF := Lib.hid hfin; clear hfin
      go_wp2_with fail
      refine (Try.Builder_String_any w.heap.size w.heap.size l _ hb hbl.size).mono ?_
      rintro e w4 ⟨rfl, hb4⟩
      go_wp2
      go_ret2
      exact ⟨congrArg (fun l : List UInt8 => Ending.returned (.tuple #[.string ⟨l.toArray⟩, .int .i64 0])) HF.out, Below.trans hbl hb4⟩

set_option maxRecDepth 100000 in
theorem vput_no (a : Option Addr) (n ca : Nat) (xs : List Int) (w : World) (hx : IA w a n xs) (hv : validL xs = false) :
    Calls Try.prog 30 #[.slice a n ca] w fun e w' => e = .returned (.tuple #[.string ⟨#[]⟩, .int .i64 1]) ∧ w = w' := by
  have HV := Lib.hid hv; clear hv
  go_enter Try.func30, Try.ntmps30
  go_wp2_with fail
  refine (valid_any a n ca xs _ hx).mono ?_
  rintro e w' ⟨rfl, rfl⟩
  rw [HV.out]
  go_wp2
  go_ret2
  exact ⟨rfl, rfl⟩

/-! ### vec.Text -/
/-- slices of texts that the call itself has made -/
theorem info_string : (Try.prog.info? 9).map (fun i => (i.zero, i.size, i.bytes)) = some (some (.string ByteArray.empty), 1, 16) := by kernel_rfl
def OS (B : Nat) (w : World) (v : Value) (xs : List ByteArray) : Prop := w.ownsRow B 9 1 v xs.length (xs.map Value.string)
theorem OS.push {B : Nat} {w0 w w1 : World} {v v' : Value} {xs : List ByteArray} {x : ByteArray} {o : Obj} (hb : Below B w0 w) (hB : B ≤ w.heap.size) (hown : OS B w v xs)
    (hown' : w1.ownsRow B 9 1 v' (xs.length + 1) (xs.map Value.string ++ [.string x])) (hg : (w.alloc o).grownBy w1 v.ownBlock) : OS B w1 v' (xs ++ [x]) ∧ Below B w0 w1 :=
  ⟨by simpa [OS] using hown', (hb.alloc hB o).grown hg (by simp; omega) (fun j hj => (World.ownsRow.lt hown j hj).1)⟩
theorem OS.keep {B : Nat} {w w' : World} {v : Value} {xs : List ByteArray} (h : OS B w v xs) (hb : Bl w w') : OS B w' v xs := ownsRow_bl h hb

/-- a vector's text -/
def textL (xs : List Int) : List UInt8 := 91 :: Lib.join (xs.map fun x => bytesN (digL x)) [44] ++ [93]

theorem joinTail_len (l : List (List UInt8)) (m : Nat) (h : ∀ x ∈ l, x.length ≤ m) : (Lib.joinTail [44] l).length ≤ (m + 1) * l.length := by
  induction l with
  | nil => simp [Lib.joinTail]
  | cons x l ih =>
    have h1 := ih (fun y hy => h y (by simp [hy]))
    have h2 := h x (by simp)
    have e : Lib.joinTail [44] (x :: l) = [44] ++ x ++ Lib.joinTail [44] l := by simp [Lib.joinTail]
    rw [e]
    simp only [List.length_append, List.length_cons, List.length_nil, Nat.mul_add]
    omega
theorem join_len (l : List (List UInt8)) (m : Nat) (h : ∀ x ∈ l, x.length ≤ m) : (Lib.join l [44]).length ≤ (m + 1) * l.length := by
  cases l with
  | nil => simp [Lib.join_nil]
  | cons x l =>
    rw [Lib.join_cons]
    simp only [List.length_append, List.length_cons, Nat.mul_add]
    have h1 := joinTail_len l m (fun y hy => h y (by simp [hy]))
    have h2 := h x (by simp)
    omega

set_option maxHeartbeats 800000 in
set_option maxRecDepth 100000 in
theorem text_any (a : Option Addr) (n ca : Nat) (xs : List Int) (w : World) (hx : IA w a n xs) (hn : n ≤ 1000000) :
    Calls Try.prog 18 #[.slice a n ca] w fun e w' => ∃ s : ByteArray, e = .returned (.string s) ∧ SB s (textL xs) ∧ Bl w w' := by
  obtain ⟨i0, hi, hz0, hz1, hz2⟩ := info_parts info_string
  have HX := Lib.hid hx.len
  go_enter Try.func18, Try.ntmps18
  go_wp2
  go_loopw [3, 8] (fun v i wr => ∃ (k : Nat) (acc : List ByteArray), k ≤ n ∧ i = .int .i64 k ∧ Bl w wr ∧ OS w.heap.size wr v acc ∧ acc.length = k ∧ acc = (xs.take k).map (fun x => strOfNums (digL x))) (fun _ i _ => n - (intOf i).toNat)
  case atStart => exact ⟨0, [], Nat.zero_le _, rfl, Bl.refl _, World.ownsRow_nil _ _ _ _, rfl, rfl⟩
  case round =>
    obtain ⟨k, acc, hk, rfl, hbl, hown, hal, hacc⟩ := hrel
    have hal' : acc.length ≤ 1000000 := by omega
    have HAL := Lib.hid hal; clear hal
    have HACC := Lib.hid hacc; clear hacc
    by_cases hlt : k < n
    · obtain ⟨ba, oa, rfl, hca⟩ := hx.cells k hlt
      have ha := hbl.cell (hca k hlt)
      clear hca
      have hwf := hx.wf_get k
      go_wp2_with fail
      refine (digits_any (nth xs k) _ hwf.1 hwf.2).mono ?_
      rintro e w2 ⟨rfl, hbl2⟩
      have hown2 := hown.keep hbl2
      have hbl4 := hbl.trans hbl2
      have hs4 := hbl4.size
      clear hwf
      go_wp2_with (at_builtin; refine wpList_append_own _ rfl _ _ 63 rfl (w.heap.size) 9 i0 (.string ByteArray.empty) 1 16 Try.underlying63 hi hz0 hz1 hz2 rfl (by decide) _ _ _ rfl (World.ownsRow.alloc hown2 _) ⟨w2.heap.size, 0, none⟩ 1 1 [.string (strOfNums (digL (nth xs k)))] rfl rfl ?c1 ?c2 ?c3 ?c4 ?c5 ?_)
      case c1 =>
        intro j u hj
        match j, hj with
        | 0, hj => simp at hj; subst hj; simp [Addr.add]
      case c2 => intro u hu; simp at hu; subst hu; rfl
      case c3 => unfold maxLen; omega
      case c4 => omega
      case c5 => simp; omega
      intro v' w3 hown' hgrow _
      have R := OS.push hbl4 hs4 hown2 hown' hgrow
      have HA := Lib.hid (take_nth (xs := xs) (k := k) (by rw [HX.out]; exact hlt))
      clear hown hown2 hown' hgrow
      go_wp2
      go_roundw
      case rel => exact ⟨k + 1, _, by omega, by go_num, R.2, R.1, by simp [HAL.out], by rw [HA.out, HACC.out]; simp⟩
      case measure => simp [intOf]; omega
    · have hfin : acc = xs.map (fun x => strOfNums (digL x)) := by
        rw [HACC.out, List.take_of_length_le (by rw [HX.out]; omega)]
      have hjl : (Lib.join (acc.map (·.data.toList)) [44]).length ≤ 21000000 := by
        rw [hfin, List.map_map]
        have h2 := join_len (List.map ((fun x : ByteArray => x.data.toList) ∘ fun x => strOfNums (digL x)) xs) 20 (by
          intro y hy
          obtain ⟨x, hx', rfl⟩ := List.mem_map.1 hy
          have := hx.wf x hx'
          have h3 := digL_len x this.1 this.2
          show (bytesN (digL x)).length ≤ 20
          rw [bytesN_len]; exact h3.2)
        rw [List.length_map, HX.out] at h2
        omega
      have hspec : Lib.join (acc.map (·.data.toList)) [44] = Lib.join (xs.map fun x => bytesN (digL x)) [44] := by
        rw [hfin, List.map_map]; rfl
      have HSP := Lib.hid hspec; clear hspec hfin
      have hjoin : Calls Try.prog 43 #[u3, .string ⟨#[44]⟩] wr fun e w' => ∃ s : ByteArray, e = .returned (.string s) ∧ SB s (Lib.join (xs.map fun x => bytesN (digL x)) [44]) ∧ s.size ≤ 21000000 ∧ Bl wr w' := by
        have hown0 := hown
        obtain ⟨h1, ⟨rfl, h2⟩ | ⟨g, cap, cur, rfl, hB, hg, hn, hm, hs, htk⟩⟩ := hown
        · refine (Try.strings_Join_none none 0 _ wr).mono ?_
          rintro e w' ⟨rfl, rfl⟩
          have e0 : acc = [] := List.eq_nil_of_length_eq_zero h2
          refine ⟨_, rfl, ?_, by decide, Bl.refl _⟩
          rw [← HSP.out, e0]; rfl
        · refine (Try.strings_Join g 0 cap acc ⟨#[44]⟩ wr ?_ (lt_of_heap hg) (by omega) (by omega) ?_).mono ?_
          · intro j x hj
            have hjl := (List.getElem?_eq_some_iff.1 hj).1
            rw [Nat.zero_add, World.ownsRow.cellAt hown0 j (by omega)]
            simp [hj]
          · exact Nat.le_trans hjl (by omega)
          · rintro e w' ⟨rfl, hb⟩
            refine ⟨_, rfl, ?_, ?_, hb⟩
            · rw [← HSP.out]; rfl
            · exact hjl
      have HJ := Lib.hid hjoin; clear hjoin
      clear hown hjl
      go_wp2_with fail
      refine HJ.out.mono ?_
      rintro e w5 ⟨s, rfl, hs, hsz, hb5⟩
      go_wp2
      go_ret
      refine ⟨_, rfl, ?_, hbl.trans hb5⟩
      rw [SB] at hs
      simp [SB, textL, hs]
end Go.Proofs.Ytpfpefapdcdkeaa
