import Derived.Test.YtibabgokmacnaaaGreatQGossipPlaysUptoP2
import Derived.Deep.QuietTactic
import Derived.BigQuiet
import Derived.Test.YtibabgokmacnaaaGreatQGossipPlaysUptoP1

/- vec.Valid, vec.Put (lines of the texts Vec1 to Vec3, without what those walk besides). By an AI agent. -/
section
namespace Go.Proofs.YtibabgokmacnaaaGreat
open Go.RowKit Go.Shelf

theorem take_nth {xs : List Int} {k : Nat} (h : k < xs.length) : xs.take (k + 1) = xs.take k ++ [nth xs k] := by
  rw [List.take_succ_eq_append_getElem h, nth_eq h]
theorem bad_any (x : Int) (w : World) : Calls Tryz.prog 71 #[.int .i64 x] w fun e w' => e = .returned (.bool (decide (x < 0 ∨ 281474976710656 ≤ x))) ∧ w = w' := by
  by_cases h0 : x < 0
  · go_enter Tryz.func71, Tryz.ntmps71
    go_wp2
    go_ret
    exact ⟨ret_bool (by simp [h0]), rfl⟩
  · by_cases h1 : 281474976710656 ≤ x
    · go_enter Tryz.func71, Tryz.ntmps71
      go_wp2
      go_ret
      exact ⟨ret_bool (by simp_all), rfl⟩
    · go_enter Tryz.func71, Tryz.ntmps71
      go_wp2
      go_ret
      exact ⟨ret_bool (by simp; omega), rfl⟩

def badT (x : Int) : Bool := decide (x < 0 ∨ 281474976710656 ≤ x)

set_option maxHeartbeats 400000 in
theorem indexBad_any (a : Option Addr) (n ca : Nat) (xs : List Int) (w : World) (hx : IA w a n xs) :
    Calls Tryz.prog 170 #[.slice a n ca, .func (.func 71) #[] #[]] w fun e w' => ∃ k : Int, e = .returned (.int .i64 k) ∧ (k ≥ 0 ↔ xs.any badT = true) ∧ w = w' := by
  have hx1 := hx.cap
  have HX := Lib.hid hx.len
  go_enter Tryz.func170, Tryz.ntmps170
  go_wp2
  go_loop [8] (fun i => ∃ k : Nat, k ≤ n ∧ i = .int .i64 k ∧ ∀ j, j < k → badT (nth xs j) = false) (fun i => n - (intOf i).toNat)
  case atStart => exact ⟨0, Nat.zero_le _, rfl, fun j h => by omega⟩
  case round =>
    obtain ⟨k, hk, rfl, hle⟩ := hrel
    have HLE := Lib.hid hle; clear hle
    by_cases hlt : k < n
    · obtain ⟨ba, oa, rfl, hca⟩ := hx.cells k hlt
      have ha := hca k hlt
      clear hca
      go_wp2_with fail
      refine (bad_any _ _).mono ?_
      rintro e w' ⟨rfl, rfl⟩
      have hbt : decide (nth xs k < 0 ∨ 281474976710656 ≤ nth xs k) = badT (nth xs k) := rfl
      cases hbad : badT (nth xs k)
      · have HB := Lib.hid hbad
        rw [hbad] at hbt
        clear hbad
        rw [hbt]
        clear hbt
        go_wp2
        go_round
        case rel => exact ⟨k + 1, by omega, by go_num, fun j hj => by
            by_cases e : j = k
            · subst e; exact HB.out
            · exact HLE.out j (by omega)⟩
        case measure => simp [intOf]; omega
      · have HB := Lib.hid hbad
        rw [hbad] at hbt
        clear hbad
        rw [hbt]
        clear hbt
        go_wp2
        go_ret
        refine ⟨(k : Int), rfl, ⟨fun _ => ?_, fun _ => by omega⟩, rfl⟩
        rw [List.any_eq_true]
        have hkx : k < xs.length := by rw [HX.out]; exact hlt
        exact ⟨nth xs k, by rw [nth_eq hkx]; exact List.getElem_mem hkx, HB.out⟩
    · go_wp2
      go_ret
      refine ⟨-1, rfl, ⟨fun h => by omega, fun h => ?_⟩, rfl⟩
      obtain ⟨x, hxm, hb⟩ := h
      obtain ⟨j, hj, rfl⟩ := List.getElem_of_mem hxm
      have := HLE.out j (by rw [HX.out] at hj; omega)
      rw [nth_eq hj, hb] at this
      cases this

theorem containsBad_any (a : Option Addr) (n ca : Nat) (xs : List Int) (w : World) (hx : IA w a n xs) :
    Calls Tryz.prog 70 #[.slice a n ca, .func (.func 71) #[] #[]] w fun e w' => e = .returned (.bool (xs.any badT)) ∧ w = w' := by
  go_enter Tryz.func70, Tryz.ntmps70
  go_wp2_with fail
  refine (indexBad_any a n ca xs _ hx).mono ?_
  rintro e w' ⟨k, rfl, hk, rfl⟩
  have HK := Lib.hid hk; clear hk
  by_cases h : k ≥ 0
  · have HA := Lib.hid (HK.out.1 h)
    go_wp2
    go_ret
    exact ⟨ret_bool (by rw [HA.out]), rfl⟩
  · have HA := Lib.hid (show xs.any badT = false by rw [Bool.eq_false_iff]; exact fun h' => h (HK.out.2 h'))
    go_wp2
    go_ret
    exact ⟨ret_bool (by rw [HA.out]; simp; omega), rfl⟩

/-- is it a vector? -/
def validL (xs : List Int) : Bool := decide (1 ≤ xs.length) && decide (xs.length ≤ 8) && !xs.any badT

theorem valid_any (a : Option Addr) (n ca : Nat) (xs : List Int) (w : World) (hx : IA w a n xs) :
    Calls Tryz.prog 22 #[.slice a n ca] w fun e w' => e = .returned (.bool (validL xs)) ∧ w = w' := by
  have hx1 := hx.cap
  have HX := Lib.hid hx.len
  by_cases h0 : 1 ≤ n
  · by_cases h1 : n ≤ 8
    · go_enter Tryz.func22, Tryz.ntmps22
      go_wp2_with fail
      refine (containsBad_any a n ca xs _ hx).mono ?_
      rintro e w' ⟨rfl, rfl⟩
      cases hb : xs.any badT
      · have HB := Lib.hid hb; clear hb
        go_wp2
        go_ret
        exact ⟨ret_bool (by simp [validL, HX.out, h0, h1, HB.out]), rfl⟩
      · have HB := Lib.hid hb; clear hb
        go_wp2
        go_ret
        exact ⟨ret_bool (by simp [validL, HX.out, HB.out]), rfl⟩
    · go_enter Tryz.func22, Tryz.ntmps22
      go_wp2
      go_ret
      exact ⟨ret_bool (by simp [validL, HX.out, h1]), rfl⟩
  · go_enter Tryz.func22, Tryz.ntmps22
    go_wp2
    go_ret
    exact ⟨ret_bool (by simp [validL, HX.out, h0]), rfl⟩
def bytesN (l : List Int) : List UInt8 := l.map fun n => UInt8.ofNat n.toNat
theorem strOfNums_list (l : List Int) : (strOfNums l).data.toList = bytesN l := rfl
theorem bytesN_append (a b : List Int) : bytesN (a ++ b) = bytesN a ++ bytesN b := by simp [bytesN]
theorem bytesN_len (a : List Int) : (bytesN a).length = a.length := by simp [bytesN]

/-! ### a builder that holds the bytes l -/
def BI (B b : Nat) (l : List UInt8) (w : World) : Prop := Lib.IsBuilder 94 5 B b (Lib.byteCells l) w
theorem BI.new (w : World) : BI w.heap.size w.heap.size [] (w.alloc (.cells #[.pointer none, .slice none 0 0] 94)) :=
  .inl ⟨Nat.le_refl _, .slice none 0 0, heap_alloc_new w _, ⟨by simp [Lib.byteCells], .inl ⟨rfl, by simp [Lib.byteCells]⟩⟩, by simp [Value.ownBlock]⟩

theorem BI.keep {B b : Nat} {l : List UInt8} {w w' : World} (h : BI B b l w) (hb : Bl w w') : BI B b l w' := by
  rcases h with ⟨h1, v, h2, h3, h4⟩ | ⟨h1, v, h2, h3, h4⟩
  · exact .inl ⟨h1, v, hb.heap h2, ownsRow_bl h3 hb, h4⟩
  · exact .inr ⟨h1, v, hb.heap h2, ownsRow_bl h3 hb, h4⟩

theorem bi_writeByte (B b : Nat) (l : List UInt8) (c : Nat) (w : World) (h : BI B b l w) (hc : c < 256) (hlen : l.length + 1 ≤ 140737488355328) (hBw : B ≤ w.heap.size) :
    Calls Tryz.prog 64 #[.pointer (some ⟨b, 0, none⟩), .int .u8 c] w fun e w' => e = .returned .nilIface ∧ BI B b (l ++ [UInt8.ofNat c]) w' ∧ Below B w w' := by
  refine (writeByte_any B b _ c w h (by simpa [Lib.byteCells] using hlen) hBw).mono ?_
  rintro e w' ⟨he, h1, hb⟩
  refine ⟨he, .inr ?_, hb⟩
  have e : Lib.byteCells (l ++ [UInt8.ofNat c]) = Lib.byteCells l ++ [Value.int .u8 c] := by
    simp [Lib.byteCells]; omega
  rw [e]; exact h1
theorem bi_writeString (B b : Nat) (l : List UInt8) (s : ByteArray) (m : List UInt8) (hs : s.data.toList = m) (w : World) (h : BI B b l w) (hlen : l.length + m.length ≤ 140737488355328) (hBw : B ≤ w.heap.size) :
    Calls Tryz.prog 66 #[.pointer (some ⟨b, 0, none⟩), .string s] w fun e w' => e = .returned (.tuple #[.int .i64 s.size, .nilIface]) ∧ BI B b (l ++ m) w' ∧ Below B w w' := by
  have hz : s.size = m.length := by rw [← hs]; simp
  refine (writeString_any B b _ s w h (by rw [hz]; simpa [Lib.byteCells] using hlen) hBw).mono ?_
  rintro e w' ⟨he, h1, hb⟩
  refine ⟨he, .inr ?_, hb⟩
  have e : Lib.byteCells (l ++ m) = Lib.byteCells l ++ Lib.strCells s := by
    simp [Lib.byteCells, Lib.strCells, hs]
  rw [e]; exact h1

/-! ### vec.Put -/
def putBodyL (xs : List Int) : List UInt8 := xs.flatMap fun x => bytesN (putN x 6 6)
def putL (xs : List Int) : List UInt8 := UInt8.ofNat xs.length :: putBodyL xs
theorem putBodyL_snoc (xs : List Int) (x : Int) : putBodyL (xs ++ [x]) = putBodyL xs ++ bytesN (putN x 6 6) := by simp [putBodyL]
theorem putBodyL_len (xs : List Int) : (putBodyL xs).length = 6 * xs.length := by
  induction xs with
  | nil => rfl
  | cons x xs ih =>
    have : putBodyL (x :: xs) = bytesN (putN x 6 6) ++ putBodyL xs := by simp [putBodyL]
    rw [this, List.length_append, ih, bytesN_len, putN_len]; simp; omega

theorem putL_len (xs : List Int) : (putL xs).length = 1 + 6 * xs.length := by
  show (_ :: putBodyL xs).length = _
  rw [List.length_cons, putBodyL_len]; omega
theorem valid_parts {xs : List Int} (h : validL xs = true) : 1 ≤ xs.length ∧ xs.length ≤ 8 ∧ ∀ j, j < xs.length → 0 ≤ nth xs j ∧ nth xs j < 281474976710656 := by
  simp only [validL, Bool.and_eq_true, decide_eq_true_eq, Bool.not_eq_true'] at h
  obtain ⟨⟨h1, h2⟩, h3⟩ := h
  refine ⟨h1, h2, fun j hj => ?_⟩
  have h4 : badT (nth xs j) = false := by
    cases hb : badT (nth xs j)
    · rfl
    · have : xs.any badT = true := List.any_eq_true.2 ⟨nth xs j, by rw [nth_eq hj]; exact List.getElem_mem hj, hb⟩
      rw [h3] at this; cases this
  simp [badT] at h4; omega

set_option maxHeartbeats 800000 in
set_option maxRecDepth 100000 in
theorem vput_yes (a : Option Addr) (n ca : Nat) (xs : List Int) (w : World) (hx : IA w a n xs) (hv : validL xs = true) :
    Calls Tryz.prog 15 #[.slice a n ca] w fun e w' => e = .returned (.tuple #[.string ⟨(putL xs).toArray⟩, .int .i64 0]) ∧ Bl w w' := by
  have hpt := valid_parts hv
  have h1 : 1 ≤ n := by rw [← hx.len]; exact hpt.1
  have h8 : n ≤ 8 := by rw [← hx.len]; exact hpt.2.1
  have HP := Lib.hid hpt.2.2; clear hpt
  have HX := Lib.hid hx.len
  have HV := Lib.hid hv; clear hv
  have hw8 : IntKind.u8.wrap (n : Int) = n := by rw [IntKind.wrap_u8]; omega
  go_enter Tryz.func15, Tryz.ntmps15
  go_wp2_with fail
  refine (valid_any a n ca xs _ hx).mono ?_
  rintro e w' ⟨rfl, rfl⟩
  rw [HV.out]
  have hnew := BI.new w
  have hbl := (Bl.refl w).alloc (.cells #[.pointer none, .slice none 0 0] 94)
  go_wp2_with fail
  refine (bi_writeByte w.heap.size w.heap.size [] n _ hnew (by omega) (by simp) (by simp)).mono ?_
  rintro e w1 ⟨rfl, hb1, hbl1⟩
  have hbl2 := Below.trans hbl hbl1
  clear hnew hbl hbl1
  go_wp2
  go_loopw [18] (fun i wr => ∃ (k : Nat) (l : List UInt8), k ≤ n ∧ i = .int .i64 k ∧ BI w.heap.size w.heap.size l wr ∧ Bl w wr ∧ l = UInt8.ofNat n :: putBodyL (xs.take k)) (fun i _ => n - (intOf i).toNat)
  case atStart => exact ⟨0, _, Nat.zero_le _, rfl, hb1, hbl2, rfl⟩
  case round =>
    clear hb1 hbl2
    obtain ⟨k, l, hk, rfl, hb, hbl, hl⟩ := hrel
    have hll : l.length ≤ 49 := by rw [hl, List.length_cons, putBodyL_len, List.length_take]; omega
    have HL := Lib.hid hl; clear hl
    by_cases hlt : k < n
    · obtain ⟨ba, oa, rfl, hca⟩ := hx.cells k hlt
      have ha := hbl.cell (hca k hlt)
      clear hca
      have hpk := HP.out k (by rw [HX.out]; exact hlt)
      go_wp2_with fail
      refine (put_any (nth xs k) 6 _ hpk.1 (by omega) (by omega) (by omega)).mono ?_
      rintro e w2 ⟨rfl, hbl2⟩
      have hb2 := hb.keep hbl2
      have hbl4 := hbl.trans hbl2
      go_wp2_with fail
      refine (bi_writeString w.heap.size w.heap.size l _ _ (strOfNums_list _) _ hb2 (by rw [bytesN_len, putN_len]; omega) hbl4.size).mono ?_
      rintro e w3 ⟨rfl, hb3, hbl3⟩
      go_wp2
      go_roundw
      case rel => exact ⟨k + 1, _, by omega, by go_num, hb3, Below.trans hbl4 hbl3, by rw [HL.out, take_nth (by rw [HX.out]; exact hlt), putBodyL_snoc]; rfl⟩
      case measure => simp [intOf]; omega
    · have hfin : l = putL xs := by
        rw [HL.out, putL, HX.out, List.take_of_length_le (by rw [HX.out]; omega)]
      have HF := Lib.hid hfin; clear hfin
      go_wp2_with fail
      refine (Tryz.Builder_String_any w.heap.size w.heap.size l _ hb hbl.size).mono ?_
      rintro e w4 ⟨rfl, hb4⟩
      go_wp2
      go_ret2
      exact ⟨congrArg (fun l : List UInt8 => Ending.returned (.tuple #[.string ⟨l.toArray⟩, .int .i64 0])) HF.out, Below.trans hbl hb4⟩

set_option maxRecDepth 100000 in
theorem vput_no (a : Option Addr) (n ca : Nat) (xs : List Int) (w : World) (hx : IA w a n xs) (hv : validL xs = false) :
    Calls Tryz.prog 15 #[.slice a n ca] w fun e w' => e = .returned (.tuple #[.string ⟨#[]⟩, .int .i64 1]) ∧ w = w' := by
  have HV := Lib.hid hv; clear hv
  go_enter Tryz.func15, Tryz.ntmps15
  go_wp2_with fail
  refine (valid_any a n ca xs _ hx).mono ?_
  rintro e w' ⟨rfl, rfl⟩
  rw [HV.out]
  go_wp2
  go_ret2
  exact ⟨rfl, rfl⟩

end Go.Proofs.YtibabgokmacnaaaGreat
end

/- what 'each' tells, plain. By an AI agent. -/
section
set_option linter.unusedVariables false
set_option linter.unusedSimpArgs false
namespace Go.Proofs.YtibabgokmacnaaaGreat
open Go.RowKit

theorem zip_take {t : Int → Int → Int} {xs ys : List Int} (h : xs.length = ys.length) {k : Nat} (hk : k < xs.length) :
    (List.zipWith t xs ys).take (k + 1) = (List.zipWith t xs ys).take k ++ [t (nth xs k) (nth ys k)] := by
  have h' : k < (List.zipWith t xs ys).length := by simp; omega
  rw [List.take_succ_eq_append_getElem h', List.getElem_zipWith, nth_eq hk, nth_eq (by omega : k < ys.length)]
theorem zip_wf {t : Int → Int → Int} (ht : ∀ x y, t x y = x ∨ t x y = y) {P : Int → Prop} {xs ys : List Int} (hx : ∀ x ∈ xs, P x) (hy : ∀ x ∈ ys, P x) : ∀ x ∈ List.zipWith t xs ys, P x := by
  induction xs generalizing ys with
  | nil => simp
  | cons x xs ih =>
    cases ys with
    | nil => simp
    | cons y ys =>
      intro z hz
      simp only [List.zipWith_cons_cons, List.mem_cons] at hz
      rcases hz with rfl | hz
      · rcases ht x y with e | e <;> rw [e]
        · exact hx x (by simp)
        · exact hy y (by simp)
      · exact ih (fun a ha => hx a (by simp [ha])) (fun a ha => hy a (by simp [ha])) z hz
/-- what 'each' tells -/
def eachL (t : Int → Int → Int) (xs ys : List Int) : List Int := if xs.length = ys.length then List.zipWith t xs ys else []
def joinL : List Int → List Int → List Int := eachL max
def meetL : List Int → List Int → List Int := eachL min
end Go.Proofs.YtibabgokmacnaaaGreat
end
