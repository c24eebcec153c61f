import Derived.Test.YtfmabjoindlfeaaGreatQTxnTellsUptoP1
import Derived.Deep.QuietTactic
import Derived.BigQuiet
import Derived.Below
import Derived.Test.YtfmabjoindlfeaaGreatShelf
import Derived.Lib.Strings
import Derived.Lib.Slices
import Derived.Lib.Builder
import Derived.Lib.AppendStr
import Derived.Lib.UnsafeStr
import Derived.Lib.MakeNoZero
import Derived.Laws.Externs
import Derived.Test.YtfmabjoindlfeaaGreatQTxnTellsUptoP16

/- vec.Valid (lines of the text Vec2). By an AI agent. -/
section
set_option linter.unusedVariables false
namespace Go.Proofs.YtfmabjoindlfeaaGreat
open Go.RowKit

theorem take_nth {xs : List Int} {k : Nat} (h : k < xs.length) : xs.take (k + 1) = xs.take k ++ [nth xs k] := by
  rw [List.take_succ_eq_append_getElem h, nth_eq h]
theorem bad_any (x : Int) (w : World) : Calls Tryz.prog 123 #[.int .i64 x] w fun e w' => e = .returned (.bool (decide (x < 0 ∨ 281474976710656 ≤ x))) ∧ w = w' := by
  by_cases h0 : x < 0
  · go_enter Tryz.func123, Tryz.ntmps123
    go_wp2
    go_ret
    exact ⟨ret_bool (by simp [h0]), rfl⟩
  · by_cases h1 : 281474976710656 ≤ x
    · go_enter Tryz.func123, Tryz.ntmps123
      go_wp2
      go_ret
      exact ⟨ret_bool (by simp_all), rfl⟩
    · go_enter Tryz.func123, Tryz.ntmps123
      go_wp2
      go_ret
      exact ⟨ret_bool (by simp; omega), rfl⟩

def badT (x : Int) : Bool := decide (x < 0 ∨ 281474976710656 ≤ x)

set_option maxHeartbeats 400000 in
theorem indexBad_any (a : Option Addr) (n ca : Nat) (xs : List Int) (w : World) (hx : IA w a n xs) :
    Calls Tryz.prog 177 #[.slice a n ca, .func (.func 123) #[] #[]] w fun e w' => ∃ k : Int, e = .returned (.int .i64 k) ∧ (k ≥ 0 ↔ xs.any badT = true) ∧ w = w' := by
  have hx1 := hx.cap
  have HX := Lib.hid hx.len
  go_enter Tryz.func177, Tryz.ntmps177
  go_wp2
  go_loop [8] (fun i => ∃ k : Nat, k ≤ n ∧ i = .int .i64 k ∧ ∀ j, j < k → badT (nth xs j) = false) (fun i => n - (intOf i).toNat)
  case atStart => exact ⟨0, Nat.zero_le _, rfl, fun j h => by omega⟩
  case round =>
    obtain ⟨k, hk, rfl, hle⟩ := hrel
    have HLE := Lib.hid hle; clear hle
    by_cases hlt : k < n
    · obtain ⟨ba, oa, rfl, hca⟩ := hx.cells k hlt
      have ha := hca k hlt
      clear hca
      go_wp2_with fail
      refine (bad_any _ _).mono ?_
      rintro e w' ⟨rfl, rfl⟩
      have hbt : decide (nth xs k < 0 ∨ 281474976710656 ≤ nth xs k) = badT (nth xs k) := rfl
      cases hbad : badT (nth xs k)
      · have HB := Lib.hid hbad
        rw [hbad] at hbt
        clear hbad
        rw [hbt]
        clear hbt
        go_wp2
        go_round
        case rel => exact ⟨k + 1, by omega, by go_num, fun j hj => by
            by_cases e : j = k
            · subst e; exact HB.out
            · exact HLE.out j (by omega)⟩
        case measure => simp [intOf]; omega
      · have HB := Lib.hid hbad
        rw [hbad] at hbt
        clear hbad
        rw [hbt]
        clear hbt
        go_wp2
        go_ret
        refine ⟨(k : Int), rfl, ⟨fun _ => ?_, fun _ => by omega⟩, rfl⟩
        rw [List.any_eq_true]
        have hkx : k < xs.length := by rw [HX.out]; exact hlt
        exact ⟨nth xs k, by rw [nth_eq hkx]; exact List.getElem_mem hkx, HB.out⟩
    · go_wp2
      go_ret
      refine ⟨-1, rfl, ⟨fun h => by omega, fun h => ?_⟩, rfl⟩
      obtain ⟨x, hxm, hb⟩ := h
      obtain ⟨j, hj, rfl⟩ := List.getElem_of_mem hxm
      have := HLE.out j (by rw [HX.out] at hj; omega)
      rw [nth_eq hj, hb] at this
      cases this

theorem containsBad_any (a : Option Addr) (n ca : Nat) (xs : List Int) (w : World) (hx : IA w a n xs) :
    Calls Tryz.prog 122 #[.slice a n ca, .func (.func 123) #[] #[]] w fun e w' => e = .returned (.bool (xs.any badT)) ∧ w = w' := by
  go_enter Tryz.func122, Tryz.ntmps122
  go_wp2_with fail
  refine (indexBad_any a n ca xs _ hx).mono ?_
  rintro e w' ⟨k, rfl, hk, rfl⟩
  have HK := Lib.hid hk; clear hk
  by_cases h : k ≥ 0
  · have HA := Lib.hid (HK.out.1 h)
    go_wp2
    go_ret
    exact ⟨ret_bool (by rw [HA.out]), rfl⟩
  · have HA := Lib.hid (show xs.any badT = false by rw [Bool.eq_false_iff]; exact fun h' => h (HK.out.2 h'))
    go_wp2
    go_ret
    exact ⟨ret_bool (by rw [HA.out]; simp; omega), rfl⟩

/-- is it a vector? -/
def validL (xs : List Int) : Bool := decide (1 ≤ xs.length) && decide (xs.length ≤ 8) && !xs.any badT

theorem valid_any (a : Option Addr) (n ca : Nat) (xs : List Int) (w : World) (hx : IA w a n xs) :
    Calls Tryz.prog 33 #[.slice a n ca] w fun e w' => e = .returned (.bool (validL xs)) ∧ w = w' := by
  have hx1 := hx.cap
  have HX := Lib.hid hx.len
  by_cases h0 : 1 ≤ n
  · by_cases h1 : n ≤ 8
    · go_enter Tryz.func33, Tryz.ntmps33
      go_wp2_with fail
      refine (containsBad_any a n ca xs _ hx).mono ?_
      rintro e w' ⟨rfl, rfl⟩
      cases hb : xs.any badT
      · have HB := Lib.hid hb; clear hb
        go_wp2
        go_ret
        exact ⟨ret_bool (by simp [validL, HX.out, h0, h1, HB.out]), rfl⟩
      · have HB := Lib.hid hb; clear hb
        go_wp2
        go_ret
        exact ⟨ret_bool (by simp [validL, HX.out, HB.out]), rfl⟩
    · go_enter Tryz.func33, Tryz.ntmps33
      go_wp2
      go_ret
      exact ⟨ret_bool (by simp [validL, HX.out, h1]), rfl⟩
  · go_enter Tryz.func33, Tryz.ntmps33
    go_wp2
    go_ret
    exact ⟨ret_bool (by simp [validL, HX.out, h0]), rfl⟩
theorem valid_parts {xs : List Int} (h : validL xs = true) : 1 ≤ xs.length ∧ xs.length ≤ 8 ∧ ∀ j, j < xs.length → 0 ≤ nth xs j ∧ nth xs j < 281474976710656 := by
  simp only [validL, Bool.and_eq_true, decide_eq_true_eq, Bool.not_eq_true'] at h
  obtain ⟨⟨h1, h2⟩, h3⟩ := h
  refine ⟨h1, h2, fun j hj => ?_⟩
  have h4 : badT (nth xs j) = false := by
    cases hb : badT (nth xs j)
    · rfl
    · have : xs.any badT = true := List.any_eq_true.2 ⟨nth xs j, by rw [nth_eq hj]; exact List.getElem_mem hj, hb⟩
      rw [h3] at this; cases this
  simp [badT] at h4; omega
end Go.Proofs.YtfmabjoindlfeaaGreat
end

/- strings.Builder: WriteByte, WriteString, String at this dump. (The shelf's own walks over any program do not lie at this dump's copyCheck, of which one way is refused by the loader; so they are walked here.) By an AI agent. -/
section
namespace Go.Proofs.YtfmabjoindlfeaaGreat
open Go.RowKit Go.Shelf

theorem sizeBuilder : (Tryz.prog.info? 76).map (·.size) = some 2 := by kernel_rfl
theorem liesBuilder : liesAt Tryz.prog Tryz.prog.depth 76 (2 / Tryz.prog.cellsOf 76) 0 76 1 = true := by kernel_rfl

set_option maxHeartbeats 1000000 in
set_option maxRecDepth 100000 in
theorem copyCheck_used (b : Nat) (w : World) (h0 : w.cell? ⟨b, 0, none⟩ = some (.pointer (some ⟨b, 0, none⟩))) :
    Calls Tryz.prog 119 #[.pointer (some ⟨b, 0, none⟩)] w fun e w' => e = .returned (.tuple #[]) ∧ w' = w := by
  obtain ⟨j, hj, _⟩ := Option.map_eq_some_iff.1 sizeBuilder
  go_enter Tryz.func119, Tryz.ntmps119
  go_wp2
  rw [Lib.run_neq_ptr_same w _ Tryz.underlying73 hj]
  go_wp2
  go_end0
  exact ⟨rfl, rfl⟩

set_option maxHeartbeats 1000000 in
set_option maxRecDepth 100000 in
theorem copyCheck_fresh (b : Nat) (w : World) (h0 : w.cell? ⟨b, 0, none⟩ = some (.pointer none)) (hsh : w.shape? b = some (76, 2)) (hfz : w.frozen? ⟨b, 0, none⟩ = false) :
    Calls Tryz.prog 119 #[.pointer (some ⟨b, 0, none⟩)] w fun e w' => e = .returned (.tuple #[]) ∧ w' = w.setCell ⟨b, 0, none⟩ (.pointer (some ⟨b, 0, none⟩)) := by
  obtain ⟨j, hj, hjs⟩ := Option.map_eq_some_iff.1 sizeBuilder
  go_enter Tryz.func119, Tryz.ntmps119
  go_wp2
  rw [Lib.run_to_unsafe w ⟨b, 0, none⟩ Tryz.underlying73 Tryz.underlying211 hj (by rw [hjs]; decide) hsh (Nat.zero_lt_succ 1)]
  simp only [Result.andThen]
  rw [Oper.upon_value]
  go_wp2
  rw [run_callFunc_extern Tryz.func174 (by kernel_rfl) (by kernel_rfl) (by kernel_rfl) (e := Extern.AbiNoEscape.same) (by kernel_rfl)]
  rw [Lib.run_noEscape]
  simp only [Result.andThen]
  rw [Oper.upon_value]
  go_wp2
  rw [Lib.run_from_unsafe w ⟨b, 0, none⟩ Tryz.underlying211 Tryz.underlying73 hj hsh liesBuilder]
  simp only [Result.andThen]
  rw [Oper.upon_value]
  go_wp2
  go_end0
  exact ⟨rfl, rfl⟩

theorem copyCheck_any (B b : Nat) (bs : List Value) (w : World) (h : Lib.IsBuilder 76 5 B b bs w) :
    Calls Tryz.prog 119 #[.pointer (some ⟨b, 0, none⟩)] w fun e w' => e = .returned (.tuple #[]) ∧ (Lib.BuilderAt 76 5 B b (.pointer (some ⟨b, 0, none⟩)) bs w' ∧ Below B w w') := by
  rcases h with h | h
  · refine (copyCheck_fresh b w h.cell0 h.shape h.frozen0).mono ?_
    rintro e w' ⟨rfl, rfl⟩
    exact ⟨rfl, h.used _, (Below.refl B w).setCell (p := ⟨b, 0, none⟩) h.1 _⟩
  · refine (copyCheck_used b w h.cell0).mono ?_
    rintro e w' ⟨rfl, rfl⟩
    exact ⟨rfl, h, Below.refl B _⟩

set_option maxHeartbeats 2000000 in
set_option maxRecDepth 100000 in
theorem writeByte_any (B b : Nat) (bs : List Value) (c : Int) (w : World) (h : Lib.IsBuilder 76 5 B b bs w) (hlen : bs.length + 1 ≤ 140737488355328) (hBw : B ≤ w.heap.size) :
    Calls Tryz.prog 117 #[.pointer (some ⟨b, 0, none⟩), .int .u8 c] w fun e w' => e = .returned .nilIface ∧ (Lib.BuilderAt 76 5 B b (.pointer (some ⟨b, 0, none⟩)) (bs ++ [.int .u8 c]) w' ∧ Below B w w') := by
  obtain ⟨i0, hi, hz0, hz1, hz2⟩ := info_parts info_byte
  go_enter Tryz.func117, Tryz.ntmps117
  go_wp2_with fail
  refine (copyCheck_any B b bs _ h).mono ?_
  rintro e w1 ⟨rfl, h1, hb1⟩
  obtain ⟨hB, v, hbk, hown, hne⟩ := h1
  have c0 : w1.cell? ⟨b, 0, none⟩ = some (.pointer (some ⟨b, 0, none⟩)) := by rw [Lib.cell_of_heap hbk]; rfl
  have c1 : w1.cell? ⟨b, 1, none⟩ = some v := by rw [Lib.cell_of_heap hbk]; rfl
  go_wp2_with (at_builtin; refine wpList_append_own _ rfl _ _ 74 rfl B 5 i0 (.int .u8 0) 1 1 Tryz.underlying74 hi hz0 hz1 hz2 rfl (by decide) _ _ _ rfl (hown.alloc _) ⟨w1.heap.size, 0, none⟩ 1 1 [.int .u8 c] rfl rfl ?c1 ?c2 ?c3 ?c4 ?c5 ?_)
  case c1 =>
    intro j u hj
    match j, hj with
    | 0, hj => simp at hj; subst hj; simp [Addr.add]
  case c2 => intro u hu; simp at hu; subst hu; rfl
  case c3 => unfold maxLen; omega
  case c4 => omega
  case c5 => have := hb1.size; simp; omega
  intro v' w2 hown' hgrow _
  have hlt : b < w1.heap.size := by
    rcases Nat.lt_or_ge b w1.heap.size with h' | h'
    · exact h'
    · simp [Array.getElem?_eq_none h'] at hbk
  have hb2 : w2.heap[b]? = some (.cells #[.pointer (some ⟨b, 0, none⟩), v] 76 (0, 0)) := by
    rw [hgrow.block b (by simp; omega) (fun e => hne e.symm), Lib.alloc_old w1 _ b hlt]
    exact hbk
  have d0 : w2.cell? ⟨b, 0, none⟩ = some (.pointer (some ⟨b, 0, none⟩)) := by rw [Lib.cell_of_heap hb2]; rfl
  have d1 : w2.cell? ⟨b, 1, none⟩ = some v := by rw [Lib.cell_of_heap hb2]; rfl
  have f1 : w2.frozen? ⟨b, 1, none⟩ = false := Lib.frozen_of_heap hb2 1
  obtain ⟨g, cap, rfl⟩ : ∃ g cap, v' = .slice (some ⟨g, 0, none⟩) (bs.length + 1) cap := by
    rcases hown'.2 with ⟨_, h0⟩ | ⟨g, cap, cur, hv, _⟩
    · omega
    · exact ⟨g, cap, hv⟩
  go_wp2
  go_ret
  refine ⟨rfl, ?_, ?_⟩
  · exact Lib.BuilderAt.put (T := 76) (e := 5) hB hb2 (bs' := bs ++ [.int .u8 c]) (by simpa using hown') (by decide)
  · exact ((hb1.alloc (by have := hb1.size; omega) _).grown hgrow (by have := hb1.size; simp; omega) (fun k hk => (hown.lt k hk).1)).setCell (p := ⟨b, 1, none⟩) hB _

set_option maxHeartbeats 2000000 in
set_option maxRecDepth 100000 in
theorem writeString_any (B b : Nat) (bs : List Value) (s : ByteArray) (w : World) (h : Lib.IsBuilder 76 5 B b bs w) (hlen : bs.length + s.size ≤ 140737488355328) (hBw : B ≤ w.heap.size) :
    Calls Tryz.prog 27 #[.pointer (some ⟨b, 0, none⟩), .string s] w fun e w' => e = .returned (.tuple #[.int .i64 s.size, .nilIface]) ∧ (Lib.BuilderAt 76 5 B b (.pointer (some ⟨b, 0, none⟩)) (bs ++ Lib.strCells s) w' ∧ Below B w w') := by
  obtain ⟨i0, hi, hz0, hz1, hz2⟩ := info_parts info_byte
  go_enter Tryz.func27, Tryz.ntmps27
  go_wp2_with fail
  refine (copyCheck_any B b bs _ h).mono ?_
  rintro e w1 ⟨rfl, h1, hb1⟩
  obtain ⟨hB, v, hbk, hown, hne⟩ := h1
  have c0 : w1.cell? ⟨b, 0, none⟩ = some (.pointer (some ⟨b, 0, none⟩)) := by rw [Lib.cell_of_heap hbk]; rfl
  have c1 : w1.cell? ⟨b, 1, none⟩ = some v := by rw [Lib.cell_of_heap hbk]; rfl
  go_wp2_with (at_builtin; refine Lib.wpList_append_own_string _ rfl _ _ 74 9 rfl B 5 i0 Tryz.underlying74 Tryz.underlying9 hi hz0 hz1 hz2 _ _ _ rfl hown s rfl ?c3 ?c4 ?c5 ?_)
  case c3 => unfold maxLen; omega
  case c4 => omega
  case c5 => have := hb1.size; omega
  intro v' w2 hown' hgrow _
  have hlt : b < w1.heap.size := by
    rcases Nat.lt_or_ge b w1.heap.size with h' | h'
    · exact h'
    · simp [Array.getElem?_eq_none h'] at hbk
  have hb2 : w2.heap[b]? = some (.cells #[.pointer (some ⟨b, 0, none⟩), v] 76 (0, 0)) := by
    rw [hgrow.block b hlt (fun e => hne e.symm)]
    exact hbk
  have d0 : w2.cell? ⟨b, 0, none⟩ = some (.pointer (some ⟨b, 0, none⟩)) := by rw [Lib.cell_of_heap hb2]; rfl
  have d1 : w2.cell? ⟨b, 1, none⟩ = some v := by rw [Lib.cell_of_heap hb2]; rfl
  have f1 : w2.frozen? ⟨b, 1, none⟩ = false := Lib.frozen_of_heap hb2 1
  obtain ⟨ao, n', cap, rfl⟩ : ∃ ao n' cap, v' = .slice ao n' cap := by
    rcases hown'.2 with ⟨hv, _⟩ | ⟨g, cap, cur, hv, _⟩
    · exact ⟨_, _, _, hv⟩
    · exact ⟨_, _, _, hv⟩
  go_wp2
  go_ret2
  refine ⟨rfl, ?_, ?_⟩
  · exact Lib.BuilderAt.put (T := 76) (e := 5) hB hb2 (bs' := bs ++ Lib.strCells s) (by simpa [Lib.strCells_length] using hown') (by decide)
  · exact (hb1.grown hgrow (by have := hb1.size; omega) (fun k hk => (hown.lt k hk).1)).setCell (p := ⟨b, 1, none⟩) hB _
end Go.Proofs.YtfmabjoindlfeaaGreat
end

/- vec.Valid, vec.Put (lines of the texts Vec1 to Vec3, without what those walk besides). By an AI agent. -/
section
namespace Go.Proofs.YtfmabjoindlfeaaGreat
open Go.RowKit Go.Shelf

def bytesN (l : List Int) : List UInt8 := l.map fun n => UInt8.ofNat n.toNat
theorem strOfNums_list (l : List Int) : (strOfNums l).data.toList = bytesN l := rfl
theorem bytesN_append (a b : List Int) : bytesN (a ++ b) = bytesN a ++ bytesN b := by simp [bytesN]
theorem bytesN_len (a : List Int) : (bytesN a).length = a.length := by simp [bytesN]

/-! ### a builder that holds the bytes l -/
def BI (B b : Nat) (l : List UInt8) (w : World) : Prop := Lib.IsBuilder 76 5 B b (Lib.byteCells l) w
theorem BI.new (w : World) : BI w.heap.size w.heap.size [] (w.alloc (.cells #[.pointer none, .slice none 0 0] 76)) :=
  .inl ⟨Nat.le_refl _, .slice none 0 0, heap_alloc_new w _, ⟨by simp [Lib.byteCells], .inl ⟨rfl, by simp [Lib.byteCells]⟩⟩, by simp [Value.ownBlock]⟩

theorem BI.keep {B b : Nat} {l : List UInt8} {w w' : World} (h : BI B b l w) (hb : Bl w w') : BI B b l w' := by
  rcases h with ⟨h1, v, h2, h3, h4⟩ | ⟨h1, v, h2, h3, h4⟩
  · exact .inl ⟨h1, v, hb.heap h2, ownsRow_bl h3 hb, h4⟩
  · exact .inr ⟨h1, v, hb.heap h2, ownsRow_bl h3 hb, h4⟩

theorem bi_writeByte (B b : Nat) (l : List UInt8) (c : Nat) (w : World) (h : BI B b l w) (hc : c < 256) (hlen : l.length + 1 ≤ 140737488355328) (hBw : B ≤ w.heap.size) :
    Calls Tryz.prog 117 #[.pointer (some ⟨b, 0, none⟩), .int .u8 c] w fun e w' => e = .returned .nilIface ∧ BI B b (l ++ [UInt8.ofNat c]) w' ∧ Below B w w' := by
  refine (writeByte_any B b _ c w h (by simpa [Lib.byteCells] using hlen) hBw).mono ?_
  rintro e w' ⟨he, h1, hb⟩
  refine ⟨he, .inr ?_, hb⟩
  have e : Lib.byteCells (l ++ [UInt8.ofNat c]) = Lib.byteCells l ++ [Value.int .u8 c] := by
    simp [Lib.byteCells]; omega
  rw [e]; exact h1
theorem bi_writeString (B b : Nat) (l : List UInt8) (s : ByteArray) (m : List UInt8) (hs : s.data.toList = m) (w : World) (h : BI B b l w) (hlen : l.length + m.length ≤ 140737488355328) (hBw : B ≤ w.heap.size) :
    Calls Tryz.prog 27 #[.pointer (some ⟨b, 0, none⟩), .string s] w fun e w' => e = .returned (.tuple #[.int .i64 s.size, .nilIface]) ∧ BI B b (l ++ m) w' ∧ Below B w w' := by
  have hz : s.size = m.length := by rw [← hs]; simp
  refine (writeString_any B b _ s w h (by rw [hz]; simpa [Lib.byteCells] using hlen) hBw).mono ?_
  rintro e w' ⟨he, h1, hb⟩
  refine ⟨he, .inr ?_, hb⟩
  have e : Lib.byteCells (l ++ m) = Lib.byteCells l ++ Lib.strCells s := by
    simp [Lib.byteCells, Lib.strCells, hs]
  rw [e]; exact h1

/-! ### vec.Put -/
def putBodyL (xs : List Int) : List UInt8 := xs.flatMap fun x => bytesN (putN x 6 6)
def putL (xs : List Int) : List UInt8 := UInt8.ofNat xs.length :: putBodyL xs
theorem putBodyL_snoc (xs : List Int) (x : Int) : putBodyL (xs ++ [x]) = putBodyL xs ++ bytesN (putN x 6 6) := by simp [putBodyL]
theorem putBodyL_len (xs : List Int) : (putBodyL xs).length = 6 * xs.length := by
  induction xs with
  | nil => rfl
  | cons x xs ih =>
    have : putBodyL (x :: xs) = bytesN (putN x 6 6) ++ putBodyL xs := by simp [putBodyL]
    rw [this, List.length_append, ih, bytesN_len, putN_len]; simp; omega

theorem putL_len (xs : List Int) : (putL xs).length = 1 + 6 * xs.length := by
  show (_ :: putBodyL xs).length = _
  rw [List.length_cons, putBodyL_len]; omega
set_option maxHeartbeats 800000 in
set_option maxRecDepth 100000 in
theorem vput_yes (a : Option Addr) (n ca : Nat) (xs : List Int) (w : World) (hx : IA w a n xs) (hv : validL xs = true) :
    Calls Tryz.prog 26 #[.slice a n ca] w fun e w' => e = .returned (.tuple #[.string ⟨(putL xs).toArray⟩, .int .i64 0]) ∧ Bl w w' := by
  have hpt := valid_parts hv
  have h1 : 1 ≤ n := by rw [← hx.len]; exact hpt.1
  have h8 : n ≤ 8 := by rw [← hx.len]; exact hpt.2.1
  have HP := Lib.hid hpt.2.2; clear hpt
  have HX := Lib.hid hx.len
  have HV := Lib.hid hv; clear hv
  have hw8 : IntKind.u8.wrap (n : Int) = n := by rw [IntKind.wrap_u8]; omega
  go_enter Tryz.func26, Tryz.ntmps26
  go_wp2_with fail
  refine (valid_any a n ca xs _ hx).mono ?_
  rintro e w' ⟨rfl, rfl⟩
  rw [HV.out]
  have hnew := BI.new w
  have hbl := (Bl.refl w).alloc (.cells #[.pointer none, .slice none 0 0] 76)
  go_wp2_with fail
  refine (bi_writeByte w.heap.size w.heap.size [] n _ hnew (by omega) (by simp) (by simp)).mono ?_
  rintro e w1 ⟨rfl, hb1, hbl1⟩
  have hbl2 := Below.trans hbl hbl1
  clear hnew hbl hbl1
  go_wp2
  go_loopw [18] (fun i wr => ∃ (k : Nat) (l : List UInt8), k ≤ n ∧ i = .int .i64 k ∧ BI w.heap.size w.heap.size l wr ∧ Bl w wr ∧ l = UInt8.ofNat n :: putBodyL (xs.take k)) (fun i _ => n - (intOf i).toNat)
  case atStart => exact ⟨0, _, Nat.zero_le _, rfl, hb1, hbl2, rfl⟩
  case round =>
    clear hb1 hbl2
    obtain ⟨k, l, hk, rfl, hb, hbl, hl⟩ := hrel
    have hll : l.length ≤ 49 := by rw [hl, List.length_cons, putBodyL_len, List.length_take]; omega
    have HL := Lib.hid hl; clear hl
    by_cases hlt : k < n
    · obtain ⟨ba, oa, rfl, hca⟩ := hx.cells k hlt
      have ha := hbl.cell (hca k hlt)
      clear hca
      have hpk := HP.out k (by rw [HX.out]; exact hlt)
      go_wp2_with fail
      refine (put_any (nth xs k) 6 _ hpk.1 (by omega) (by omega) (by omega)).mono ?_
      rintro e w2 ⟨rfl, hbl2⟩
      have hb2 := hb.keep hbl2
      have hbl4 := hbl.trans hbl2
      go_wp2_with fail
      refine (bi_writeString w.heap.size w.heap.size l _ _ (strOfNums_list _) _ hb2 (by rw [bytesN_len, putN_len]; omega) hbl4.size).mono ?_
      rintro e w3 ⟨rfl, hb3, hbl3⟩
      go_wp2
      go_roundw
      case rel => exact ⟨k + 1, _, by omega, by go_num, hb3, Below.trans hbl4 hbl3, by rw [HL.out, take_nth (by rw [HX.out]; exact hlt), putBodyL_snoc]; rfl⟩
      case measure => simp [intOf]; omega
    · have hfin : l = putL xs := by
        rw [HL.out, putL, HX.out, List.take_of_length_le (by rw [HX.out]; omega)]
      have HF := Lib.hid hfin; clear hfin
      go_wp2_with fail
      refine (Tryz.Builder_String_any w.heap.size w.heap.size l _ hb hbl.size).mono ?_
      rintro e w4 ⟨rfl, hb4⟩
      go_wp2
      go_ret2
      exact ⟨congrArg (fun l : List UInt8 => Ending.returned (.tuple #[.string ⟨l.toArray⟩, .int .i64 0])) HF.out, Below.trans hbl hb4⟩


end Go.Proofs.YtfmabjoindlfeaaGreat
end
