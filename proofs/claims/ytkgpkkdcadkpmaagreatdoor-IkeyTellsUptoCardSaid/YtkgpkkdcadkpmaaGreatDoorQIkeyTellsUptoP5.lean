import Derived.Test.YtkgpkkdcadkpmaaGreatDoorQIkeyTellsUptoP3
import Derived.Test.YtkgpkkdcadkpmaaGreatDoorQIkeyTellsUptoP4
import Derived.Test.YtkgpkkdcadkpmaaGreatDoorQIkeyTellsUptoP1
import Derived.Outline
import Derived.Deep.RegionHeld3
import Derived.Recover
import Derived.Laws.Pointers
import Derived.WalkLawsBesides

/- versions' keys in bytes: plain definitions and their laws. By an AI agent. -/
section
namespace Go.Proofs.YtkgpkkdcadkpmaaGreatDoor
open Go.RowKit Go.Shelf

def validK (v : VerL) : Bool := isKeyB v.key && (validL v.at_ && (decide (0 ≤ v.origin) && ((decide (v.origin < (v.at_.length : Int)) || decide (v.origin = 254)) && (decide (0 ≤ v.tx) && decide (v.tx ≤ 281474976710655)))))
def putB (x : Int) (n : Nat) : List UInt8 := bytesN (putN x n n)
/-- what stands behind a key's head -/
def tailK (v : VerL) : List UInt8 := putB (281474976710655 - timeL v) 6 ++ (putB (255 - v.origin) 1 ++ (putB (281474976710655 - v.tx) 6 ++ putL v.at_))
def putK (v : VerL) : List UInt8 := headL v.key.data.toList ++ tailK v
theorem putB_len (x : Int) (n : Nat) : (putB x n).length = n := by unfold putB; rw [bytesN_len, putN_len]

structure ValidK (v : VerL) : Prop where
  key : isKeyB v.key = true
  at_ : validL v.at_ = true
  o0 : 0 ≤ v.origin
  o1 : v.origin < (v.at_.length : Int) ∨ v.origin = 254
  t0 : 0 ≤ v.tx
  t1 : v.tx ≤ 281474976710655
theorem validK_iff (v : VerL) : validK v = true ↔ ValidK v := by
  simp only [validK, Bool.and_eq_true, Bool.or_eq_true, decide_eq_true_eq]
  exact ⟨fun ⟨a, b, c, d, e, f⟩ => ⟨a, b, c, d, e, f⟩, fun h => ⟨h.key, h.at_, h.o0, h.o1, h.t0, h.t1⟩⟩
theorem ValidK.len {v : VerL} (h : ValidK v) : 1 ≤ v.at_.length ∧ v.at_.length ≤ 8 := ⟨(valid_parts h.at_).1, (valid_parts h.at_).2.1⟩
theorem ValidK.o255 {v : VerL} (h : ValidK v) : v.origin ≤ 254 := by
  have := h.len
  rcases h.o1 with k | k <;> omega
theorem valid_mem {xs : List Int} (h : validL xs = true) {x : Int} (hx : x ∈ xs) : 0 ≤ x ∧ x < 281474976710656 := by
  obtain ⟨j, hj, rfl⟩ := List.getElem_of_mem hx
  have := (valid_parts h).2.2 j hj
  rwa [nth_eq hj] at this
theorem ValidK.time {v : VerL} (h : ValidK v) : 0 ≤ timeL v ∧ timeL v ≤ 281474976710655 := by
  have hl := h.len
  unfold timeL
  split
  · have hm := (maxL_mem (xs := v.at_) (by intro e; rw [e] at hl; simp at hl)).1
    have := valid_mem h.at_ hm
    omega
  · split
    · have := (valid_parts h.at_).2.2 v.origin.toNat (by omega)
      omega
    · omega

/-! ### keys' heads -/
theorem headL_len (l : List UInt8) : 2 ≤ (headL l).length ∧ (headL l).length ≤ 2 * l.length + 2 := by
  have := repL_len l
  unfold headL
  rw [List.length_append]
  simp; omega

/-! ### order -/
end Go.Proofs.YtkgpkkdcadkpmaaGreatDoor
end

/- ikey.Valid, ikey.Put. By an AI agent. -/
section
namespace Go.Proofs.YtkgpkkdcadkpmaaGreatDoor
open Go.RowKit

set_option maxHeartbeats 1600000 in
set_option maxRecDepth 100000 in
theorem kvalid_any (key : ByteArray) (a : Option Addr) (n ca : Nat) (xs : List Int) (o t k : Int) (x : Nat) (m : Int) (s : ByteArray) (r : Bool) (w : World) (hkey : key.size ≤ 140737488351232) (hx : IA w a n xs) (HR : Hid (validK ⟨key, xs, o, t, ⟨k, x, m, s⟩⟩ = r)) :
    Calls Tryz.prog 12 #[.agg #[.string key, .slice a n ca, .int .i64 o, .int .i64 t, .int .i64 k, .float .f64 x, .int .i64 m, .string s]] w fun e w' => e = .returned (.bool r) ∧ Bl w w' := by
  have HL := Lib.hid hx.len
  have hI := hx.keep ((Bl.refl w).alloc (.cells #[.string key, .slice a n ca, .int .i64 o, .int .i64 t, .int .i64 k, .float .f64 x, .int .i64 m, .string s] 28))
  have H1 := Lib.hid (fun w hx => valid_any a n ca xs w hx)
  cases hk : isKeyB key
  · have HK := Lib.hid hk
    clear hk
    go_enter Tryz.func12, Tryz.ntmps12
    go_wp2_with fail
    refine (isKey_any key _ hkey).mono ?_
    rintro e w1 ⟨rfl, rfl⟩
    rw [HK.out]
    go_wp2_with fail
    go_ret
    exact ⟨ret_bool (by rw [← HR.out]; simp [validK, HK.out]), (Bl.refl w).alloc _⟩
  · have HK := Lib.hid hk
    clear hk
    cases hv : validL xs
    · have HV := Lib.hid hv
      clear hv
      go_enter Tryz.func12, Tryz.ntmps12
      go_wp2_with fail
      refine (isKey_any key _ hkey).mono ?_
      rintro e w1 ⟨rfl, rfl⟩
      rw [HK.out]
      go_wp2_with fail
      refine (H1.out _ hI).mono ?_
      rintro e w1 ⟨rfl, rfl⟩
      rw [HV.out]
      go_wp2_with fail
      go_ret
      exact ⟨ret_bool (by rw [← HR.out]; simp [validK, HV.out]), (Bl.refl w).alloc _⟩
    · have HV := Lib.hid hv
      clear hv
      go_enter Tryz.func12, Tryz.ntmps12
      go_wp2_with fail
      refine (isKey_any key _ hkey).mono ?_
      rintro e w1 ⟨rfl, rfl⟩
      rw [HK.out]
      go_wp2_with fail
      refine (H1.out _ hI).mono ?_
      rintro e w1 ⟨rfl, rfl⟩
      rw [HV.out]
      clear hI
      go_wp2_with fail
      all_goals (go_ret; refine ⟨ret_bool ?_, (Bl.refl w).alloc _⟩)
      all_goals (
        have h1 := HK.out
        have h2 := HV.out
        have h3 := HL.out
        rw [← HR.out]
        clear HK HV HL HR H1
        unfold validK
        rw [Bool.eq_iff_iff]
        simp_all
        try omega)

set_option maxRecDepth 100000 in
theorem kput_no (key : ByteArray) (a : Option Addr) (n ca : Nat) (xs : List Int) (o t k : Int) (x : Nat) (m : Int) (s : ByteArray) (w : World) (hkey : key.size ≤ 140737488351232) (hx : IA w a n xs) (HR : Hid (validK ⟨key, xs, o, t, ⟨k, x, m, s⟩⟩ = false)) :
    Calls Tryz.prog 6 #[.agg #[.string key, .slice a n ca, .int .i64 o, .int .i64 t, .int .i64 k, .float .f64 x, .int .i64 m, .string s]] w fun e w' => e = .returned (.tuple #[.string ⟨#[]⟩, .int .i64 1]) ∧ Bl w w' := by
  have hI := hx.keep ((Bl.refl w).alloc (.cells #[.string key, .slice a n ca, .int .i64 o, .int .i64 t, .int .i64 k, .float .f64 x, .int .i64 m, .string s] 28))
  go_enter Tryz.func6, Tryz.ntmps6
  go_wp2_with fail
  refine (kvalid_any key a n ca xs o t k x m s false _ hkey hI HR).mono ?_
  rintro e w1 ⟨rfl, hb⟩
  have hbn := ((Bl.refl w).alloc (.cells #[.string key, .slice a n ca, .int .i64 o, .int .i64 t, .int .i64 k, .float .f64 x, .int .i64 m, .string s] 28)).trans hb
  go_wp2_with fail
  go_ret2
  exact ⟨rfl, hbn⟩
theorem put6_zero {v : Int} (h0 : 0 ≤ v) (h1 : v ≤ 281474976710655) : v / 2 ^ (8 * 6) = 0 := by
  rw [show (2 : Int) ^ (8 * 6) = 281474976710656 from rfl]; omega
theorem putB_SB (v : Int) (n : Nat) : SB (strOfNums (putN v n n)) (putB v n) := rfl
theorem putB_size (v : Int) (n : Nat) : (strOfNums (putN v n n)).size = n := by rw [(putB_SB v n).size, putB_len]
set_option maxHeartbeats 1600000 in
set_option maxRecDepth 100000 in
theorem kput_yes (key : ByteArray) (a : Option Addr) (n ca : Nat) (xs : List Int) (o t k : Int) (x : Nat) (m : Int) (s : ByteArray) (T : Int) (r : ByteArray) (w : World) (hx : IA w a n xs) (HV : Hid (ValidK ⟨key, xs, o, t, ⟨k, x, m, s⟩⟩))
    (HT : Hid (timeL ⟨key, xs, o, t, ⟨k, x, m, s⟩⟩ = T)) (HR : Hid (SB r (putK ⟨key, xs, o, t, ⟨k, x, m, s⟩⟩))) :
    Calls Tryz.prog 6 #[.agg #[.string key, .slice a n ca, .int .i64 o, .int .i64 t, .int .i64 k, .float .f64 x, .int .i64 m, .string s]] w fun e w' => e = .returned (.tuple #[.string r, .int .i64 0]) ∧ Bl w w' := by
  have hk64 : key.size ≤ 64 := by
    have := HV.out.key
    simp only [isKeyB, Bool.and_eq_true, decide_eq_true_eq] at this
    exact this.2.1
  have HR2 := Lib.hid ((validK_iff _).2 HV.out)
  obtain ⟨ht0, ht1⟩ := HV.out.time
  rw [HT.out] at ht0 ht1
  have ho0 : 0 ≤ o := HV.out.o0
  have ho1 : o ≤ 254 := HV.out.o255
  have hx0 : 0 ≤ t := HV.out.t0
  have hx1 : t ≤ 281474976710655 := HV.out.t1
  have hn8 : xs.length ≤ 8 := HV.out.len.2
  have P1 := Lib.hid (fun w => put_any (281474976710655 - T) 6 w (by omega) (by decide) (by decide) (put6_zero (by omega) (by omega)))
  have P2 := Lib.hid (fun w => put_any (255 - o) 1 w (by omega) (by decide) (by decide) (by rw [show (2 : Int) ^ (8 * 1) = 256 from rfl]; omega))
  have P3 := Lib.hid (fun w => put_any (281474976710655 - t) 6 w (by omega) (by decide) (by decide) (put6_zero (by omega) (by omega)))
  have P4 := Lib.hid (fun w hx => vput_yes a n ca xs w hx HV.out.at_)
  have P5 := Lib.hid (fun w => head_any key key.data.toList w rfl (by omega))
  have z1 := putB_size (281474976710655 - T) 6
  have z2 := putB_size (255 - o) 1
  have z3 := putB_size (281474976710655 - t) 6
  have z4 : (⟨(putL xs).toArray⟩ : ByteArray).size ≤ 49 := by rw [(SB.mk _).size, putL_len]; omega
  have z5 : (⟨(headL key.data.toList).toArray⟩ : ByteArray).size ≤ 130 := by
    rw [(SB.mk _).size]
    have := (headL_len key.data.toList).2
    have h : key.data.toList.length = key.size := by simp
    omega
  have HF : Hid ((⟨(headL key.data.toList).toArray⟩ : ByteArray) ++ strOfNums (putN (281474976710655 - T) 6 6) ++ strOfNums (putN (255 - o) 1 1) ++ strOfNums (putN (281474976710655 - t) 6 6) ++ ⟨(putL xs).toArray⟩ = r) := Lib.hid (by
    refine SB.eq (l := putK ⟨key, xs, o, t, ⟨k, x, m, s⟩⟩) ?_ HR.out
    have h := SB.append (SB.append (SB.append (SB.append (SB.mk (headL key.data.toList)) (putB_SB (281474976710655 - T) 6)) (putB_SB (255 - o) 1)) (putB_SB (281474976710655 - t) 6)) (SB.mk (putL xs))
    unfold putK tailK
    rw [HT.out]
    simpa using h)
  generalize strOfNums (putN (281474976710655 - T) 6 6) = s1 at *
  generalize strOfNums (putN (255 - o) 1 1) = s2 at *
  generalize strOfNums (putN (281474976710655 - t) 6 6) = s3 at *
  generalize (⟨(putL xs).toArray⟩ : ByteArray) = s4 at *
  generalize (⟨(headL key.data.toList).toArray⟩ : ByteArray) = s5 at *
  have cb := ver_box w key a n ca o t k x m s
  have hbl := (Bl.refl w).alloc (.cells #[.string key, .slice a n ca, .int .i64 o, .int .i64 t, .int .i64 k, .float .f64 x, .int .i64 m, .string s] 28)
  have hI := hx.keep hbl
  clear hn8 hx
  go_enter Tryz.func6, Tryz.ntmps6
  go_wp2_with fail
  refine (kvalid_any key a n ca xs o t k x m s true _ (by omega) hI HR2).mono ?_
  rintro e w1 ⟨rfl, hb⟩
  replace cb := cb.keep hb
  replace hI := hI.keep hb
  replace hbl := hbl.trans hb
  clear hb
  obtain ⟨c0, c1, c2, c3, c4, c5, c6, c7⟩ := cb.ver
  go_wp2_with fail
  refine (time_any key a n ca xs o t k x m s T _ hI HT).mono ?_
  rintro e w2 ⟨rfl, hb⟩
  replace cb := cb.keep hb
  replace hI := hI.keep hb
  replace hbl := hbl.trans hb
  clear hb c0 c1 c2 c3 c4 c5 c6 c7
  go_wp2_with fail
  refine (P1.out _).mono ?_
  rintro e w3 ⟨rfl, hb⟩
  replace cb := cb.keep hb
  replace hI := hI.keep hb
  replace hbl := hbl.trans hb
  clear hb
  obtain ⟨_, _, c2, _, _, _, _, _⟩ := cb.ver
  go_wp2_with fail
  refine (P2.out _).mono ?_
  rintro e w4 ⟨rfl, hb⟩
  replace cb := cb.keep hb
  replace hI := hI.keep hb
  replace hbl := hbl.trans hb
  clear hb c2
  obtain ⟨_, _, _, c3, _, _, _, _⟩ := cb.ver
  go_wp2_with fail
  refine (P3.out _).mono ?_
  rintro e w5 ⟨rfl, hb⟩
  replace cb := cb.keep hb
  replace hI := hI.keep hb
  replace hbl := hbl.trans hb
  clear hb c3
  obtain ⟨_, c1, _, _, _, _, _, _⟩ := cb.ver
  go_wp2_with fail
  refine (P4.out _ hI).mono ?_
  rintro e w6 ⟨rfl, hb⟩
  replace cb := cb.keep hb
  replace hbl := hbl.trans hb
  clear hb c1 hI
  obtain ⟨c0, _, _, _, _, _, _, _⟩ := cb.ver
  go_wp2_with fail
  refine (P5.out _).mono ?_
  rintro e w7 ⟨rfl, hb⟩
  replace hbl := hbl.trans hb
  clear hb c0 cb
  go_wp2_with fail
  go_ret2
  exact ⟨by rw [HF.out]; rfl, hbl⟩
/-- ikey.Put's answer -/
def kputS (v : VerL) : List UInt8 := if validK v then putK v else []
def kputC (v : VerL) : Int := if validK v then 0 else 1
theorem kput_any (key : ByteArray) (a : Option Addr) (n ca : Nat) (xs : List Int) (o t k : Int) (x : Nat) (m : Int) (s : ByteArray) (r : ByteArray) (c : Int) (w : World) (hkey : key.size ≤ 140737488351232) (hx : IA w a n xs) (HR : Hid (SB r (kputS ⟨key, xs, o, t, ⟨k, x, m, s⟩⟩) ∧ kputC ⟨key, xs, o, t, ⟨k, x, m, s⟩⟩ = c)) :
    Calls Tryz.prog 6 #[.agg #[.string key, .slice a n ca, .int .i64 o, .int .i64 t, .int .i64 k, .float .f64 x, .int .i64 m, .string s]] w fun e w' => e = .returned (.tuple #[.string r, .int .i64 c]) ∧ Bl w w' := by
  obtain ⟨h1, h2⟩ := HR.out
  unfold kputS at h1
  unfold kputC at h2
  cases hv : validK ⟨key, xs, o, t, ⟨k, x, m, s⟩⟩
  · rw [hv] at h1 h2
    have e1 : r = ⟨#[]⟩ := SB.eq h1 rfl
    have e2 : c = 1 := h2.symm
    subst e1; subst e2
    exact kput_no key a n ca xs o t k x m s w hkey hx (Lib.hid hv)
  · rw [hv] at h1 h2
    have e2 : c = 0 := h2.symm
    subst e2
    exact kput_yes key a n ca xs o t k x m s _ r w hx (Lib.hid ((validK_iff _).1 hv)) (Lib.hid rfl) (Lib.hid h1)
end Go.Proofs.YtkgpkkdcadkpmaaGreatDoor
end

/- a block of one cell; recovered panics. By an AI agent. -/
section
namespace Go.Proofs.YtkgpkkdcadkpmaaGreatDoor
open Go.RowKit

/-! ### a block of one cell -/
def C1 (w : World) (g : Nat) (v : Value) : Prop := ∃ t, w.heap[g]? = some (.cells #[v] t (0, 0))
theorem C1.cell {w : World} {g : Nat} {v : Value} (h : C1 w g v) : w.cell? ⟨g, 0, none⟩ = some v := by
  obtain ⟨t, h⟩ := h
  rw [cell_of_row w g 0 _ t (0, 0) h]; rfl
theorem C1.frozen {w : World} {g : Nat} {v : Value} (h : C1 w g v) : w.frozen? ⟨g, 0, none⟩ = false := by
  obtain ⟨t, h⟩ := h
  exact frozen_of_row w g 0 _ t h
theorem C1.lt {w : World} {g : Nat} {v : Value} (h : C1 w g v) : g < w.heap.size := by
  obtain ⟨t, h⟩ := h
  exact lt_of_heap h
theorem C1.set {w : World} {g : Nat} {v : Value} (h : C1 w g v) (u : Value) : C1 (w.setCell ⟨g, 0, none⟩ u) g u := by
  obtain ⟨t, h⟩ := h
  exact ⟨t, by rw [heap_setCell_same w g 0 _ t _ h]; rfl⟩
theorem C1.other {w : World} {g g' : Nat} {v : Value} (h : C1 w g v) (hn : g ≠ g') (u : Value) : C1 (w.setCell ⟨g', 0, none⟩ u) g v := by
  obtain ⟨t, h⟩ := h
  exact ⟨t, by rw [Below.heap_setCell _ _ _ _ hn]; exact h⟩
theorem C1.keep {w w' : World} {g : Nat} {v : Value} (h : C1 w g v) (hb : Bl w w') : C1 w' g v := by
  obtain ⟨t, h⟩ := h
  exact ⟨t, hb.heap h⟩
theorem C1.grown {w w' : World} {g : Nat} {v : Value} {row : Option Nat} (h : C1 w g v) (hg : w.grownBy w' row) (hn : some g ≠ row) : C1 w' g v := by
  obtain ⟨t, h⟩ := h
  exact ⟨t, by rw [hg.block g (lt_of_heap h) hn]; exact h⟩
theorem C1.alloc {w : World} {g : Nat} {v : Value} (h : C1 w g v) (o : Obj) : C1 (w.alloc o) g v := h.keep ((Bl.refl w).alloc o)
theorem C1.new (w : World) (g : Nat) (hg : g = w.heap.size) (v : Value) (t : TypeId) : C1 (w.alloc (.cells #[v] t)) g v := by
  subst hg
  exact ⟨t, heap_alloc_new w _⟩

theorem hmf (fn : Fn) (first cap : Array Value) (w : World) : (Instr.makeFunc fn first cap).run Tryz.prog w = .ok (.func fn first cap) w := rfl
/-- a recovered panic settles to a return -/
theorem leaves_back {P : Program} {fn : Func} {tmps : Array Value} {R : Ending → World → Prop} {w : World} {v x : Value} (h : (results fn tmps).run P w = .ok v w) (hR : R (.returned v) w) :
    Leaves P fn tmps R [] (settle (.panicking [{ v := x, recovered := true }])) w := ⟨v, h, hR⟩
theorem leaves_ret {P : Program} {fn : Func} {tmps : Array Value} {R : Ending → World → Prop} {w : World} {v : Value} (h : (results fn tmps).run P w = .ok v w) (hR : R (.returned v) w) :
    Leaves P fn tmps R [] (settle .returning) w := ⟨v, h, hR⟩
end Go.Proofs.YtkgpkkdcadkpmaaGreatDoor
end

/- the assertion that a recovered value is a code. By an AI agent. -/
section
namespace Go.Proofs.YtkgpkkdcadkpmaaGreatDoor
open Go.RowKit

theorem assert_code (c : Int) (w : World) : (Instr.typeAssert (.iface 48 (.int .i64 c)) 20 48 true).run Tryz.prog w = .ok (.tuple #[.int .i64 c, .bool true]) w := by
  simp [Instr.typeAssert, run_underlying Tryz.underlying48]
end Go.Proofs.YtkgpkkdcadkpmaaGreatDoor
end
