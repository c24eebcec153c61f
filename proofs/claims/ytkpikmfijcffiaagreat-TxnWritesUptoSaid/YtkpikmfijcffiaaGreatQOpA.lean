import Derived.Test.YtkpikmfijcffiaaGreatQTxnWritesUptoP4
import Derived.Test.YtkpikmfijcffiaaGreatQTxnWritesUptoP3
import Derived.Outline
import Derived.Deep.RegionLaw
import Derived.Deep.AppendLies

/- acts and values, and what the package op tells of them: plain definitions and their laws; blocks of cells; op.nought, right. By an AI agent. -/
section
namespace Go.Proofs.YtkpikmfijcffiaaGreat
open Go.RowKit

structure ActL where
  k : Int
  x : Nat
  n : Int
  s : ByteArray
structure ValL where
  there : Bool
  x : Nat
  n : Int
  s : ByteArray
def nilS : ByteArray := ⟨#[]⟩
def ActL.v (a : ActL) : Value := .agg #[.int .i64 a.k, .float .f64 a.x, .int .i64 a.n, .string a.s]
def ValL.v (a : ValL) : Value := .agg #[.bool a.there, .float .f64 a.x, .int .i64 a.n, .string a.s]
def noVal : ValL := ⟨false, 0, 0, nilS⟩
/-- ranges of Go's types -/
structure ActL.Ok (a : ActL) : Prop where
  k : -9223372036854775808 ≤ a.k ∧ a.k ≤ 9223372036854775807
  x : a.x < two64
  n : -9223372036854775808 ≤ a.n ∧ a.n ≤ 9223372036854775807
  s : a.s.size ≤ 140737488351232
structure ValL.Ok (a : ValL) : Prop where
  x : a.x < two64
  n : -9223372036854775808 ≤ a.n ∧ a.n ≤ 9223372036854775807
  s : a.s.size ≤ 140737488351232
theorem noVal_ok : noVal.Ok := ⟨by decide, by decide, by decide⟩

def noughtB (x : Nat) : Bool := decide (fkey x = fkey 0)
def rightB (a : ActL) : Bool := decide (a.s.size ≤ 1024) &&
  if a.k = 0 then decide (a.n = 0) && (a.s.toList.isEmpty || noughtB a.x)
  else if a.k = 1 then noughtB a.x && a.s.toList.isEmpty
  else if a.k = 2 ∨ a.k = 3 then decide (a.n = 0) && a.s.toList.isEmpty
  else if a.k = 4 then noughtB a.x && (decide (a.n = 0) && a.s.toList.isEmpty)
  else false
/-- a key's first byte -/
def hd (key : ByteArray) : Nat := (key.data.toList.headD 0).toNat
def isKeyB (key : ByteArray) : Bool := !key.toList.isEmpty && (decide (key.size ≤ 64) && (decide (hd key = 114) || (decide (hd key = 116) || (decide (hd key = 99) || (decide (hd key = 120) || decide (hd key = 110))))))
def fitsB (key : ByteArray) (a : ActL) : Bool := isKeyB key && (rightB a &&
  if hd key = 114 then (decide (a.k = 0) && a.s.toList.isEmpty) || decide (a.k = 4)
  else if hd key = 116 then (decide (a.k = 0) && noughtB a.x) || decide (a.k = 4)
  else if hd key = 99 then decide (a.k = 1)
  else if hd key = 120 then decide (a.k = 2)
  else decide (a.k = 3))
def regB (key : ByteArray) : Bool := decide (hd key = 114) || decide (hd key = 116)
def joined (a b : ActL) : ActL :=
  if b.k = 1 then ⟨1, 0, wrap64 (a.n + b.n), nilS⟩
  else if b.k = 2 then ⟨2, rmax a.x b.x, 0, nilS⟩
  else if b.k = 3 then ⟨3, rmin a.x b.x, 0, nilS⟩
  else b
def bothL (key : ByteArray) (a b : ActL) : ActL := if regB key || (!fitsB key a || !fitsB key b) then b else joined a b
def valOf (a : ActL) : ValL := if a.k = 4 then noVal else ⟨true, a.x, a.n, a.s⟩
def afterL (key : ByteArray) (v : ValL) (a : ActL) : ValL :=
  if fitsB key a then valOf (if v.there && !regB key then joined ⟨a.k, v.x, v.n, nilS⟩ a else a) else v
def sameV (v u : ValL) : Bool := decide (v.there = u.there) && (decide (fkey v.x = fkey u.x) && (decide (v.n = u.n) && (v.s.toList == u.s.toList)))
def sameA (v u : ActL) : Bool := decide (v.k = u.k) && (decide (fkey v.x = fkey u.x) && (decide (v.n = u.n) && (v.s.toList == u.s.toList)))
theorem sameV_refl (v : ValL) : sameV v v = true := by simp [sameV]
theorem sameV_of {v u : ValL} (h1 : v.there = u.there) (h2 : fkey v.x = fkey u.x) (h3 : v.n = u.n) (h4 : v.s = u.s) : sameV v u = true := by simp [sameV, h1, h2, h3, h4]

theorem nil_of {s : ByteArray} (h : s.toList = []) : s = nilS := by
  rw [ByteArray.toList_eq] at h
  obtain ⟨⟨l⟩⟩ := s
  cases l with
  | nil => rfl
  | cons a l => cases h
theorem nil_list : nilS.toList = [] := by rw [ByteArray.toList_eq]; rfl
theorem nought_eq {x : Nat} (hx : x < two64) (h : noughtB x = true) : x = 0 := by
  simp only [noughtB, decide_eq_true_eq] at h
  exact fkey_inj' hx (by decide) h (by decide)

theorem fits_key {key : ByteArray} {a : ActL} (h : fitsB key a = true) : isKeyB key = true ∧ rightB a = true := by
  simp only [fitsB, Bool.and_eq_true] at h
  exact ⟨h.1, h.2.1⟩
theorem key_head {key : ByteArray} (h : isKeyB key = true) : hd key = 114 ∨ hd key = 116 ∨ hd key = 99 ∨ hd key = 120 ∨ hd key = 110 := by
  simp only [isKeyB, Bool.and_eq_true, Bool.or_eq_true, decide_eq_true_eq] at h
  exact h.2.2

theorem fits_add {key : ByteArray} {a : ActL} (ok : a.Ok) (hk : hd key = 99) (h : fitsB key a = true) : a = ⟨1, 0, a.n, nilS⟩ := by
  have hr := (fits_key h).2
  simp only [fitsB, Bool.and_eq_true, hk] at h
  have k1 : a.k = 1 := by simpa using h.2.2
  simp only [rightB, k1, Bool.and_eq_true] at hr
  have h2 := hr.2
  simp at h2
  obtain ⟨k, x, n, s⟩ := a
  simp only at k1 h2
  obtain rfl : s = nilS := nil_of h2.2
  obtain rfl : x = 0 := nought_eq ok.x h2.1
  subst k1; rfl
theorem fits_max {key : ByteArray} {a : ActL} (hk : hd key = 120) (h : fitsB key a = true) : a = ⟨2, a.x, 0, nilS⟩ := by
  have hr := (fits_key h).2
  simp only [fitsB, Bool.and_eq_true, hk] at h
  have k1 : a.k = 2 := by simpa using h.2.2
  simp only [rightB, k1, Bool.and_eq_true] at hr
  have h2 := hr.2
  simp at h2
  obtain ⟨k, x, n, s⟩ := a
  simp only at k1 h2
  obtain rfl : s = nilS := nil_of h2.2
  obtain rfl : n = 0 := h2.1
  subst k1; rfl
theorem fits_min {key : ByteArray} {a : ActL} (hk : hd key = 110) (h : fitsB key a = true) : a = ⟨3, a.x, 0, nilS⟩ := by
  have hr := (fits_key h).2
  simp only [fitsB, Bool.and_eq_true, hk] at h
  have k1 : a.k = 3 := by simpa using h.2.2
  simp only [rightB, k1, Bool.and_eq_true] at hr
  have h2 := hr.2
  simp at h2
  obtain ⟨k, x, n, s⟩ := a
  simp only at k1 h2
  obtain rfl : s = nilS := nil_of h2.2
  obtain rfl : n = 0 := h2.1
  subst k1; rfl
theorem nought_zero : noughtB 0 = true := by decide
theorem right_add (n : Int) : rightB ⟨1, 0, n, nilS⟩ = true := by simp [rightB, nil_list, nought_zero, show nilS.size = 0 from rfl]
theorem right_max (x : Nat) : rightB ⟨2, x, 0, nilS⟩ = true := by simp [rightB, nil_list, show nilS.size = 0 from rfl]
theorem right_min (x : Nat) : rightB ⟨3, x, 0, nilS⟩ = true := by simp [rightB, nil_list, show nilS.size = 0 from rfl]
theorem fits_add' {key : ByteArray} (hi : isKeyB key = true) (hk : hd key = 99) (n : Int) : fitsB key ⟨1, 0, n, nilS⟩ = true := by simp [fitsB, hi, right_add, hk]
theorem fits_max' {key : ByteArray} (hi : isKeyB key = true) (hk : hd key = 120) (x : Nat) : fitsB key ⟨2, x, 0, nilS⟩ = true := by simp [fitsB, hi, right_max, hk]
theorem fits_min' {key : ByteArray} (hi : isKeyB key = true) (hk : hd key = 110) (x : Nat) : fitsB key ⟨3, x, 0, nilS⟩ = true := by simp [fitsB, hi, right_min, hk]

theorem after_reg {key : ByteArray} {a : ActL} (v : ValL) (hr : regB key = true) (h : fitsB key a = true) : afterL key v a = valOf a := by simp [afterL, h, hr]
theorem both_reg {key : ByteArray} {a b : ActL} (hr : regB key = true) : bothL key a b = b := by simp [bothL, hr]
theorem after_add {key : ByteArray} (v : ValL) (hi : isKeyB key = true) (hk : hd key = 99) (n : Int) : afterL key v ⟨1, 0, n, nilS⟩ = ⟨true, 0, if v.there then wrap64 (v.n + n) else n, nilS⟩ := by
  have hr : regB key = false := by simp [regB, hk]
  cases ht : v.there <;> simp [afterL, fits_add' hi hk, hr, ht, joined, valOf]
theorem after_max {key : ByteArray} (v : ValL) (hi : isKeyB key = true) (hk : hd key = 120) (x : Nat) : afterL key v ⟨2, x, 0, nilS⟩ = ⟨true, if v.there then rmax v.x x else x, 0, nilS⟩ := by
  have hr : regB key = false := by simp [regB, hk]
  cases ht : v.there <;> simp [afterL, fits_max' hi hk, hr, ht, joined, valOf]
theorem after_min {key : ByteArray} (v : ValL) (hi : isKeyB key = true) (hk : hd key = 110) (x : Nat) : afterL key v ⟨3, x, 0, nilS⟩ = ⟨true, if v.there then rmin v.x x else x, 0, nilS⟩ := by
  have hr : regB key = false := by simp [regB, hk]
  cases ht : v.there <;> simp [afterL, fits_min' hi hk, hr, ht, joined, valOf]
theorem both_add {key : ByteArray} (hi : isKeyB key = true) (hk : hd key = 99) (m n : Int) : bothL key ⟨1, 0, m, nilS⟩ ⟨1, 0, n, nilS⟩ = ⟨1, 0, wrap64 (m + n), nilS⟩ := by
  have hr : regB key = false := by simp [regB, hk]
  simp [bothL, hr, fits_add' hi hk, joined]
theorem both_max {key : ByteArray} (hi : isKeyB key = true) (hk : hd key = 120) (x y : Nat) : bothL key ⟨2, x, 0, nilS⟩ ⟨2, y, 0, nilS⟩ = ⟨2, rmax x y, 0, nilS⟩ := by
  have hr : regB key = false := by simp [regB, hk]
  simp [bothL, hr, fits_max' hi hk, joined]
theorem both_min {key : ByteArray} (hi : isKeyB key = true) (hk : hd key = 110) (x y : Nat) : bothL key ⟨3, x, 0, nilS⟩ ⟨3, y, 0, nilS⟩ = ⟨3, rmin x y, 0, nilS⟩ := by
  have hr : regB key = false := by simp [regB, hk]
  simp [bothL, hr, fits_min' hi hk, joined]

theorem wrap_assoc (a b c : Int) : wrap64 (wrap64 (a + b) + c) = wrap64 (a + wrap64 (b + c)) := by unfold wrap64; omega
theorem wrap_comm3 (a b c : Int) : wrap64 (wrap64 (a + b) + c) = wrap64 (wrap64 (a + c) + b) := by unfold wrap64; omega
theorem wrap_comm (a b : Int) : wrap64 (a + b) = wrap64 (b + a) := by rw [Int.add_comm]

/-- the plain law of OpTogether -/
theorem together {key : ByteArray} {a b c : ActL} (v : ValL) (oa : a.Ok) (ob : b.Ok) (oc : c.Ok) (ha : fitsB key a = true) (hb : fitsB key b = true) (hc : fitsB key c = true) :
    sameV (afterL key (afterL key (afterL key v a) b) c) (afterL key v (bothL key (bothL key a b) c)) = true ∧
    sameV (afterL key (afterL key (afterL key v a) b) c) (afterL key v (bothL key a (bothL key b c))) = true ∧
    (regB key = true → sameV (afterL key (afterL key (afterL key v a) b) c) (afterL key noVal c) = true) ∧
    (regB key = false → sameV (afterL key (afterL key (afterL key v a) b) c) (afterL key (afterL key (afterL key v c) a) b) = true ∧ fitsB key (bothL key a b) = true) := by
  have hi := (fits_key ha).1
  cases hr : regB key
  · refine ⟨?_, ?_, (fun h => nomatch h), fun _ => ?_⟩
    all_goals
      rcases key_head hi with h | h | h | h | h
      · simp [regB, h] at hr
      · simp [regB, h] at hr
      · rw [fits_add oa h ha, fits_add ob h hb, fits_add oc h hc]
        simp only [after_add _ hi h, both_add hi h, fits_add' hi h, if_true]
        cases v.there <;> (try refine ⟨?_, trivial⟩) <;> (refine sameV_of rfl rfl ?_ rfl; first | (simp; done) | (simp; unfold wrap64; omega))
      · rw [fits_max h ha, fits_max h hb, fits_max h hc]
        simp only [after_max _ hi h, both_max hi h, fits_max' hi h, if_true]
        cases v.there <;> (try refine ⟨?_, trivial⟩) <;> (refine sameV_of rfl ?_ rfl rfl; first | (simp [rmax_key']; done) | (simp [rmax_key']; omega))
      · rw [fits_min h ha, fits_min h hb, fits_min h hc]
        simp only [after_min _ hi h, both_min hi h, fits_min' hi h, if_true]
        cases v.there <;> (try refine ⟨?_, trivial⟩) <;> (refine sameV_of rfl ?_ rfl rfl; first | (simp [rmin_key]; done) | (simp [rmin_key]; omega))
  · refine ⟨?_, ?_, fun _ => ?_, (fun h => nomatch h)⟩
    all_goals
      simp only [both_reg hr, after_reg _ hr hc, sameV_refl]
end Go.Proofs.YtkpikmfijcffiaaGreat

namespace Go.Proofs.YtkpikmfijcffiaaGreat
open Go.RowKit

def ActL.cs (a : ActL) : List Value := [.int .i64 a.k, .float .f64 a.x, .int .i64 a.n, .string a.s]
def ValL.cs (a : ValL) : List Value := [.bool a.there, .float .f64 a.x, .int .i64 a.n, .string a.s]
theorem AC.act {w : World} {g : Nat} {k n : Int} {x : Nat} {s : ByteArray} (h : AC w g [.int .i64 k, .float .f64 x, .int .i64 n, .string s]) :
    w.cell? ⟨g, 0, none⟩ = some (.int .i64 k) ∧ w.cell? ⟨g, 1, none⟩ = some (.float .f64 x) ∧ w.cell? ⟨g, 2, none⟩ = some (.int .i64 n) ∧ w.cell? ⟨g, 3, none⟩ = some (.string s) :=
  ⟨h.cell 0 _ rfl, h.cell 1 _ rfl, h.cell 2 _ rfl, h.cell 3 _ rfl⟩
theorem AC.val {w : World} {g : Nat} {b : Bool} {n : Int} {x : Nat} {s : ByteArray} (h : AC w g [.bool b, .float .f64 x, .int .i64 n, .string s]) :
    w.cell? ⟨g, 0, none⟩ = some (.bool b) ∧ w.cell? ⟨g, 1, none⟩ = some (.float .f64 x) ∧ w.cell? ⟨g, 2, none⟩ = some (.int .i64 n) ∧ w.cell? ⟨g, 3, none⟩ = some (.string s) :=
  ⟨h.cell 0 _ rfl, h.cell 1 _ rfl, h.cell 2 _ rfl, h.cell 3 _ rfl⟩

theorem nought_any (x : Nat) (w : World) (hx : x < two64) : Calls Tryz.prog 114 #[.float .f64 x] w fun e w' => e = .returned (.bool (noughtB x)) ∧ Bl w w' := by
  go_enter Tryz.func114, Tryz.ntmps114
  go_wp2_with fail
  refine (rsameF_any x 0 _ hx (by decide)).mono ?_
  rintro e w1 ⟨rfl, hb1⟩
  go_wp2_with fail
  go_ret
  exact ⟨rfl, hb1⟩

theorem hd_get {s : ByteArray} (h : 0 < s.size) : (s[0]'h).toNat = hd s := by
  obtain ⟨⟨l⟩⟩ := s
  cases l with
  | nil => exact absurd h (by decide)
  | cons a l => rfl
theorem pos_of {s : ByteArray} (h : ¬ s.toList = []) : 0 < s.size := by
  rw [ByteArray.toList_eq] at h
  obtain ⟨⟨l⟩⟩ := s
  cases l with
  | nil => exact absurd rfl h
  | cons a l => simp [ByteArray.size]

set_option maxHeartbeats 800000 in
set_option maxRecDepth 100000 in
theorem right_any (a : ActL) (w : World) (ok : a.Ok) : Calls Tryz.prog 113 #[a.v] w fun e w' => e = .returned (.bool (rightB a)) ∧ Bl w w' := by
  obtain ⟨k, x, n, s⟩ := a
  obtain ⟨hk, hx, hn, hs⟩ := ok
  simp only at hk hx hn hs
  show Calls Tryz.prog 113 #[.agg #[.int .i64 k, .float .f64 x, .int .i64 n, .string s]] w _
  go_enter Tryz.func113, Tryz.ntmps113
  go_wp2_with (first | (refine (nought_any _ _ hx).mono ?_; rintro e w' ⟨rfl, hb⟩; obtain ⟨c0, c1, c2, c3⟩ := ((AC.new w _ rfl [_, _, _, _] _).keep hb).act) | fail)
  all_goals (go_ret; refine ⟨ret_bool ?_, ?_⟩)
  all_goals first | exact (Bl.refl w).alloc _ | exact ((Bl.refl w).alloc _).trans (by assumption) | skip
  all_goals (unfold rightB; simp_all; try omega)
theorem store_float (a : Addr) (b : Nat) (w : World) : (store a (.float .f64 b)).run Tryz.prog w = stored Tryz.prog w a (.float .f64 b) .plain := run_store Tryz.prog w a _ .plain rfl
theorem AC.setAct {w : World} {g : Nat} {k n : Int} {x : Nat} {s : ByteArray} (h : AC w g [.int .i64 k, .float .f64 x, .int .i64 n, .string s]) (k' n' : Int) (x' : Nat) (s' : ByteArray) :
    AC ((((w.setCell ⟨g, 0, none⟩ (.int .i64 k')).setCell ⟨g, 1, none⟩ (.float .f64 x')).setCell ⟨g, 2, none⟩ (.int .i64 n')).setCell ⟨g, 3, none⟩ (.string s')) g [.int .i64 k', .float .f64 x', .int .i64 n', .string s'] := by
  obtain ⟨t, h⟩ := h
  refine ⟨t, ?_⟩
  have h1 := heap_setCell_same w g 0 _ t (.int .i64 k') h
  have h2 := heap_setCell_same _ g 1 _ t (.float .f64 x') h1
  have h3 := heap_setCell_same _ g 2 _ t (.int .i64 n') h2
  have h4 := heap_setCell_same _ g 3 _ t (.string s') h3
  rw [h4]
  simp
theorem Bl.store4 {w W : World} (h : Bl w W) {g : Nat} (hg : w.heap.size ≤ g) (a b c d : Value) : Bl w ((((W.setCell ⟨g, 0, none⟩ a).setCell ⟨g, 1, none⟩ b).setCell ⟨g, 2, none⟩ c).setCell ⟨g, 3, none⟩ d) :=
  Below.setCell (p := ⟨g, 3, none⟩) (Below.setCell (p := ⟨g, 2, none⟩) (Below.setCell (p := ⟨g, 1, none⟩) (Below.setCell (p := ⟨g, 0, none⟩) h hg _) hg _) hg _) hg _


theorem AC.set4 {w : World} {g : Nat} {a0 b0 c0 d0 : Value} (h : AC w g [a0, b0, c0, d0]) (a b c d : Value) :
    AC ((((w.setCell ⟨g, 0, none⟩ a).setCell ⟨g, 1, none⟩ b).setCell ⟨g, 2, none⟩ c).setCell ⟨g, 3, none⟩ d) g [a, b, c, d] := by
  obtain ⟨t, h⟩ := h
  refine ⟨t, ?_⟩
  have h1 := heap_setCell_same w g 0 _ t a h
  have h2 := heap_setCell_same _ g 1 _ t b h1
  have h3 := heap_setCell_same _ g 2 _ t c h2
  have h4 := heap_setCell_same _ g 3 _ t d h3
  rw [h4]
  simp
theorem AC.other4 {w : World} {g g' : Nat} {cs : List Value} (h : AC w g cs) (hn : g ≠ g') (a b c d : Value) :
    AC ((((w.setCell ⟨g', 0, none⟩ a).setCell ⟨g', 1, none⟩ b).setCell ⟨g', 2, none⟩ c).setCell ⟨g', 3, none⟩ d) g cs :=
  (((h.other hn).other hn).other hn).other hn
theorem wrap64_bd (n : Int) : -9223372036854775808 ≤ wrap64 n ∧ wrap64 n ≤ 9223372036854775807 := by unfold wrap64; omega
theorem nil_small : nilS.size ≤ 140737488351232 := by decide
theorem small_int (n : Int) (h : -10 ≤ n ∧ n ≤ 10) : -9223372036854775808 ≤ n ∧ n ≤ 9223372036854775807 := by omega
theorem joined_ok {a b : ActL} (oa : a.Ok) (ob : b.Ok) : (joined a b).Ok := by
  unfold joined
  split
  · exact ⟨small_int 1 (by omega), (by decide : (0 : Nat) < two64), wrap64_bd _, nil_small⟩
  · split
    · exact ⟨small_int 2 (by omega), rmax_lt' oa.x ob.x, small_int 0 (by omega), nil_small⟩
    · split
      · exact ⟨small_int 3 (by omega), rmin_lt oa.x ob.x, small_int 0 (by omega), nil_small⟩
      · exact ob
theorem both_ok {key : ByteArray} {a b : ActL} (oa : a.Ok) (ob : b.Ok) : (bothL key a b).Ok := by
  unfold bothL
  split
  · exact ob
  · exact joined_ok oa ob
theorem valOf_ok {a : ActL} (oa : a.Ok) : (valOf a).Ok := by
  unfold valOf
  split
  · exact noVal_ok
  · exact ⟨oa.x, oa.n, oa.s⟩
theorem after_ok {key : ByteArray} {v : ValL} {a : ActL} (ov : v.Ok) (oa : a.Ok) : (afterL key v a).Ok := by
  unfold afterL
  split
  · refine valOf_ok ?_
    split
    · exact joined_ok ⟨oa.k, ov.x, ov.n, by show (0 : Nat) ≤ _; omega⟩ oa
    · exact oa
  · exact ov
theorem after_ex (key : ByteArray) (v : ValL) (a : ActL) (ov : v.Ok) (oa : a.Ok) : ∃ r : ValL, afterL key v a = r ∧ r.Ok := ⟨_, rfl, after_ok ov oa⟩
theorem both_ex (key : ByteArray) (a b : ActL) (oa : a.Ok) (ob : b.Ok) : ∃ r : ActL, bothL key a b = r ∧ r.Ok := ⟨_, rfl, both_ok oa ob⟩
end Go.Proofs.YtkpikmfijcffiaaGreat
end
