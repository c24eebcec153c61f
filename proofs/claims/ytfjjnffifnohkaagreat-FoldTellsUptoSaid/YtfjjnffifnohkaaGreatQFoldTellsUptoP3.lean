import Derived.Test.YtfjjnffifnohkaaGreatQFoldTellsUptoP1
import Derived.Test.YtfjjnffifnohkaaGreatQFoldTellsUptoP2
import Derived.Outline
import Derived.Deep.RegionLaw
import Derived.Deep.AppendLies

/- acts and values, and what the package op tells of them: plain definitions and their laws; blocks of cells; op.nought, right. By an AI agent. -/
section
namespace Go.Proofs.YtfjjnffifnohkaaGreat
open Go.RowKit

structure ActL where
  k : Int
  x : Nat
  n : Int
  s : ByteArray
structure ValL where
  there : Bool
  x : Nat
  n : Int
  s : ByteArray
def nilS : ByteArray := ⟨#[]⟩
def ActL.v (a : ActL) : Value := .agg #[.int .i64 a.k, .float .f64 a.x, .int .i64 a.n, .string a.s]
def ValL.v (a : ValL) : Value := .agg #[.bool a.there, .float .f64 a.x, .int .i64 a.n, .string a.s]
def noVal : ValL := ⟨false, 0, 0, nilS⟩
/-- ranges of Go's types -/
structure ActL.Ok (a : ActL) : Prop where
  k : -9223372036854775808 ≤ a.k ∧ a.k ≤ 9223372036854775807
  x : a.x < two64
  n : -9223372036854775808 ≤ a.n ∧ a.n ≤ 9223372036854775807
  s : a.s.size ≤ 140737488351232
structure ValL.Ok (a : ValL) : Prop where
  x : a.x < two64
  n : -9223372036854775808 ≤ a.n ∧ a.n ≤ 9223372036854775807
  s : a.s.size ≤ 140737488351232
theorem noVal_ok : noVal.Ok := ⟨by decide, by decide, by decide⟩

def noughtB (x : Nat) : Bool := decide (fkey x = fkey 0)
def rightB (a : ActL) : Bool := decide (a.s.size ≤ 1024) &&
  if a.k = 0 then decide (a.n = 0) && (a.s.toList.isEmpty || noughtB a.x)
  else if a.k = 1 then noughtB a.x && a.s.toList.isEmpty
  else if a.k = 2 ∨ a.k = 3 then decide (a.n = 0) && a.s.toList.isEmpty
  else if a.k = 4 then noughtB a.x && (decide (a.n = 0) && a.s.toList.isEmpty)
  else false
/-- a key's first byte -/
def hd (key : ByteArray) : Nat := (key.data.toList.headD 0).toNat
def isKeyB (key : ByteArray) : Bool := !key.toList.isEmpty && (decide (key.size ≤ 64) && (decide (hd key = 114) || (decide (hd key = 116) || (decide (hd key = 99) || (decide (hd key = 120) || decide (hd key = 110))))))
def fitsB (key : ByteArray) (a : ActL) : Bool := isKeyB key && (rightB a &&
  if hd key = 114 then (decide (a.k = 0) && a.s.toList.isEmpty) || decide (a.k = 4)
  else if hd key = 116 then (decide (a.k = 0) && noughtB a.x) || decide (a.k = 4)
  else if hd key = 99 then decide (a.k = 1)
  else if hd key = 120 then decide (a.k = 2)
  else decide (a.k = 3))
def regB (key : ByteArray) : Bool := decide (hd key = 114) || decide (hd key = 116)
def joined (a b : ActL) : ActL :=
  if b.k = 1 then ⟨1, 0, wrap64 (a.n + b.n), nilS⟩
  else if b.k = 2 then ⟨2, rmax a.x b.x, 0, nilS⟩
  else if b.k = 3 then ⟨3, rmin a.x b.x, 0, nilS⟩
  else b
def bothL (key : ByteArray) (a b : ActL) : ActL := if regB key || (!fitsB key a || !fitsB key b) then b else joined a b
def valOf (a : ActL) : ValL := if a.k = 4 then noVal else ⟨true, a.x, a.n, a.s⟩
def afterL (key : ByteArray) (v : ValL) (a : ActL) : ValL :=
  if fitsB key a then valOf (if v.there && !regB key then joined ⟨a.k, v.x, v.n, nilS⟩ a else a) else v
def sameV (v u : ValL) : Bool := decide (v.there = u.there) && (decide (fkey v.x = fkey u.x) && (decide (v.n = u.n) && (v.s.toList == u.s.toList)))
def sameA (v u : ActL) : Bool := decide (v.k = u.k) && (decide (fkey v.x = fkey u.x) && (decide (v.n = u.n) && (v.s.toList == u.s.toList)))
theorem sameV_refl (v : ValL) : sameV v v = true := by simp [sameV]
theorem sameV_of {v u : ValL} (h1 : v.there = u.there) (h2 : fkey v.x = fkey u.x) (h3 : v.n = u.n) (h4 : v.s = u.s) : sameV v u = true := by simp [sameV, h1, h2, h3, h4]

theorem nil_of {s : ByteArray} (h : s.toList = []) : s = nilS := by
  rw [ByteArray.toList_eq] at h
  obtain ⟨⟨l⟩⟩ := s
  cases l with
  | nil => rfl
  | cons a l => cases h
theorem nil_list : nilS.toList = [] := by rw [ByteArray.toList_eq]; rfl
theorem nought_eq {x : Nat} (hx : x < two64) (h : noughtB x = true) : x = 0 := by
  simp only [noughtB, decide_eq_true_eq] at h
  exact fkey_inj' hx (by decide) h (by decide)

theorem fits_key {key : ByteArray} {a : ActL} (h : fitsB key a = true) : isKeyB key = true ∧ rightB a = true := by
  simp only [fitsB, Bool.and_eq_true] at h
  exact ⟨h.1, h.2.1⟩
theorem key_head {key : ByteArray} (h : isKeyB key = true) : hd key = 114 ∨ hd key = 116 ∨ hd key = 99 ∨ hd key = 120 ∨ hd key = 110 := by
  simp only [isKeyB, Bool.and_eq_true, Bool.or_eq_true, decide_eq_true_eq] at h
  exact h.2.2

theorem fits_add {key : ByteArray} {a : ActL} (ok : a.Ok) (hk : hd key = 99) (h : fitsB key a = true) : a = ⟨1, 0, a.n, nilS⟩ := by
  have hr := (fits_key h).2
  simp only [fitsB, Bool.and_eq_true, hk] at h
  have k1 : a.k = 1 := by simpa using h.2.2
  simp only [rightB, k1, Bool.and_eq_true] at hr
  have h2 := hr.2
  simp at h2
  obtain ⟨k, x, n, s⟩ := a
  simp only at k1 h2
  obtain rfl : s = nilS := nil_of h2.2
  obtain rfl : x = 0 := nought_eq ok.x h2.1
  subst k1; rfl
theorem fits_max {key : ByteArray} {a : ActL} (hk : hd key = 120) (h : fitsB key a = true) : a = ⟨2, a.x, 0, nilS⟩ := by
  have hr := (fits_key h).2
  simp only [fitsB, Bool.and_eq_true, hk] at h
  have k1 : a.k = 2 := by simpa using h.2.2
  simp only [rightB, k1, Bool.and_eq_true] at hr
  have h2 := hr.2
  simp at h2
  obtain ⟨k, x, n, s⟩ := a
  simp only at k1 h2
  obtain rfl : s = nilS := nil_of h2.2
  obtain rfl : n = 0 := h2.1
  subst k1; rfl
theorem fits_min {key : ByteArray} {a : ActL} (hk : hd key = 110) (h : fitsB key a = true) : a = ⟨3, a.x, 0, nilS⟩ := by
  have hr := (fits_key h).2
  simp only [fitsB, Bool.and_eq_true, hk] at h
  have k1 : a.k = 3 := by simpa using h.2.2
  simp only [rightB, k1, Bool.and_eq_true] at hr
  have h2 := hr.2
  simp at h2
  obtain ⟨k, x, n, s⟩ := a
  simp only at k1 h2
  obtain rfl : s = nilS := nil_of h2.2
  obtain rfl : n = 0 := h2.1
  subst k1; rfl
theorem nought_zero : noughtB 0 = true := by decide
theorem right_add (n : Int) : rightB ⟨1, 0, n, nilS⟩ = true := by simp [rightB, nil_list, nought_zero, show nilS.size = 0 from rfl]
theorem right_max (x : Nat) : rightB ⟨2, x, 0, nilS⟩ = true := by simp [rightB, nil_list, show nilS.size = 0 from rfl]
theorem right_min (x : Nat) : rightB ⟨3, x, 0, nilS⟩ = true := by simp [rightB, nil_list, show nilS.size = 0 from rfl]
theorem fits_add' {key : ByteArray} (hi : isKeyB key = true) (hk : hd key = 99) (n : Int) : fitsB key ⟨1, 0, n, nilS⟩ = true := by simp [fitsB, hi, right_add, hk]
theorem fits_max' {key : ByteArray} (hi : isKeyB key = true) (hk : hd key = 120) (x : Nat) : fitsB key ⟨2, x, 0, nilS⟩ = true := by simp [fitsB, hi, right_max, hk]
theorem fits_min' {key : ByteArray} (hi : isKeyB key = true) (hk : hd key = 110) (x : Nat) : fitsB key ⟨3, x, 0, nilS⟩ = true := by simp [fitsB, hi, right_min, hk]

theorem after_reg {key : ByteArray} {a : ActL} (v : ValL) (hr : regB key = true) (h : fitsB key a = true) : afterL key v a = valOf a := by simp [afterL, h, hr]
theorem both_reg {key : ByteArray} {a b : ActL} (hr : regB key = true) : bothL key a b = b := by simp [bothL, hr]
theorem after_add {key : ByteArray} (v : ValL) (hi : isKeyB key = true) (hk : hd key = 99) (n : Int) : afterL key v ⟨1, 0, n, nilS⟩ = ⟨true, 0, if v.there then wrap64 (v.n + n) else n, nilS⟩ := by
  have hr : regB key = false := by simp [regB, hk]
  cases ht : v.there <;> simp [afterL, fits_add' hi hk, hr, ht, joined, valOf]
theorem after_max {key : ByteArray} (v : ValL) (hi : isKeyB key = true) (hk : hd key = 120) (x : Nat) : afterL key v ⟨2, x, 0, nilS⟩ = ⟨true, if v.there then rmax v.x x else x, 0, nilS⟩ := by
  have hr : regB key = false := by simp [regB, hk]
  cases ht : v.there <;> simp [afterL, fits_max' hi hk, hr, ht, joined, valOf]
theorem after_min {key : ByteArray} (v : ValL) (hi : isKeyB key = true) (hk : hd key = 110) (x : Nat) : afterL key v ⟨3, x, 0, nilS⟩ = ⟨true, if v.there then rmin v.x x else x, 0, nilS⟩ := by
  have hr : regB key = false := by simp [regB, hk]
  cases ht : v.there <;> simp [afterL, fits_min' hi hk, hr, ht, joined, valOf]
theorem both_add {key : ByteArray} (hi : isKeyB key = true) (hk : hd key = 99) (m n : Int) : bothL key ⟨1, 0, m, nilS⟩ ⟨1, 0, n, nilS⟩ = ⟨1, 0, wrap64 (m + n), nilS⟩ := by
  have hr : regB key = false := by simp [regB, hk]
  simp [bothL, hr, fits_add' hi hk, joined]
theorem both_max {key : ByteArray} (hi : isKeyB key = true) (hk : hd key = 120) (x y : Nat) : bothL key ⟨2, x, 0, nilS⟩ ⟨2, y, 0, nilS⟩ = ⟨2, rmax x y, 0, nilS⟩ := by
  have hr : regB key = false := by simp [regB, hk]
  simp [bothL, hr, fits_max' hi hk, joined]
theorem both_min {key : ByteArray} (hi : isKeyB key = true) (hk : hd key = 110) (x y : Nat) : bothL key ⟨3, x, 0, nilS⟩ ⟨3, y, 0, nilS⟩ = ⟨3, rmin x y, 0, nilS⟩ := by
  have hr : regB key = false := by simp [regB, hk]
  simp [bothL, hr, fits_min' hi hk, joined]


/-- the plain law of OpTogether -/
theorem together {key : ByteArray} {a b c : ActL} (v : ValL) (oa : a.Ok) (ob : b.Ok) (oc : c.Ok) (ha : fitsB key a = true) (hb : fitsB key b = true) (hc : fitsB key c = true) :
    sameV (afterL key (afterL key (afterL key v a) b) c) (afterL key v (bothL key (bothL key a b) c)) = true ∧
    sameV (afterL key (afterL key (afterL key v a) b) c) (afterL key v (bothL key a (bothL key b c))) = true ∧
    (regB key = true → sameV (afterL key (afterL key (afterL key v a) b) c) (afterL key noVal c) = true) ∧
    (regB key = false → sameV (afterL key (afterL key (afterL key v a) b) c) (afterL key (afterL key (afterL key v c) a) b) = true ∧ fitsB key (bothL key a b) = true) := by
  have hi := (fits_key ha).1
  cases hr : regB key
  · refine ⟨?_, ?_, (fun h => nomatch h), fun _ => ?_⟩
    all_goals
      rcases key_head hi with h | h | h | h | h
      · simp [regB, h] at hr
      · simp [regB, h] at hr
      · rw [fits_add oa h ha, fits_add ob h hb, fits_add oc h hc]
        simp only [after_add _ hi h, both_add hi h, fits_add' hi h, if_true]
        cases v.there <;> (try refine ⟨?_, trivial⟩) <;> (refine sameV_of rfl rfl ?_ rfl; first | (simp; done) | (simp; unfold wrap64; omega))
      · rw [fits_max h ha, fits_max h hb, fits_max h hc]
        simp only [after_max _ hi h, both_max hi h, fits_max' hi h, if_true]
        cases v.there <;> (try refine ⟨?_, trivial⟩) <;> (refine sameV_of rfl ?_ rfl rfl; first | (simp [rmax_key']; done) | (simp [rmax_key']; omega))
      · rw [fits_min h ha, fits_min h hb, fits_min h hc]
        simp only [after_min _ hi h, both_min hi h, fits_min' hi h, if_true]
        cases v.there <;> (try refine ⟨?_, trivial⟩) <;> (refine sameV_of rfl ?_ rfl rfl; first | (simp [rmin_key]; done) | (simp [rmin_key]; omega))
  · refine ⟨?_, ?_, fun _ => ?_, (fun h => nomatch h)⟩
    all_goals
      simp only [both_reg hr, after_reg _ hr hc, sameV_refl]
end Go.Proofs.YtfjjnffifnohkaaGreat

namespace Go.Proofs.YtfjjnffifnohkaaGreat
open Go.RowKit

def ActL.cs (a : ActL) : List Value := [.int .i64 a.k, .float .f64 a.x, .int .i64 a.n, .string a.s]
def ValL.cs (a : ValL) : List Value := [.bool a.there, .float .f64 a.x, .int .i64 a.n, .string a.s]
theorem AC.act {w : World} {g : Nat} {k n : Int} {x : Nat} {s : ByteArray} (h : AC w g [.int .i64 k, .float .f64 x, .int .i64 n, .string s]) :
    w.cell? ⟨g, 0, none⟩ = some (.int .i64 k) ∧ w.cell? ⟨g, 1, none⟩ = some (.float .f64 x) ∧ w.cell? ⟨g, 2, none⟩ = some (.int .i64 n) ∧ w.cell? ⟨g, 3, none⟩ = some (.string s) :=
  ⟨h.cell 0 _ rfl, h.cell 1 _ rfl, h.cell 2 _ rfl, h.cell 3 _ rfl⟩
theorem AC.val {w : World} {g : Nat} {b : Bool} {n : Int} {x : Nat} {s : ByteArray} (h : AC w g [.bool b, .float .f64 x, .int .i64 n, .string s]) :
    w.cell? ⟨g, 0, none⟩ = some (.bool b) ∧ w.cell? ⟨g, 1, none⟩ = some (.float .f64 x) ∧ w.cell? ⟨g, 2, none⟩ = some (.int .i64 n) ∧ w.cell? ⟨g, 3, none⟩ = some (.string s) :=
  ⟨h.cell 0 _ rfl, h.cell 1 _ rfl, h.cell 2 _ rfl, h.cell 3 _ rfl⟩

theorem nought_any (x : Nat) (w : World) (hx : x < two64) : Calls Tryz.prog 123 #[.float .f64 x] w fun e w' => e = .returned (.bool (noughtB x)) ∧ Bl w w' := by
  go_enter Tryz.func123, Tryz.ntmps123
  go_wp2_with fail
  refine (rsameF_any x 0 _ hx (by decide)).mono ?_
  rintro e w1 ⟨rfl, hb1⟩
  go_wp2_with fail
  go_ret
  exact ⟨rfl, hb1⟩

theorem hd_get {s : ByteArray} (h : 0 < s.size) : (s[0]'h).toNat = hd s := by
  obtain ⟨⟨l⟩⟩ := s
  cases l with
  | nil => exact absurd h (by decide)
  | cons a l => rfl
theorem pos_of {s : ByteArray} (h : ¬ s.toList = []) : 0 < s.size := by
  rw [ByteArray.toList_eq] at h
  obtain ⟨⟨l⟩⟩ := s
  cases l with
  | nil => exact absurd rfl h
  | cons a l => simp [ByteArray.size]

set_option maxHeartbeats 800000 in
set_option maxRecDepth 100000 in
theorem right_any (a : ActL) (w : World) (ok : a.Ok) : Calls Tryz.prog 122 #[a.v] w fun e w' => e = .returned (.bool (rightB a)) ∧ Bl w w' := by
  obtain ⟨k, x, n, s⟩ := a
  obtain ⟨hk, hx, hn, hs⟩ := ok
  simp only at hk hx hn hs
  show Calls Tryz.prog 122 #[.agg #[.int .i64 k, .float .f64 x, .int .i64 n, .string s]] w _
  go_enter Tryz.func122, Tryz.ntmps122
  go_wp2_with (first | (refine (nought_any _ _ hx).mono ?_; rintro e w' ⟨rfl, hb⟩; obtain ⟨c0, c1, c2, c3⟩ := ((AC.new w _ rfl [_, _, _, _] _).keep hb).act) | fail)
  all_goals (go_ret; refine ⟨ret_bool ?_, ?_⟩)
  all_goals first | exact (Bl.refl w).alloc _ | exact ((Bl.refl w).alloc _).trans (by assumption) | skip
  all_goals (unfold rightB; simp_all; try omega)
theorem store_float (a : Addr) (b : Nat) (w : World) : (store a (.float .f64 b)).run Tryz.prog w = stored Tryz.prog w a (.float .f64 b) .plain := run_store Tryz.prog w a _ .plain rfl
theorem Bl.store4 {w W : World} (h : Bl w W) {g : Nat} (hg : w.heap.size ≤ g) (a b c d : Value) : Bl w ((((W.setCell ⟨g, 0, none⟩ a).setCell ⟨g, 1, none⟩ b).setCell ⟨g, 2, none⟩ c).setCell ⟨g, 3, none⟩ d) :=
  Below.setCell (p := ⟨g, 3, none⟩) (Below.setCell (p := ⟨g, 2, none⟩) (Below.setCell (p := ⟨g, 1, none⟩) (Below.setCell (p := ⟨g, 0, none⟩) h hg _) hg _) hg _) hg _


theorem AC.set4 {w : World} {g : Nat} {a0 b0 c0 d0 : Value} (h : AC w g [a0, b0, c0, d0]) (a b c d : Value) :
    AC ((((w.setCell ⟨g, 0, none⟩ a).setCell ⟨g, 1, none⟩ b).setCell ⟨g, 2, none⟩ c).setCell ⟨g, 3, none⟩ d) g [a, b, c, d] := by
  obtain ⟨t, h⟩ := h
  refine ⟨t, ?_⟩
  have h1 := heap_setCell_same w g 0 _ t a h
  have h2 := heap_setCell_same _ g 1 _ t b h1
  have h3 := heap_setCell_same _ g 2 _ t c h2
  have h4 := heap_setCell_same _ g 3 _ t d h3
  rw [h4]
  simp
theorem AC.other4 {w : World} {g g' : Nat} {cs : List Value} (h : AC w g cs) (hn : g ≠ g') (a b c d : Value) :
    AC ((((w.setCell ⟨g', 0, none⟩ a).setCell ⟨g', 1, none⟩ b).setCell ⟨g', 2, none⟩ c).setCell ⟨g', 3, none⟩ d) g cs :=
  (((h.other hn).other hn).other hn).other hn
theorem wrap64_bd (n : Int) : -9223372036854775808 ≤ wrap64 n ∧ wrap64 n ≤ 9223372036854775807 := by unfold wrap64; omega
theorem nil_small : nilS.size ≤ 140737488351232 := by decide
theorem small_int (n : Int) (h : -10 ≤ n ∧ n ≤ 10) : -9223372036854775808 ≤ n ∧ n ≤ 9223372036854775807 := by omega
theorem joined_ok {a b : ActL} (oa : a.Ok) (ob : b.Ok) : (joined a b).Ok := by
  unfold joined
  split
  · exact ⟨small_int 1 (by omega), (by decide : (0 : Nat) < two64), wrap64_bd _, nil_small⟩
  · split
    · exact ⟨small_int 2 (by omega), rmax_lt' oa.x ob.x, small_int 0 (by omega), nil_small⟩
    · split
      · exact ⟨small_int 3 (by omega), rmin_lt oa.x ob.x, small_int 0 (by omega), nil_small⟩
      · exact ob
theorem both_ok {key : ByteArray} {a b : ActL} (oa : a.Ok) (ob : b.Ok) : (bothL key a b).Ok := by
  unfold bothL
  split
  · exact ob
  · exact joined_ok oa ob
theorem valOf_ok {a : ActL} (oa : a.Ok) : (valOf a).Ok := by
  unfold valOf
  split
  · exact noVal_ok
  · exact ⟨oa.x, oa.n, oa.s⟩
theorem after_ok {key : ByteArray} {v : ValL} {a : ActL} (ov : v.Ok) (oa : a.Ok) : (afterL key v a).Ok := by
  unfold afterL
  split
  · refine valOf_ok ?_
    split
    · exact joined_ok ⟨oa.k, ov.x, ov.n, by show (0 : Nat) ≤ _; omega⟩ oa
    · exact oa
  · exact ov
end Go.Proofs.YtfjjnffifnohkaaGreat
end

/- ikey.IsKey; op.Fits; op.registers, joined; op.After. By an AI agent. -/
section
namespace Go.Proofs.YtfjjnffifnohkaaGreat
open Go.RowKit

theorem u8_num (c : UInt8) (k : Nat) (hk : k < 256) : decide (c.toNat = k) = (c == UInt8.ofNat k) := by
  rw [Bool.eq_iff_iff, decide_eq_true_eq, beq_iff_eq]
  constructor
  · rintro rfl; simp
  · rintro rfl; simp; omega
theorem idx5 (c : UInt8) : decide (0 ≤ Lib.indexByte [114, 116, 99, 120, 110] c) = (decide (c.toNat = 114) || (decide (c.toNat = 116) || (decide (c.toNat = 99) || (decide (c.toNat = 120) || decide (c.toNat = 110))))) := by
  rw [u8_num c 114 (by decide), u8_num c 116 (by decide), u8_num c 99 (by decide), u8_num c 120 (by decide), u8_num c 110 (by decide)]
  have h : ∀ n : Fin 256, decide (0 ≤ Lib.indexByte [114, 116, 99, 120, 110] (UInt8.ofNat n.val)) = ((UInt8.ofNat n.val) == UInt8.ofNat 114 || ((UInt8.ofNat n.val) == UInt8.ofNat 116 || ((UInt8.ofNat n.val) == UInt8.ofNat 99 || ((UInt8.ofNat n.val) == UInt8.ofNat 120 || (UInt8.ofNat n.val) == UInt8.ofNat 110)))) := by decide +kernel
  have h1 := h ⟨c.toNat, c.toNat_lt⟩
  have h2 : UInt8.ofNat c.toNat = c := UInt8.ofNat_toNat
  simp only [h2] at h1
  exact h1
set_option maxRecDepth 100000 in
theorem isKey_any (s : ByteArray) (w : World) (hs : s.size ≤ 140737488351232) : Calls Tryz.prog 25 #[.string s] w fun e w' => e = .returned (.bool (isKeyB s)) ∧ w = w' := by
  by_cases h0 : s.toList = []
  · go_enter Tryz.func25, Tryz.ntmps25
    go_wp2_with fail
    go_ret
    exact ⟨ret_bool (by simp [isKeyB, h0]), rfl⟩
  · have hp := pos_of h0
    have h1 : s.toList.isEmpty = false := by simpa using h0
    by_cases h64 : s.size ≤ 64
    · have HI := Lib.hid (idx5 (s[0]'hp))
      have HH := Lib.hid (hd_get hp)
      have H1 := Lib.hid h1
      clear h0
      go_enter Tryz.func25, Tryz.ntmps25
      go_wp2_with (first | (refine (Tryz.strings_IndexByte _ _ _).mono ?_; rintro e w' ⟨rfl, rfl⟩) | fail)
      go_ret
      refine ⟨ret_bool ?_, rfl⟩
      have h2 : (s[0]'hp).toNat.toUInt8 = s[0]'hp := by simp
      have h3 : (s.toList.isEmpty) = false := H1.out
      simp [isKeyB, h3, h64, ← HH.out, ← HI.out]
    · clear h0
      go_enter Tryz.func25, Tryz.ntmps25
      go_wp2_with fail
      go_ret
      exact ⟨ret_bool (by simp [isKeyB, h64]), rfl⟩

end Go.Proofs.YtfjjnffifnohkaaGreat

namespace Go.Proofs.YtfjjnffifnohkaaGreat
open Go.RowKit

theorem key_pos {key : ByteArray} (h : isKeyB key = true) : 0 < key.size := by
  refine pos_of fun h0 => ?_
  simp [isKeyB, h0] at h
theorem hd_lt (key : ByteArray) : hd key < 256 := UInt8.toNat_lt _

set_option maxHeartbeats 1600000 in
set_option maxRecDepth 100000 in
theorem fits_any (key : ByteArray) (a : ActL) (w : World) (hkey : key.size ≤ 140737488351232) (ok : a.Ok) : Calls Tryz.prog 28 #[.string key, a.v] w fun e w' => e = .returned (.bool (fitsB key a)) ∧ Bl w w' := by
  obtain ⟨k, x, n, s⟩ := a
  have OK := Lib.hid ok
  obtain ⟨hk, hx, hn, hs⟩ := ok
  simp only at hk hx hn hs
  show Calls Tryz.prog 28 #[.string key, .agg #[.int .i64 k, .float .f64 x, .int .i64 n, .string s]] w _
  cases hi : isKeyB key
  · have HI := Lib.hid hi
    go_enter Tryz.func28, Tryz.ntmps28
    go_wp2_with fail
    refine (isKey_any key _ hkey).mono ?_
    rintro e w1 ⟨rfl, rfl⟩
    rw [hi]
    clear hi
    go_wp2_with fail
    go_ret
    exact ⟨ret_bool (by simp [fitsB, HI.out]), (Bl.refl w).alloc _⟩
  · have HI := Lib.hid hi
    have hp := key_pos hi
    have HH := Lib.hid (hd_get hp)
    have HLT := Lib.hid (hd_lt key)
    go_enter Tryz.func28, Tryz.ntmps28
    go_wp2_with fail
    refine (isKey_any key _ hkey).mono ?_
    rintro e w1 ⟨rfl, rfl⟩
    rw [hi]
    clear hi
    go_wp2_with fail
    refine (right_any ⟨k, x, n, s⟩ _ OK.out).mono ?_
    rintro e w1 ⟨rfl, hb1⟩
    obtain ⟨c0, c1, c2, c3⟩ := ((AC.new w _ rfl [_, _, _, _] _).keep hb1).act
    have hbw := ((Bl.refl w).alloc _).trans hb1
    cases hr : rightB ⟨k, x, n, s⟩
    · have HR := Lib.hid hr; clear hr
      go_wp2_with fail
      go_ret
      exact ⟨ret_bool (by simp [fitsB, HR.out]), hbw⟩
    · have HR := Lib.hid hr; clear hr
      clear hb1
      go_wp2_with (first | (refine (nought_any _ _ hx).mono ?_; rintro e w' ⟨rfl, hb⟩; have d0 := hb.cell c0) | fail)
      all_goals (go_ret; refine ⟨ret_bool ?_, ?_⟩)
      all_goals first | exact hbw | exact hbw.trans (by assumption) | skip
      all_goals (
        have h1 := HH.out
        have h2 := HR.out
        have h3 := HI.out
        have h4 := key_head h3
        clear HH HR HI HLT OK
        unfold fitsB
        rcases h4 with h4 | h4 | h4 | h4 | h4 <;> simp_all
        all_goals first | omega | (rw [Bool.eq_iff_iff]; simp) | skip)
end Go.Proofs.YtfjjnffifnohkaaGreat

namespace Go.Proofs.YtfjjnffifnohkaaGreat
open Go.RowKit

theorem first_byte {s : ByteArray} (c : UInt8) (h : 1 ≤ s.size) : ((s.extract 0 1).toList == [c]) = decide (hd s = c.toNat) := by
  obtain ⟨⟨l⟩⟩ := s
  cases l with
  | nil => exact absurd h (by decide)
  | cons a l =>
    have e : ((⟨⟨a :: l⟩⟩ : ByteArray).extract 0 1).toList = [a] := by
      rw [ByteArray.toList_eq, ByteArray.data_extract]
      simp
    rw [e, Bool.eq_iff_iff, beq_iff_eq, decide_eq_true_eq]
    show [a] = [c] ↔ a.toNat = c.toNat
    simp [UInt8.toNat_inj]
set_option maxRecDepth 100000 in
theorem prefix_any (s : ByteArray) (c : UInt8) (w : World) (hs : s.size ≤ 140737488351232) : Calls Tryz.prog 185 #[.string s, .string ⟨#[c]⟩] w fun e w' => e = .returned (.bool (decide (1 ≤ s.size) && decide (hd s = c.toNat))) ∧ w = w' := by
  by_cases h1 : 1 ≤ s.size
  · go_enter Tryz.func185, Tryz.ntmps185
    go_wp2
    go_ret
    exact ⟨ret_bool (by rw [first_byte c h1]; simp [h1]), rfl⟩
  · go_enter Tryz.func185, Tryz.ntmps185
    go_wp2
    go_ret
    exact ⟨ret_bool (by simp), rfl⟩
theorem hd_empty {key : ByteArray} (h : ¬ 1 ≤ key.size) : hd key = 0 := by
  obtain ⟨⟨l⟩⟩ := key
  cases l with
  | nil => rfl
  | cons a l => exact absurd (by simp [ByteArray.size]) h
theorem hd_and (key : ByteArray) (c : Nat) (hc : c ≠ 0) : (decide (1 ≤ key.size) && decide (hd key = c)) = decide (hd key = c) := by
  by_cases h : 1 ≤ key.size
  · simp [h]
  · rw [hd_empty h]; simp [Ne.symm hc]
theorem registers_any (key : ByteArray) (w : World) (hs : key.size ≤ 140737488351232) : Calls Tryz.prog 136 #[.string key] w fun e w' => e = .returned (.bool (regB key)) ∧ w = w' := by
  have e1 : (114 : UInt8).toNat = 114 := rfl
  have e2 : (116 : UInt8).toNat = 116 := rfl
  have H1 := Lib.hid (hd_and key 114 (by decide))
  have H2 := Lib.hid (hd_and key 116 (by decide))
  cases hp : (decide (1 ≤ key.size) && decide (hd key = (114 : UInt8).toNat))
  · have HP := Lib.hid hp
    go_enter Tryz.func136, Tryz.ntmps136
    go_wp2_with fail
    refine (prefix_any key 114 _ hs).mono ?_
    rintro e w' ⟨rfl, rfl⟩
    rw [hp]
    clear hp
    go_wp2_with fail
    refine (prefix_any key 116 _ hs).mono ?_
    rintro e w' ⟨rfl, rfl⟩
    go_wp2_with fail
    go_ret
    exact ⟨ret_bool (by rw [regB, ← H1.out, ← H2.out]; have := HP.out; rw [e1] at this; rw [this]; simp), rfl⟩
  · have HP := Lib.hid hp
    go_enter Tryz.func136, Tryz.ntmps136
    go_wp2_with fail
    refine (prefix_any key 114 _ hs).mono ?_
    rintro e w' ⟨rfl, rfl⟩
    rw [hp]
    clear hp
    go_wp2_with fail
    go_ret
    exact ⟨ret_bool (by rw [regB, ← H1.out]; have := HP.out; rw [e1] at this; rw [this]; simp), rfl⟩


set_option maxHeartbeats 1600000 in
set_option maxRecDepth 100000 in
theorem joined_any (a b : ActL) (w : World) (oa : a.Ok) (ob : b.Ok) : Calls Tryz.prog 181 #[a.v, b.v] w fun e w' => e = .returned (joined a b).v ∧ Bl w w' := by
  obtain ⟨k, x, n, s⟩ := a
  obtain ⟨l, y, m, t⟩ := b
  obtain ⟨hk, hx, hn, hs⟩ := oa
  obtain ⟨hl, hy, hm, ht⟩ := ob
  simp only at hk hx hn hs hl hy hm ht
  show Calls Tryz.prog 181 #[.agg #[.int .i64 k, .float .f64 x, .int .i64 n, .string s], .agg #[.int .i64 l, .float .f64 y, .int .i64 m, .string t]] w _
  have hsf := store_float
  by_cases h1 : l = 1
  · subst h1
    go_enter Tryz.func181, Tryz.ntmps181
    go_wp2_with fail
    refine bodyPost_ret (v := (joined ⟨k, x, n, s⟩ ⟨1, y, m, t⟩).v) (by simp [results, Tryz.results181, go_sem, joined, ActL.v, nilS]) rfl ⟨rfl, ?_⟩
    exact (((Bl.refl w).alloc _).alloc _).alloc _
  · have q1 : (l == 1) = false := by simpa using h1
    by_cases h2 : l = 2
    · subst h2
      clear h1
      go_enter Tryz.func181, Tryz.ntmps181
      go_wp2_with fail
      have hB := (((Bl.refl w).alloc (.cells [.int .i64 k, .float .f64 x, .int .i64 n, .string s].toArray 57)).alloc (.cells [.int .i64 2, .float .f64 y, .int .i64 m, .string t].toArray 57)).alloc (.cells [.int .i64 0, .float .f64 0, .int .i64 0, .string ⟨#[]⟩].toArray 57)
      have hA := (((AC.new w _ rfl [.int .i64 k, .float .f64 x, .int .i64 n, .string s] 57).keep ((Bl.refl _).alloc (.cells [.int .i64 2, .float .f64 y, .int .i64 m, .string t].toArray 57))).keep ((Bl.refl _).alloc (.cells [.int .i64 0, .float .f64 0, .int .i64 0, .string ⟨#[]⟩].toArray 57))).act
      have hC := ((AC.new (w.alloc (.cells [.int .i64 k, .float .f64 x, .int .i64 n, .string s].toArray 57)) (w.heap.size + 1) (by simp) [.int .i64 2, .float .f64 y, .int .i64 m, .string t] 57).keep ((Bl.refl _).alloc (.cells [.int .i64 0, .float .f64 0, .int .i64 0, .string ⟨#[]⟩].toArray 57))).act
      have hD := AC.new ((w.alloc (.cells [.int .i64 k, .float .f64 x, .int .i64 n, .string s].toArray 57)).alloc (.cells [.int .i64 2, .float .f64 y, .int .i64 m, .string t].toArray 57)) (w.heap.size + 1 + 1) (by simp) [.int .i64 0, .float .f64 0, .int .i64 0, .string ⟨#[]⟩] 57
      obtain ⟨_, a1, _, _⟩ := hA
      obtain ⟨b0, b1, _, _⟩ := hC
      generalize (((w.alloc (.cells [.int .i64 k, .float .f64 x, .int .i64 n, .string s].toArray 57)).alloc (.cells [.int .i64 2, .float .f64 y, .int .i64 m, .string t].toArray 57)).alloc (.cells [.int .i64 0, .float .f64 0, .int .i64 0, .string ⟨#[]⟩].toArray 57)) = W at *
      go_region_law (go_simp; refine (rmax_any x y _ hx hy).mono ?_; rintro e w' ⟨rfl, hb'⟩; have HB := Bl.ofDrew hb'; have a1' := HB.cell a1; have b0' := HB.cell b0; have b1' := HB.cell b1; have hD' := hD.keep HB; obtain ⟨d0, d1, d2, d3⟩ := hD'.act; have f0 := hD'.frozen 0; have f1 := hD'.frozen 1; have f2 := hD'.frozen 2; have f3 := hD'.frozen 3; dsimp only)
      all_goals (
        have HBW := hB.trans HB
        go_wp2_with fail
        have hN : ∀ j, w.heap.size ≤ (⟨w.heap.size + 1 + 1, j, none⟩ : Addr).block := fun j => by show w.heap.size ≤ w.heap.size + 1 + 1; omega
        refine bodyPost_ret (v := (joined ⟨k, x, n, s⟩ ⟨2, y, m, t⟩).v) (by simp [results, Tryz.results181, go_sem, joined, ActL.v, nilS, d0, d1, d2, d3]) rfl ⟨rfl, ?_⟩
        exact (((HBW.setCell (hN _) _).setCell (hN _) _).setCell (hN _) _).setCell (hN _) _)
    · have q2 : (l == 2) = false := by simpa using h2
      by_cases h3 : l = 3
      · subst h3
        clear h1 h2
        go_enter Tryz.func181, Tryz.ntmps181
        go_wp2_with fail
        have hB := (((Bl.refl w).alloc (.cells [.int .i64 k, .float .f64 x, .int .i64 n, .string s].toArray 57)).alloc (.cells [.int .i64 3, .float .f64 y, .int .i64 m, .string t].toArray 57)).alloc (.cells [.int .i64 0, .float .f64 0, .int .i64 0, .string ⟨#[]⟩].toArray 57)
        have hA := (((AC.new w _ rfl [.int .i64 k, .float .f64 x, .int .i64 n, .string s] 57).keep ((Bl.refl _).alloc (.cells [.int .i64 3, .float .f64 y, .int .i64 m, .string t].toArray 57))).keep ((Bl.refl _).alloc (.cells [.int .i64 0, .float .f64 0, .int .i64 0, .string ⟨#[]⟩].toArray 57))).act
        have hC := ((AC.new (w.alloc (.cells [.int .i64 k, .float .f64 x, .int .i64 n, .string s].toArray 57)) (w.heap.size + 1) (by simp) [.int .i64 3, .float .f64 y, .int .i64 m, .string t] 57).keep ((Bl.refl _).alloc (.cells [.int .i64 0, .float .f64 0, .int .i64 0, .string ⟨#[]⟩].toArray 57))).act
        have hD := AC.new ((w.alloc (.cells [.int .i64 k, .float .f64 x, .int .i64 n, .string s].toArray 57)).alloc (.cells [.int .i64 3, .float .f64 y, .int .i64 m, .string t].toArray 57)) (w.heap.size + 1 + 1) (by simp) [.int .i64 0, .float .f64 0, .int .i64 0, .string ⟨#[]⟩] 57
        obtain ⟨_, a1, _, _⟩ := hA
        obtain ⟨b0, b1, _, _⟩ := hC
        generalize (((w.alloc (.cells [.int .i64 k, .float .f64 x, .int .i64 n, .string s].toArray 57)).alloc (.cells [.int .i64 3, .float .f64 y, .int .i64 m, .string t].toArray 57)).alloc (.cells [.int .i64 0, .float .f64 0, .int .i64 0, .string ⟨#[]⟩].toArray 57)) = W at *
        go_region_law (go_simp; refine (rmin_any x y _ hx hy).mono ?_; rintro e w' ⟨rfl, hb'⟩; have HB := Bl.ofDrew hb'; have a1' := HB.cell a1; have b0' := HB.cell b0; have b1' := HB.cell b1; have hD' := hD.keep HB; obtain ⟨d0, d1, d2, d3⟩ := hD'.act; have f0 := hD'.frozen 0; have f1 := hD'.frozen 1; have f2 := hD'.frozen 2; have f3 := hD'.frozen 3; dsimp only)
        all_goals (
          have HBW := hB.trans HB
          go_wp2_with fail
          have hN : ∀ j, w.heap.size ≤ (⟨w.heap.size + 1 + 1, j, none⟩ : Addr).block := fun j => by show w.heap.size ≤ w.heap.size + 1 + 1; omega
          refine bodyPost_ret (v := (joined ⟨k, x, n, s⟩ ⟨3, y, m, t⟩).v) (by simp [results, Tryz.results181, go_sem, joined, ActL.v, nilS, d0, d1, d2, d3]) rfl ⟨rfl, ?_⟩
          exact (((HBW.setCell (hN _) _).setCell (hN _) _).setCell (hN _) _).setCell (hN _) _)
      · have q3 : (l == 3) = false := by simpa using h3
        have HJ := Lib.hid (show joined ⟨k, x, n, s⟩ ⟨l, y, m, t⟩ = ⟨l, y, m, t⟩ by simp [joined, h1, h2, h3])
        clear h1 h2 h3
        go_enter Tryz.func181, Tryz.ntmps181
        go_wp2_with fail
        rw [HJ.out]
        refine bodyPost_ret (v := ActL.v ⟨l, y, m, t⟩) (by simp [results, Tryz.results181, go_sem, ActL.v]) rfl ⟨rfl, ?_⟩
        exact (((Bl.refl w).alloc _).alloc _).alloc _
end Go.Proofs.YtfjjnffifnohkaaGreat

namespace Go.Proofs.YtfjjnffifnohkaaGreat
open Go.RowKit

structure A3 (w W : World) (vb : Bool) (vx : Nat) (vn : Int) (vs : ByteArray) (k : Int) (x : Nat) (n : Int) (s : ByteArray) : Prop where
  bl : Bl w W
  v : AC W w.heap.size [.bool vb, .float .f64 vx, .int .i64 vn, .string vs]
  a : AC W (w.heap.size + 1) [.int .i64 k, .float .f64 x, .int .i64 n, .string s]
  r : AC W (w.heap.size + 1 + 1) [.bool false, .float .f64 0, .int .i64 0, .string ⟨#[]⟩]
theorem A3.keep {w W W' : World} {vb : Bool} {vx : Nat} {vn : Int} {vs : ByteArray} {k : Int} {x : Nat} {n : Int} {s : ByteArray} (h : A3 w W vb vx vn vs k x n s) (hb : Bl W W') : A3 w W' vb vx vn vs k x n s :=
  ⟨h.bl.trans hb, h.v.keep hb, h.a.keep hb, h.r.keep hb⟩
theorem A3.new (w : World) (vb : Bool) (vx : Nat) (vn : Int) (vs : ByteArray) (k : Int) (x : Nat) (n : Int) (s : ByteArray) (T U V : TypeId) :
    A3 w (((w.alloc (.cells #[.bool vb, .float .f64 vx, .int .i64 vn, .string vs] T)).alloc (.cells #[.int .i64 k, .float .f64 x, .int .i64 n, .string s] U)).alloc (.cells #[.bool false, .float .f64 0, .int .i64 0, .string ⟨#[]⟩] V)) vb vx vn vs k x n s := by
  refine ⟨(((Bl.refl w).alloc _).alloc _).alloc _, ?_, ?_, ?_⟩
  · exact ((AC.new w _ rfl [_, _, _, _] _).keep ((Bl.refl _).alloc _)).keep ((Bl.refl _).alloc _)
  · exact (AC.new _ (w.heap.size + 1) (by simp) [_, _, _, _] _).keep ((Bl.refl _).alloc _)
  · exact AC.new _ (w.heap.size + 1 + 1) (by simp) [_, _, _, _] _

set_option maxHeartbeats 3200000 in
set_option maxRecDepth 100000 in
theorem after_any (key : ByteArray) (v : ValL) (a : ActL) (w : World) (hkey : key.size ≤ 140737488351232) (ov : v.Ok) (oa : a.Ok) :
    Calls Tryz.prog 137 #[.string key, v.v, a.v] w fun e w' => e = .returned (afterL key v a).v ∧ Bl w w' := by
  obtain ⟨k, x, n, s⟩ := a
  obtain ⟨vb, vx, vn, vs⟩ := v
  have OA := Lib.hid oa
  obtain ⟨hk, hx, hn, hs⟩ := oa
  obtain ⟨hvx, hvn, hvs⟩ := ov
  simp only at hk hx hn hs hvx hvn hvs
  show Calls Tryz.prog 137 #[.string key, .agg #[.bool vb, .float .f64 vx, .int .i64 vn, .string vs], .agg #[.int .i64 k, .float .f64 x, .int .i64 n, .string s]] w _
  have hsf := store_float
  go_enter Tryz.func137, Tryz.ntmps137
  go_wp2_with fail
  refine (fits_any key ⟨k, x, n, s⟩ _ hkey OA.out).mono ?_
  rintro e w1 ⟨rfl, hb1⟩
  have G := (A3.new w vb vx vn vs k x n s _ _ _).keep hb1
  clear hb1
  obtain ⟨v0, v1, v2, v3⟩ := G.v.val
  obtain ⟨a0, a1, a2, a3⟩ := G.a.act
  obtain ⟨r0, r1, r2, r3⟩ := G.r.val
  have f0 := G.r.frozen 0
  have f1 := G.r.frozen 1
  have f2 := G.r.frozen 2
  have f3 := G.r.frozen 3
  cases hf : fitsB key ⟨k, x, n, s⟩
  · have HF := Lib.hid (show afterL key ⟨vb, vx, vn, vs⟩ ⟨k, x, n, s⟩ = ⟨vb, vx, vn, vs⟩ by simp [afterL, hf])
    clear hf
    go_wp2_with fail
    rw [HF.out]
    refine bodyPost_ret (v := ValL.v ⟨vb, vx, vn, vs⟩) (by simp [results, Tryz.results137, go_sem, ValL.v, r0, r1, r2, r3]) rfl ⟨rfl, ?_⟩
    exact G.bl.store4 (by omega) _ _ _ _
  · -- the end, from what the act has become
    cases hth : (vb && !regB key)
    · have HF := Lib.hid (show afterL key ⟨vb, vx, vn, vs⟩ ⟨k, x, n, s⟩ = valOf ⟨k, x, n, s⟩ by simp only [afterL, hf, hth]; rfl)
      have HTH := Lib.hid hth
      have hreg : vb = false ∨ regB key = true := by
        cases vb
        · exact .inl rfl
        · right; simpa using hth
      clear hf hth
      by_cases h4 : k = 4
      · subst h4
        rcases hreg with rfl | hreg
        · go_wp2_with fail
          rw [HF.out]
          refine bodyPost_ret (v := (valOf ⟨4, x, n, s⟩).v) (by simp [results, Tryz.results137, go_sem, ValL.v, valOf, noVal, nilS, r0, r1, r2, r3]) rfl ⟨rfl, ?_⟩
          exact G.bl.store4 (by omega) _ _ _ _
        · cases vb
          · go_wp2_with fail
            rw [HF.out]
            refine bodyPost_ret (v := (valOf ⟨4, x, n, s⟩).v) (by simp [results, Tryz.results137, go_sem, ValL.v, valOf, noVal, nilS, r0, r1, r2, r3]) rfl ⟨rfl, ?_⟩
            exact G.bl.store4 (by omega) _ _ _ _
          · go_wp2_with fail
            refine (registers_any key _ hkey).mono ?_
            rintro e w' ⟨rfl, rfl⟩
            rw [hreg]
            go_wp2_with fail
            rw [HF.out]
            refine bodyPost_ret (v := (valOf ⟨4, x, n, s⟩).v) (by simp [results, Tryz.results137, go_sem, ValL.v, valOf, noVal, nilS, r0, r1, r2, r3]) rfl ⟨rfl, ?_⟩
            exact G.bl.store4 (by omega) _ _ _ _
      · have q4 : (k == 4) = false := by simpa using h4
        have HV := Lib.hid (show valOf ⟨k, x, n, s⟩ = ⟨true, x, n, s⟩ by simp [valOf, h4])
        clear h4
        rcases hreg with rfl | hreg
        · go_wp2_with fail
          rw [HF.out, HV.out]
          refine bodyPost_ret (v := ValL.v ⟨true, x, n, s⟩) (by simp [results, Tryz.results137, go_sem, ValL.v, r0, r1, r2, r3]) rfl ⟨rfl, ?_⟩
          exact G.bl.store4 (by omega) _ _ _ _
        · cases vb
          · go_wp2_with fail
            rw [HF.out, HV.out]
            refine bodyPost_ret (v := ValL.v ⟨true, x, n, s⟩) (by simp [results, Tryz.results137, go_sem, ValL.v, r0, r1, r2, r3]) rfl ⟨rfl, ?_⟩
            exact G.bl.store4 (by omega) _ _ _ _
          · go_wp2_with fail
            refine (registers_any key _ hkey).mono ?_
            rintro e w' ⟨rfl, rfl⟩
            rw [hreg]
            go_wp2_with fail
            rw [HF.out, HV.out]
            refine bodyPost_ret (v := ValL.v ⟨true, x, n, s⟩) (by simp [results, Tryz.results137, go_sem, ValL.v, r0, r1, r2, r3]) rfl ⟨rfl, ?_⟩
            exact G.bl.store4 (by omega) _ _ _ _
    · obtain ⟨rfl, hreg⟩ : vb = true ∧ regB key = false := by simpa using hth
      have HF := Lib.hid (show afterL key ⟨true, vx, vn, vs⟩ ⟨k, x, n, s⟩ = valOf (joined ⟨k, vx, vn, nilS⟩ ⟨k, x, n, s⟩) by simp only [afterL, hf, hth]; rfl)
      clear hf hth
      go_wp2_with fail
      refine (registers_any key _ hkey).mono ?_
      rintro e w' ⟨rfl, rfl⟩
      rw [hreg]
      have ca0 := fun o => ((Bl.refl w1).alloc o).cell a0
      have ca1 := fun o => ((Bl.refl w1).alloc o).cell a1
      have ca2 := fun o => ((Bl.refl w1).alloc o).cell a2
      have ca3 := fun o => ((Bl.refl w1).alloc o).cell a3
      go_wp2_with fail
      clear ca0 ca1 ca2 ca3
      refine (joined_any ⟨k, vx, vn, nilS⟩ ⟨k, x, n, s⟩ _ ⟨hk, hvx, hvn, by show (0 : Nat) ≤ _; omega⟩ OA.out).mono ?_
      rintro e w2 ⟨rfl, hb2⟩
      generalize joined ⟨k, vx, vn, nilS⟩ ⟨k, x, n, s⟩ = J at *
      obtain ⟨jk, jx, jn, js⟩ := J
      have G := G.keep (((Bl.refl w1).alloc _).trans hb2)
      clear v0 v1 v2 v3 a0 a1 a2 a3 r0 r1 r2 r3 f0 f1 f2 f3
      obtain ⟨a0, a1, a2, a3⟩ := G.a.act
      obtain ⟨r0, r1, r2, r3⟩ := G.r.val
      have f0 := G.r.frozen 0
      have f1 := G.r.frozen 1
      have f2 := G.r.frozen 2
      have f3 := G.r.frozen 3
      have g0 := G.a.frozen 0
      have g1 := G.a.frozen 1
      have g2 := G.a.frozen 2
      have g3 := G.a.frozen 3
      rw [show ActL.v ⟨jk, jx, jn, js⟩ = .agg #[.int .i64 jk, .float .f64 jx, .int .i64 jn, .string js] from rfl]
      have hbs := (G.bl.store4 (g := w.heap.size + 1) (by omega) (.int .i64 jk) (.float .f64 jx) (.int .i64 jn) (.string js))
      by_cases h4 : jk = 4
      · subst h4
        go_wp2_with fail
        rw [HF.out]
        refine bodyPost_ret (v := (valOf ⟨4, jx, jn, js⟩).v) (by simp [results, Tryz.results137, go_sem, ValL.v, valOf, noVal, nilS, r0, r1, r2, r3]) rfl ⟨rfl, ?_⟩
        exact hbs.store4 (by omega) _ _ _ _
      · have q4 : (jk == 4) = false := by simpa using h4
        have HV := Lib.hid (show valOf ⟨jk, jx, jn, js⟩ = ⟨true, jx, jn, js⟩ by simp [valOf, h4])
        clear h4
        go_wp2_with fail
        rw [HF.out, HV.out]
        refine bodyPost_ret (v := ValL.v ⟨true, jx, jn, js⟩) (by simp [results, Tryz.results137, go_sem, ValL.v, r0, r1, r2, r3]) rfl ⟨rfl, ?_⟩
        exact hbs.store4 (by omega) _ _ _ _

end Go.Proofs.YtfjjnffifnohkaaGreat
end
