import Derived.Test.YtibabgokmacnaaaGreatQGossipPlaysUptoP8
import Derived.Outline
import Derived.Deep.RegionLaw
import Derived.Deep.AppendLies
import Derived.Test.YtibabgokmacnaaaGreatQGossipPlaysUptoP7

/- acts and values, and what the package op tells of them: plain definitions and their laws; blocks of cells; op.nought, right. By an AI agent. -/
section
namespace Go.Proofs.YtibabgokmacnaaaGreat
open Go.RowKit

structure ActL where
  k : Int
  x : Nat
  n : Int
  s : ByteArray
structure ValL where
  there : Bool
  x : Nat
  n : Int
  s : ByteArray
def nilS : ByteArray := ⟨#[]⟩
def ActL.v (a : ActL) : Value := .agg #[.int .i64 a.k, .float .f64 a.x, .int .i64 a.n, .string a.s]
def ValL.v (a : ValL) : Value := .agg #[.bool a.there, .float .f64 a.x, .int .i64 a.n, .string a.s]
def noVal : ValL := ⟨false, 0, 0, nilS⟩
/-- ranges of Go's types -/
structure ActL.Ok (a : ActL) : Prop where
  k : -9223372036854775808 ≤ a.k ∧ a.k ≤ 9223372036854775807
  x : a.x < two64
  n : -9223372036854775808 ≤ a.n ∧ a.n ≤ 9223372036854775807
  s : a.s.size ≤ 140737488351232
structure ValL.Ok (a : ValL) : Prop where
  x : a.x < two64
  n : -9223372036854775808 ≤ a.n ∧ a.n ≤ 9223372036854775807
  s : a.s.size ≤ 140737488351232
theorem noVal_ok : noVal.Ok := ⟨by decide, by decide, by decide⟩

def noughtB (x : Nat) : Bool := decide (fkey x = fkey 0)
def rightB (a : ActL) : Bool := decide (a.s.size ≤ 1024) &&
  if a.k = 0 then decide (a.n = 0) && (a.s.toList.isEmpty || noughtB a.x)
  else if a.k = 1 then noughtB a.x && a.s.toList.isEmpty
  else if a.k = 2 ∨ a.k = 3 then decide (a.n = 0) && a.s.toList.isEmpty
  else if a.k = 4 then noughtB a.x && (decide (a.n = 0) && a.s.toList.isEmpty)
  else false
/-- a key's first byte -/
def hd (key : ByteArray) : Nat := (key.data.toList.headD 0).toNat
def isKeyB (key : ByteArray) : Bool := !key.toList.isEmpty && (decide (key.size ≤ 64) && (decide (hd key = 114) || (decide (hd key = 116) || (decide (hd key = 99) || (decide (hd key = 120) || decide (hd key = 110))))))
def fitsB (key : ByteArray) (a : ActL) : Bool := isKeyB key && (rightB a &&
  if hd key = 114 then (decide (a.k = 0) && a.s.toList.isEmpty) || decide (a.k = 4)
  else if hd key = 116 then (decide (a.k = 0) && noughtB a.x) || decide (a.k = 4)
  else if hd key = 99 then decide (a.k = 1)
  else if hd key = 120 then decide (a.k = 2)
  else decide (a.k = 3))
def regB (key : ByteArray) : Bool := decide (hd key = 114) || decide (hd key = 116)
def joined (a b : ActL) : ActL :=
  if b.k = 1 then ⟨1, 0, wrap64 (a.n + b.n), nilS⟩
  else if b.k = 2 then ⟨2, rmax a.x b.x, 0, nilS⟩
  else if b.k = 3 then ⟨3, rmin a.x b.x, 0, nilS⟩
  else b
def bothL (key : ByteArray) (a b : ActL) : ActL := if regB key || (!fitsB key a || !fitsB key b) then b else joined a b
def valOf (a : ActL) : ValL := if a.k = 4 then noVal else ⟨true, a.x, a.n, a.s⟩
def afterL (key : ByteArray) (v : ValL) (a : ActL) : ValL :=
  if fitsB key a then valOf (if v.there && !regB key then joined ⟨a.k, v.x, v.n, nilS⟩ a else a) else v
def sameV (v u : ValL) : Bool := decide (v.there = u.there) && (decide (fkey v.x = fkey u.x) && (decide (v.n = u.n) && (v.s.toList == u.s.toList)))
def sameA (v u : ActL) : Bool := decide (v.k = u.k) && (decide (fkey v.x = fkey u.x) && (decide (v.n = u.n) && (v.s.toList == u.s.toList)))
theorem sameV_refl (v : ValL) : sameV v v = true := by simp [sameV]
theorem sameV_of {v u : ValL} (h1 : v.there = u.there) (h2 : fkey v.x = fkey u.x) (h3 : v.n = u.n) (h4 : v.s = u.s) : sameV v u = true := by simp [sameV, h1, h2, h3, h4]

theorem nil_of {s : ByteArray} (h : s.toList = []) : s = nilS := by
  rw [ByteArray.toList_eq] at h
  obtain ⟨⟨l⟩⟩ := s
  cases l with
  | nil => rfl
  | cons a l => cases h
theorem nil_list : nilS.toList = [] := by rw [ByteArray.toList_eq]; rfl
theorem nought_eq {x : Nat} (hx : x < two64) (h : noughtB x = true) : x = 0 := by
  simp only [noughtB, decide_eq_true_eq] at h
  exact fkey_inj' hx (by decide) h (by decide)

theorem fits_key {key : ByteArray} {a : ActL} (h : fitsB key a = true) : isKeyB key = true ∧ rightB a = true := by
  simp only [fitsB, Bool.and_eq_true] at h
  exact ⟨h.1, h.2.1⟩
theorem key_head {key : ByteArray} (h : isKeyB key = true) : hd key = 114 ∨ hd key = 116 ∨ hd key = 99 ∨ hd key = 120 ∨ hd key = 110 := by
  simp only [isKeyB, Bool.and_eq_true, Bool.or_eq_true, decide_eq_true_eq] at h
  exact h.2.2

theorem fits_add {key : ByteArray} {a : ActL} (ok : a.Ok) (hk : hd key = 99) (h : fitsB key a = true) : a = ⟨1, 0, a.n, nilS⟩ := by
  have hr := (fits_key h).2
  simp only [fitsB, Bool.and_eq_true, hk] at h
  have k1 : a.k = 1 := by simpa using h.2.2
  simp only [rightB, k1, Bool.and_eq_true] at hr
  have h2 := hr.2
  simp at h2
  obtain ⟨k, x, n, s⟩ := a
  simp only at k1 h2
  obtain rfl : s = nilS := nil_of h2.2
  obtain rfl : x = 0 := nought_eq ok.x h2.1
  subst k1; rfl
theorem fits_max {key : ByteArray} {a : ActL} (hk : hd key = 120) (h : fitsB key a = true) : a = ⟨2, a.x, 0, nilS⟩ := by
  have hr := (fits_key h).2
  simp only [fitsB, Bool.and_eq_true, hk] at h
  have k1 : a.k = 2 := by simpa using h.2.2
  simp only [rightB, k1, Bool.and_eq_true] at hr
  have h2 := hr.2
  simp at h2
  obtain ⟨k, x, n, s⟩ := a
  simp only at k1 h2
  obtain rfl : s = nilS := nil_of h2.2
  obtain rfl : n = 0 := h2.1
  subst k1; rfl
theorem fits_min {key : ByteArray} {a : ActL} (hk : hd key = 110) (h : fitsB key a = true) : a = ⟨3, a.x, 0, nilS⟩ := by
  have hr := (fits_key h).2
  simp only [fitsB, Bool.and_eq_true, hk] at h
  have k1 : a.k = 3 := by simpa using h.2.2
  simp only [rightB, k1, Bool.and_eq_true] at hr
  have h2 := hr.2
  simp at h2
  obtain ⟨k, x, n, s⟩ := a
  simp only at k1 h2
  obtain rfl : s = nilS := nil_of h2.2
  obtain rfl : n = 0 := h2.1
  subst k1; rfl
theorem nought_zero : noughtB 0 = true := by decide
theorem right_add (n : Int) : rightB ⟨1, 0, n, nilS⟩ = true := by simp [rightB, nil_list, nought_zero, show nilS.size = 0 from rfl]
theorem right_max (x : Nat) : rightB ⟨2, x, 0, nilS⟩ = true := by simp [rightB, nil_list, show nilS.size = 0 from rfl]
theorem right_min (x : Nat) : rightB ⟨3, x, 0, nilS⟩ = true := by simp [rightB, nil_list, show nilS.size = 0 from rfl]
theorem fits_add' {key : ByteArray} (hi : isKeyB key = true) (hk : hd key = 99) (n : Int) : fitsB key ⟨1, 0, n, nilS⟩ = true := by simp [fitsB, hi, right_add, hk]
theorem fits_max' {key : ByteArray} (hi : isKeyB key = true) (hk : hd key = 120) (x : Nat) : fitsB key ⟨2, x, 0, nilS⟩ = true := by simp [fitsB, hi, right_max, hk]
theorem fits_min' {key : ByteArray} (hi : isKeyB key = true) (hk : hd key = 110) (x : Nat) : fitsB key ⟨3, x, 0, nilS⟩ = true := by simp [fitsB, hi, right_min, hk]

theorem after_reg {key : ByteArray} {a : ActL} (v : ValL) (hr : regB key = true) (h : fitsB key a = true) : afterL key v a = valOf a := by simp [afterL, h, hr]
theorem both_reg {key : ByteArray} {a b : ActL} (hr : regB key = true) : bothL key a b = b := by simp [bothL, hr]
theorem after_add {key : ByteArray} (v : ValL) (hi : isKeyB key = true) (hk : hd key = 99) (n : Int) : afterL key v ⟨1, 0, n, nilS⟩ = ⟨true, 0, if v.there then wrap64 (v.n + n) else n, nilS⟩ := by
  have hr : regB key = false := by simp [regB, hk]
  cases ht : v.there <;> simp [afterL, fits_add' hi hk, hr, ht, joined, valOf]
theorem after_max {key : ByteArray} (v : ValL) (hi : isKeyB key = true) (hk : hd key = 120) (x : Nat) : afterL key v ⟨2, x, 0, nilS⟩ = ⟨true, if v.there then rmax v.x x else x, 0, nilS⟩ := by
  have hr : regB key = false := by simp [regB, hk]
  cases ht : v.there <;> simp [afterL, fits_max' hi hk, hr, ht, joined, valOf]
theorem after_min {key : ByteArray} (v : ValL) (hi : isKeyB key = true) (hk : hd key = 110) (x : Nat) : afterL key v ⟨3, x, 0, nilS⟩ = ⟨true, if v.there then rmin v.x x else x, 0, nilS⟩ := by
  have hr : regB key = false := by simp [regB, hk]
  cases ht : v.there <;> simp [afterL, fits_min' hi hk, hr, ht, joined, valOf]
theorem both_add {key : ByteArray} (hi : isKeyB key = true) (hk : hd key = 99) (m n : Int) : bothL key ⟨1, 0, m, nilS⟩ ⟨1, 0, n, nilS⟩ = ⟨1, 0, wrap64 (m + n), nilS⟩ := by
  have hr : regB key = false := by simp [regB, hk]
  simp [bothL, hr, fits_add' hi hk, joined]
theorem both_max {key : ByteArray} (hi : isKeyB key = true) (hk : hd key = 120) (x y : Nat) : bothL key ⟨2, x, 0, nilS⟩ ⟨2, y, 0, nilS⟩ = ⟨2, rmax x y, 0, nilS⟩ := by
  have hr : regB key = false := by simp [regB, hk]
  simp [bothL, hr, fits_max' hi hk, joined]
theorem both_min {key : ByteArray} (hi : isKeyB key = true) (hk : hd key = 110) (x y : Nat) : bothL key ⟨3, x, 0, nilS⟩ ⟨3, y, 0, nilS⟩ = ⟨3, rmin x y, 0, nilS⟩ := by
  have hr : regB key = false := by simp [regB, hk]
  simp [bothL, hr, fits_min' hi hk, joined]

theorem wrap_assoc (a b c : Int) : wrap64 (wrap64 (a + b) + c) = wrap64 (a + wrap64 (b + c)) := by unfold wrap64; omega
theorem wrap_comm3 (a b c : Int) : wrap64 (wrap64 (a + b) + c) = wrap64 (wrap64 (a + c) + b) := by unfold wrap64; omega
theorem wrap_comm (a b : Int) : wrap64 (a + b) = wrap64 (b + a) := by rw [Int.add_comm]

/-- the plain law of OpTogether -/
theorem together {key : ByteArray} {a b c : ActL} (v : ValL) (oa : a.Ok) (ob : b.Ok) (oc : c.Ok) (ha : fitsB key a = true) (hb : fitsB key b = true) (hc : fitsB key c = true) :
    sameV (afterL key (afterL key (afterL key v a) b) c) (afterL key v (bothL key (bothL key a b) c)) = true ∧
    sameV (afterL key (afterL key (afterL key v a) b) c) (afterL key v (bothL key a (bothL key b c))) = true ∧
    (regB key = true → sameV (afterL key (afterL key (afterL key v a) b) c) (afterL key noVal c) = true) ∧
    (regB key = false → sameV (afterL key (afterL key (afterL key v a) b) c) (afterL key (afterL key (afterL key v c) a) b) = true ∧ fitsB key (bothL key a b) = true) := by
  have hi := (fits_key ha).1
  cases hr : regB key
  · refine ⟨?_, ?_, (fun h => nomatch h), fun _ => ?_⟩
    all_goals
      rcases key_head hi with h | h | h | h | h
      · simp [regB, h] at hr
      · simp [regB, h] at hr
      · rw [fits_add oa h ha, fits_add ob h hb, fits_add oc h hc]
        simp only [after_add _ hi h, both_add hi h, fits_add' hi h, if_true]
        cases v.there <;> (try refine ⟨?_, trivial⟩) <;> (refine sameV_of rfl rfl ?_ rfl; first | (simp; done) | (simp; unfold wrap64; omega))
      · rw [fits_max h ha, fits_max h hb, fits_max h hc]
        simp only [after_max _ hi h, both_max hi h, fits_max' hi h, if_true]
        cases v.there <;> (try refine ⟨?_, trivial⟩) <;> (refine sameV_of rfl ?_ rfl rfl; first | (simp [rmax_key']; done) | (simp [rmax_key']; omega))
      · rw [fits_min h ha, fits_min h hb, fits_min h hc]
        simp only [after_min _ hi h, both_min hi h, fits_min' hi h, if_true]
        cases v.there <;> (try refine ⟨?_, trivial⟩) <;> (refine sameV_of rfl ?_ rfl rfl; first | (simp [rmin_key]; done) | (simp [rmin_key]; omega))
  · refine ⟨?_, ?_, fun _ => ?_, (fun h => nomatch h)⟩
    all_goals
      simp only [both_reg hr, after_reg _ hr hc, sameV_refl]
end Go.Proofs.YtibabgokmacnaaaGreat

namespace Go.Proofs.YtibabgokmacnaaaGreat
open Go.RowKit

def ActL.cs (a : ActL) : List Value := [.int .i64 a.k, .float .f64 a.x, .int .i64 a.n, .string a.s]
def ValL.cs (a : ValL) : List Value := [.bool a.there, .float .f64 a.x, .int .i64 a.n, .string a.s]
theorem AC.act {w : World} {g : Nat} {k n : Int} {x : Nat} {s : ByteArray} (h : AC w g [.int .i64 k, .float .f64 x, .int .i64 n, .string s]) :
    w.cell? ⟨g, 0, none⟩ = some (.int .i64 k) ∧ w.cell? ⟨g, 1, none⟩ = some (.float .f64 x) ∧ w.cell? ⟨g, 2, none⟩ = some (.int .i64 n) ∧ w.cell? ⟨g, 3, none⟩ = some (.string s) :=
  ⟨h.cell 0 _ rfl, h.cell 1 _ rfl, h.cell 2 _ rfl, h.cell 3 _ rfl⟩
theorem AC.val {w : World} {g : Nat} {b : Bool} {n : Int} {x : Nat} {s : ByteArray} (h : AC w g [.bool b, .float .f64 x, .int .i64 n, .string s]) :
    w.cell? ⟨g, 0, none⟩ = some (.bool b) ∧ w.cell? ⟨g, 1, none⟩ = some (.float .f64 x) ∧ w.cell? ⟨g, 2, none⟩ = some (.int .i64 n) ∧ w.cell? ⟨g, 3, none⟩ = some (.string s) :=
  ⟨h.cell 0 _ rfl, h.cell 1 _ rfl, h.cell 2 _ rfl, h.cell 3 _ rfl⟩

theorem nought_any (x : Nat) (w : World) (hx : x < two64) : Calls Tryz.prog 228 #[.float .f64 x] w fun e w' => e = .returned (.bool (noughtB x)) ∧ Bl w w' := by
  go_enter Tryz.func228, Tryz.ntmps228
  go_wp2_with fail
  refine (rsameF_any x 0 _ hx (by decide)).mono ?_
  rintro e w1 ⟨rfl, hb1⟩
  go_wp2_with fail
  go_ret
  exact ⟨rfl, hb1⟩

theorem hd_get {s : ByteArray} (h : 0 < s.size) : (s[0]'h).toNat = hd s := by
  obtain ⟨⟨l⟩⟩ := s
  cases l with
  | nil => exact absurd h (by decide)
  | cons a l => rfl
theorem pos_of {s : ByteArray} (h : ¬ s.toList = []) : 0 < s.size := by
  rw [ByteArray.toList_eq] at h
  obtain ⟨⟨l⟩⟩ := s
  cases l with
  | nil => exact absurd rfl h
  | cons a l => simp [ByteArray.size]

set_option maxHeartbeats 800000 in
set_option maxRecDepth 100000 in
theorem right_any (a : ActL) (w : World) (ok : a.Ok) : Calls Tryz.prog 209 #[a.v] w fun e w' => e = .returned (.bool (rightB a)) ∧ Bl w w' := by
  obtain ⟨k, x, n, s⟩ := a
  obtain ⟨hk, hx, hn, hs⟩ := ok
  simp only at hk hx hn hs
  show Calls Tryz.prog 209 #[.agg #[.int .i64 k, .float .f64 x, .int .i64 n, .string s]] w _
  go_enter Tryz.func209, Tryz.ntmps209
  go_wp2_with (first | (refine (nought_any _ _ hx).mono ?_; rintro e w' ⟨rfl, hb⟩; obtain ⟨c0, c1, c2, c3⟩ := ((AC.new w _ rfl [_, _, _, _] _).keep hb).act) | fail)
  all_goals (go_ret; refine ⟨ret_bool ?_, ?_⟩)
  all_goals first | exact (Bl.refl w).alloc _ | exact ((Bl.refl w).alloc _).trans (by assumption) | skip
  all_goals (unfold rightB; simp_all; try omega)
theorem store_float (a : Addr) (b : Nat) (w : World) : (store a (.float .f64 b)).run Tryz.prog w = stored Tryz.prog w a (.float .f64 b) .plain := run_store Tryz.prog w a _ .plain rfl
theorem AC.setAct {w : World} {g : Nat} {k n : Int} {x : Nat} {s : ByteArray} (h : AC w g [.int .i64 k, .float .f64 x, .int .i64 n, .string s]) (k' n' : Int) (x' : Nat) (s' : ByteArray) :
    AC ((((w.setCell ⟨g, 0, none⟩ (.int .i64 k')).setCell ⟨g, 1, none⟩ (.float .f64 x')).setCell ⟨g, 2, none⟩ (.int .i64 n')).setCell ⟨g, 3, none⟩ (.string s')) g [.int .i64 k', .float .f64 x', .int .i64 n', .string s'] := by
  obtain ⟨t, h⟩ := h
  refine ⟨t, ?_⟩
  have h1 := heap_setCell_same w g 0 _ t (.int .i64 k') h
  have h2 := heap_setCell_same _ g 1 _ t (.float .f64 x') h1
  have h3 := heap_setCell_same _ g 2 _ t (.int .i64 n') h2
  have h4 := heap_setCell_same _ g 3 _ t (.string s') h3
  rw [h4]
  simp
theorem Bl.store4 {w W : World} (h : Bl w W) {g : Nat} (hg : w.heap.size ≤ g) (a b c d : Value) : Bl w ((((W.setCell ⟨g, 0, none⟩ a).setCell ⟨g, 1, none⟩ b).setCell ⟨g, 2, none⟩ c).setCell ⟨g, 3, none⟩ d) :=
  Below.setCell (p := ⟨g, 3, none⟩) (Below.setCell (p := ⟨g, 2, none⟩) (Below.setCell (p := ⟨g, 1, none⟩) (Below.setCell (p := ⟨g, 0, none⟩) h hg _) hg _) hg _) hg _


theorem AC.set4 {w : World} {g : Nat} {a0 b0 c0 d0 : Value} (h : AC w g [a0, b0, c0, d0]) (a b c d : Value) :
    AC ((((w.setCell ⟨g, 0, none⟩ a).setCell ⟨g, 1, none⟩ b).setCell ⟨g, 2, none⟩ c).setCell ⟨g, 3, none⟩ d) g [a, b, c, d] := by
  obtain ⟨t, h⟩ := h
  refine ⟨t, ?_⟩
  have h1 := heap_setCell_same w g 0 _ t a h
  have h2 := heap_setCell_same _ g 1 _ t b h1
  have h3 := heap_setCell_same _ g 2 _ t c h2
  have h4 := heap_setCell_same _ g 3 _ t d h3
  rw [h4]
  simp
theorem AC.other4 {w : World} {g g' : Nat} {cs : List Value} (h : AC w g cs) (hn : g ≠ g') (a b c d : Value) :
    AC ((((w.setCell ⟨g', 0, none⟩ a).setCell ⟨g', 1, none⟩ b).setCell ⟨g', 2, none⟩ c).setCell ⟨g', 3, none⟩ d) g cs :=
  (((h.other hn).other hn).other hn).other hn
theorem wrap64_bd (n : Int) : -9223372036854775808 ≤ wrap64 n ∧ wrap64 n ≤ 9223372036854775807 := by unfold wrap64; omega
theorem nil_small : nilS.size ≤ 140737488351232 := by decide
theorem small_int (n : Int) (h : -10 ≤ n ∧ n ≤ 10) : -9223372036854775808 ≤ n ∧ n ≤ 9223372036854775807 := by omega
theorem joined_ok {a b : ActL} (oa : a.Ok) (ob : b.Ok) : (joined a b).Ok := by
  unfold joined
  split
  · exact ⟨small_int 1 (by omega), (by decide : (0 : Nat) < two64), wrap64_bd _, nil_small⟩
  · split
    · exact ⟨small_int 2 (by omega), rmax_lt' oa.x ob.x, small_int 0 (by omega), nil_small⟩
    · split
      · exact ⟨small_int 3 (by omega), rmin_lt oa.x ob.x, small_int 0 (by omega), nil_small⟩
      · exact ob
theorem both_ok {key : ByteArray} {a b : ActL} (oa : a.Ok) (ob : b.Ok) : (bothL key a b).Ok := by
  unfold bothL
  split
  · exact ob
  · exact joined_ok oa ob
theorem valOf_ok {a : ActL} (oa : a.Ok) : (valOf a).Ok := by
  unfold valOf
  split
  · exact noVal_ok
  · exact ⟨oa.x, oa.n, oa.s⟩
theorem after_ok {key : ByteArray} {v : ValL} {a : ActL} (ov : v.Ok) (oa : a.Ok) : (afterL key v a).Ok := by
  unfold afterL
  split
  · refine valOf_ok ?_
    split
    · exact joined_ok ⟨oa.k, ov.x, ov.n, by show (0 : Nat) ≤ _; omega⟩ oa
    · exact oa
  · exact ov
theorem after_ex (key : ByteArray) (v : ValL) (a : ActL) (ov : v.Ok) (oa : a.Ok) : ∃ r : ValL, afterL key v a = r ∧ r.Ok := ⟨_, rfl, after_ok ov oa⟩
theorem both_ex (key : ByteArray) (a b : ActL) (oa : a.Ok) (ob : b.Ok) : ∃ r : ActL, bothL key a b = r ∧ r.Ok := ⟨_, rfl, both_ok oa ob⟩
end Go.Proofs.YtibabgokmacnaaaGreat
end

/- readers: a cell that holds what is left; vec.Get, whatever the bytes are. By an AI agent. -/
section
namespace Go.Proofs.YtibabgokmacnaaaGreat
open Go.RowKit

theorem OB.other {B g j : Nat} {w : World} {v u : Value} {xs : List Int} (h : OB B w v xs) (hg : g < B) : OB B (w.setCell ⟨g, j, none⟩ u) v xs := by
  obtain ⟨h1, h2 | ⟨g', cap, cur, hv, hB, hh, r⟩⟩ := h
  · exact ⟨h1, .inl h2⟩
  · exact ⟨h1, .inr ⟨g', cap, cur, hv, hB, by rw [Below.heap_setCell _ _ _ _ (show g' ≠ g by omega)]; exact hh, r⟩⟩
/-- the reader's cell is set anew in what has come behind -/
theorem Bl.reset {w wr : World} {g : Nat} {v0 a b : Value} (hc : C1 w g v0) (hb : Bl (w.setCell ⟨g, 0, none⟩ a) wr) : Bl (w.setCell ⟨g, 0, none⟩ b) (wr.setCell ⟨g, 0, none⟩ b) := by
  obtain ⟨t, hg⟩ := hc
  have hlt : g < w.heap.size := lt_of_heap hg
  have e1 : ∀ u, (w.setCell ⟨g, 0, none⟩ u).heap[g]? = some (.cells #[u] t (0, 0)) := fun u => by
    rw [heap_setCell_same w g 0 _ t u hg]; rfl
  have hz : ∀ (x : World) (u : Value), (x.setCell ⟨g, 0, none⟩ u).heap.size = x.heap.size := fun x u => by simp
  have e2 : wr.heap[g]? = some (.cells #[a] t (0, 0)) := by
    rw [hb.block g (by rw [hz]; exact hlt)]; exact e1 a
  have e3 : (wr.setCell ⟨g, 0, none⟩ b).heap[g]? = some (.cells #[b] t (0, 0)) := by
    rw [heap_setCell_same wr g 0 _ t b e2]; rfl
  refine ⟨hb.os, hb.tape, hb.output, ?_, fun q hq => ?_⟩
  · rw [hz, hz]; have := hb.size; rw [hz] at this; exact this
  · by_cases hqg : q = g
    · subst hqg; rw [e3, e1]
    · rw [Below.heap_setCell _ _ _ _ hqg, Below.heap_setCell _ _ _ _ hqg]
      have := hb.block q (by rw [hz] at hq ⊢; exact hq)
      rw [this, Below.heap_setCell _ _ _ _ hqg]
theorem C1.again {w : World} {g : Nat} {v a : Value} (h : C1 w g v) : ∀ {wr : World}, Bl (w.setCell ⟨g, 0, none⟩ a) wr → C1 wr g a := fun hb => (h.set a).keep hb

theorem setCell_size (w : World) (g : Nat) (u : Value) : (w.setCell ⟨g, 0, none⟩ u).heap.size = w.heap.size := by simp
def numK (l : List UInt8) : List Int := l.map fun b => (b.toNat : Int)
theorem numK_len (l : List UInt8) : (numK l).length = l.length := by simp [numK]
theorem numK_push (l : List UInt8) (c : UInt8) : numK (l ++ [c]) = numK l ++ [(c.toNat : Int)] := by simp [numK]
theorem str_numK (l : List UInt8) : strOfNums (numK l) = ⟨l.toArray⟩ := by
  apply ByteArray.ext
  apply Array.toList_inj.1
  show ((numK l).map fun n => UInt8.ofNat n.toNat) = l
  unfold numK
  rw [List.map_map]
  conv => rhs; rw [← List.map_id l]
  apply List.map_congr_left
  intro x _
  simp
theorem OB.push2 {B : Nat} {w0 w w1 : World} {v v' : Value} {xs : List Int} {x : Int} {o : Obj} (hb : Bl w0 w) (hz : w0.heap.size = B) (hown : OB B w v xs)
    (hown' : w1.ownsRow B 5 1 v' (xs.length + 1) (xs.map (Value.int .u8) ++ [.int .u8 x])) (hg : (w.alloc o).grownBy w1 v.ownBlock) : OB B w1 v' (xs ++ [x]) ∧ Bl w0 w1 := by
  subst hz
  exact OB.push hb hb.size hown hown' hg
theorem SB.one {t : ByteArray} {c : UInt8} (h : SB t [c]) : t = ⟨#[c]⟩ := by
  apply ByteArray.ext
  apply Array.toList_inj.1
  exact h
theorem Bl.same {w : World} {g : Nat} {v : Value} (hc : C1 w g v) : Bl (w.setCell ⟨g, 0, none⟩ v) w := by
  obtain ⟨t, hg⟩ := hc
  refine ⟨rfl, rfl, rfl, by simp, fun q hq => ?_⟩
  by_cases hqg : q = g
  · subst hqg
    rw [heap_setCell_same w q 0 _ t v hg, hg]; rfl
  · rw [Below.heap_setCell _ _ _ _ hqg]
def cellLen (w : World) (b : Nat) : Nat := match w.cell? ⟨b, 0, none⟩ with | some (.string s) => s.size | _ => 0
theorem cellLen_of {w : World} {b : Nat} {s : ByteArray} (h : C1 w b (.string s)) : cellLen w b = s.size := by unfold cellLen; rw [h.cell]

/-- the plain way back of numbers -/
theorem getN_put6 (x : Int) (h0 : 0 ≤ x) (h1 : x < 281474976710656) : getN (bytesN (putN x 6 6)) = x := by
  have e : putN x 6 6 = [x / 1099511627776 % 256, x / 4294967296 % 256, x / 16777216 % 256, x / 65536 % 256, x / 256 % 256, x % 256] := by
    simp [putN, byteAt, List.range, List.range.loop]
  rw [e]
  simp only [bytesN, List.map_cons, List.map_nil, getN, List.foldl_cons, List.foldl_nil]
  have hb : ∀ y : Int, ((UInt8.ofNat (y % 256).toNat).toNat : Int) = y % 256 := by
    intro y
    simp; omega
  simp only [hb]
  omega
theorem putBodyL_cons (x : Int) (xs : List Int) : putBodyL (x :: xs) = bytesN (putN x 6 6) ++ putBodyL xs := by simp [putBodyL]
theorem len6 (x : Int) : (bytesN (putN x 6 6)).length = 6 := by rw [bytesN_len, putN_len]
theorem body_drop (xs : List Int) (more : List UInt8) (j : Nat) (hj : j ≤ xs.length) : (putBodyL xs ++ more).drop (6 * j) = putBodyL (xs.drop j) ++ more := by
  induction j generalizing xs with
  | zero => simp
  | succ j ih =>
    cases xs with
    | nil => simp at hj
    | cons x xs =>
      rw [putBodyL_cons, List.append_assoc, show 6 * (j + 1) = 6 + 6 * j by omega, ← List.drop_drop, List.drop_left' (len6 x), ih xs (by simpa using hj)]
      simp
theorem vals_put (xs : List Int) (more : List UInt8) (hw : ∀ j, j < xs.length → 0 ≤ nth xs j ∧ nth xs j < 281474976710656) : valsL xs.length (putBodyL xs ++ more) = xs := by
  refine getD_ext (valsL_len _ _) fun j hj => ?_
  rw [valsL_len] at hj
  have h1 : nth (valsL xs.length (putBodyL xs ++ more)) j = getN (((putBodyL xs ++ more).drop (6 * j)).take 6) := by
    rw [nth_eq (by rw [valsL_len]; exact hj)]; simp [valsL]
  rw [h1, body_drop xs more j (by omega), List.drop_eq_getElem_cons hj, putBodyL_cons, List.append_assoc, List.take_left' (len6 _), ← nth_eq hj]
  have := hw j hj
  exact getN_put6 _ this.1 this.2
theorem put_head (xs : List Int) (more : List UInt8) (h : xs.length ≤ 8) : (putL xs ++ more).head?.map (·.toNat) = some xs.length := by
  simp [putL]; omega
theorem putL_drop (xs : List Int) (more : List UInt8) : (putL xs ++ more).drop 1 = putBodyL xs ++ more := by simp [putL]

/-- a slice that lies from block B on -/
def FarIA (B : Nat) (w : World) (a : Option Addr) (n : Nat) (xs : List Int) : Prop := IA w a n xs ∧ ∀ b off, a = some ⟨b, off, none⟩ → n = 0 ∨ B ≤ b
theorem FarIA.nil (B : Nat) (w : World) : FarIA B w none 0 [] := ⟨IA.nil _ _, fun _ _ _ => .inl rfl⟩
theorem FarIA.keep {B : Nat} {w w' : World} {a : Option Addr} {n : Nat} {xs : List Int} (h : FarIA B w a n xs) (hb : Bl w w') : FarIA B w' a n xs := ⟨h.1.keep hb, h.2⟩
theorem FarIA.mono {B B' : Nat} {w : World} {a : Option Addr} {n : Nat} {xs : List Int} (h : FarIA B w a n xs) (hB : B' ≤ B) : FarIA B' w a n xs :=
  ⟨h.1, fun b off e => by have := h.2 b off e; omega⟩
theorem FarIA.set {B : Nat} {w : World} {a : Option Addr} {n : Nat} {xs : List Int} (h : FarIA B w a n xs) {q : Nat} (hq : q < B) (j : Nat) (u : Value) : FarIA B (w.setCell ⟨q, j, none⟩ u) a n xs := by
  refine ⟨⟨h.1.len, h.1.cap, fun i hi => ?_, h.1.wf⟩, h.2⟩
  obtain ⟨b, off, e, hc⟩ := h.1.cells i hi
  refine ⟨b, off, e, fun i hi => ?_⟩
  have hne : b ≠ q := by
    have := h.2 b off e
    omega
  rw [← hc i hi]
  unfold World.cell?
  rw [Below.heap_setCell _ _ _ _ hne]
theorem FI.far {B : Nat} {w : World} {a : Option Addr} {n ca : Nat} {xs : List Int} (h : FI B w (.slice a n ca) xs) : FarIA B w a n xs := by
  obtain ⟨a', n', ca', e, hI⟩ := h.si
  cases e
  refine ⟨hI, fun b off e => ?_⟩
  obtain ⟨-, ⟨h1, -⟩ | ⟨g, cap, cur, hv, hB, -⟩⟩ := h.own
  · cases h1; cases e
  · cases hv
    cases e
    exact .inr hB
/-- vec.Get, whatever the bytes are -/
theorem vget_all (s : ByteArray) (l : List UInt8) (w : World) (hs : SB s l) (hz : l.length ≤ 2000000) :
    Calls Tryz.prog 13 #[.string s] w fun e w' => ∃ (a : Option Addr) (n ca : Nat) (xs : List Int) (k c : Int), e = .returned (.tuple #[.slice a n ca, .int .i64 k, .int .i64 c]) ∧ Bl w w' ∧ (c = 0 ∨ c = 3 ∨ c = 4) ∧ FarIA w.heap.size w' a n xs ∧
      ∀ ys, validL ys = true → l = putL ys → c = 0 ∧ xs = ys := by
  by_cases h0 : s.size = 0
  · refine (vget_none s w h0).mono ?_
    rintro e w' ⟨rfl, hb⟩
    refine ⟨none, 0, 0, [], 0, 3, rfl, hb, .inr (.inl rfl), FarIA.nil _ _, fun ys _ hl => ?_⟩
    rw [hs.size, hl] at h0
    simp [putL] at h0
  · have hl1 : 1 ≤ l.length := by rw [← hs.size]; omega
    cases l with
    | nil => simp at hl1
    | cons d l =>
      have hh : (d :: l).head?.map (·.toNat) = some d.toNat := rfl
      have hput : ∀ ys, validL ys = true → d :: l = putL ys → d.toNat = ys.length ∧ ys.length ≤ 8 ∧ 1 ≤ ys.length := by
        intro ys hy e
        have hv := valid_parts hy
        have := put_head ys [] hv.2.1
        rw [List.append_nil, ← e] at this
        exact ⟨by simpa using this, hv.2.1, hv.1⟩
      by_cases hf : d.toNat < 1 ∨ 8 < d.toNat
      · refine (vget_form s (d :: l) d.toNat w hs hl1 hh hf).mono ?_
        rintro e w' ⟨rfl, hb⟩
        refine ⟨none, 0, 0, [], 0, 4, rfl, hb, .inr (.inr rfl), FarIA.nil _ _, fun ys hy hl => ?_⟩
        have := hput ys hy hl
        omega
      · refine (vget_loop s (d :: l) d.toNat w hs hz hl1 hh (by omega)).mono ?_
        intro e w' hp
        unfold GetPost at hp
        split at hp
        · obtain ⟨v, rfl, hfi, hb⟩ := hp
          obtain ⟨a, n, ca, rfl, hI⟩ := hfi.si
          refine ⟨a, n, ca, _, _, 0, rfl, hb, .inl rfl, hfi.far, fun ys hy hl => ⟨rfl, ?_⟩⟩
          have h3 := hput ys hy hl
          have h4 := vals_put ys [] (valid_parts hy).2.2
          have h5 := putL_drop ys []
          rw [List.append_nil] at h5
          rw [hl, h5, h3.1, h4]
        · obtain ⟨rfl, hb⟩ := hp
          refine ⟨none, 0, 0, [], 0, 3, rfl, hb, .inr (.inl rfl), FarIA.nil _ _, fun ys hy hl => ?_⟩
          have := hput ys hy hl
          rename_i hno
          rw [hl, putL_len] at hno
          omega
theorem getN1_bound (l : List UInt8) : 0 ≤ getN (l.take 1) ∧ getN (l.take 1) ≤ 255 := by
  cases l with
  | nil => simp [getN]
  | cons c l =>
    have := UInt8.toNat_lt c
    simp [getN]; omega
theorem AC.setj {w : World} {g : Nat} {cs : List Value} (h : AC w g cs) (j : Nat) (v : Value) : AC (w.setCell ⟨g, j, none⟩ v) g (cs.set j v) := by
  obtain ⟨t, h⟩ := h
  exact ⟨t, by rw [heap_setCell_same w g j _ t v h]; simp⟩
theorem C1.otherj {w : World} {g g' j : Nat} {v u : Value} (h : C1 w g v) (hn : g ≠ g') : C1 (w.setCell ⟨g', j, none⟩ u) g v := by
  obtain ⟨t, h⟩ := h
  exact ⟨t, by rw [Below.heap_setCell _ _ _ _ hn]; exact h⟩
end Go.Proofs.YtibabgokmacnaaaGreat
end
