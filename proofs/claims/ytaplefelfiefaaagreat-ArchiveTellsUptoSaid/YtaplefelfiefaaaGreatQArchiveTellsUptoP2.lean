import Derived.Test.YtaplefelfiefaaaGreatQArchiveTellsUptoP1
import Derived.Outline
import Derived.Deep.RegionLaw
import Derived.Deep.AppendLies
import Derived.Deep.QuietTactic
import Derived.Deep.AppendSrc
import Derived.Maps.OwnRows

/- acts and values, and what the package op tells of them: plain definitions and their laws; blocks of cells; op.nought, right. By an AI agent. -/
section
namespace Go.Proofs.YtaplefelfiefaaaGreat
open Go.RowKit

structure ActL where
  k : Int
  x : Nat
  n : Int
  s : ByteArray
structure ValL where
  there : Bool
  x : Nat
  n : Int
  s : ByteArray
def nilS : ByteArray := ⟨#[]⟩
def ActL.v (a : ActL) : Value := .agg #[.int .i64 a.k, .float .f64 a.x, .int .i64 a.n, .string a.s]
def ValL.v (a : ValL) : Value := .agg #[.bool a.there, .float .f64 a.x, .int .i64 a.n, .string a.s]
def noVal : ValL := ⟨false, 0, 0, nilS⟩
/-- ranges of Go's types -/
structure ActL.Ok (a : ActL) : Prop where
  k : -9223372036854775808 ≤ a.k ∧ a.k ≤ 9223372036854775807
  x : a.x < two64
  n : -9223372036854775808 ≤ a.n ∧ a.n ≤ 9223372036854775807
  s : a.s.size ≤ 140737488351232
structure ValL.Ok (a : ValL) : Prop where
  x : a.x < two64
  n : -9223372036854775808 ≤ a.n ∧ a.n ≤ 9223372036854775807
  s : a.s.size ≤ 140737488351232
theorem noVal_ok : noVal.Ok := ⟨by decide, by decide, by decide⟩

def noughtB (x : Nat) : Bool := decide (fkey x = fkey 0)
def rightB (a : ActL) : Bool := decide (a.s.size ≤ 1024) &&
  if a.k = 0 then decide (a.n = 0) && (a.s.toList.isEmpty || noughtB a.x)
  else if a.k = 1 then noughtB a.x && a.s.toList.isEmpty
  else if a.k = 2 ∨ a.k = 3 then decide (a.n = 0) && a.s.toList.isEmpty
  else if a.k = 4 then noughtB a.x && (decide (a.n = 0) && a.s.toList.isEmpty)
  else false
/-- a key's first byte -/
def hd (key : ByteArray) : Nat := (key.data.toList.headD 0).toNat
def isKeyB (key : ByteArray) : Bool := !key.toList.isEmpty && (decide (key.size ≤ 64) && (decide (hd key = 114) || (decide (hd key = 116) || (decide (hd key = 99) || (decide (hd key = 120) || decide (hd key = 110))))))
def fitsB (key : ByteArray) (a : ActL) : Bool := isKeyB key && (rightB a &&
  if hd key = 114 then (decide (a.k = 0) && a.s.toList.isEmpty) || decide (a.k = 4)
  else if hd key = 116 then (decide (a.k = 0) && noughtB a.x) || decide (a.k = 4)
  else if hd key = 99 then decide (a.k = 1)
  else if hd key = 120 then decide (a.k = 2)
  else decide (a.k = 3))
def regB (key : ByteArray) : Bool := decide (hd key = 114) || decide (hd key = 116)
def joined (a b : ActL) : ActL :=
  if b.k = 1 then ⟨1, 0, wrap64 (a.n + b.n), nilS⟩
  else if b.k = 2 then ⟨2, rmax a.x b.x, 0, nilS⟩
  else if b.k = 3 then ⟨3, rmin a.x b.x, 0, nilS⟩
  else b
def valOf (a : ActL) : ValL := if a.k = 4 then noVal else ⟨true, a.x, a.n, a.s⟩
def afterL (key : ByteArray) (v : ValL) (a : ActL) : ValL :=
  if fitsB key a then valOf (if v.there && !regB key then joined ⟨a.k, v.x, v.n, nilS⟩ a else a) else v
def sameV (v u : ValL) : Bool := decide (v.there = u.there) && (decide (fkey v.x = fkey u.x) && (decide (v.n = u.n) && (v.s.toList == u.s.toList)))
def sameA (v u : ActL) : Bool := decide (v.k = u.k) && (decide (fkey v.x = fkey u.x) && (decide (v.n = u.n) && (v.s.toList == u.s.toList)))
theorem sameV_refl (v : ValL) : sameV v v = true := by simp [sameV]
theorem sameV_of {v u : ValL} (h1 : v.there = u.there) (h2 : fkey v.x = fkey u.x) (h3 : v.n = u.n) (h4 : v.s = u.s) : sameV v u = true := by simp [sameV, h1, h2, h3, h4]

theorem nil_of {s : ByteArray} (h : s.toList = []) : s = nilS := by
  rw [ByteArray.toList_eq] at h
  obtain ⟨⟨l⟩⟩ := s
  cases l with
  | nil => rfl
  | cons a l => cases h
theorem nil_list : nilS.toList = [] := by rw [ByteArray.toList_eq]; rfl
theorem nought_eq {x : Nat} (hx : x < two64) (h : noughtB x = true) : x = 0 := by
  simp only [noughtB, decide_eq_true_eq] at h
  exact fkey_inj' hx (by decide) h (by decide)

theorem fits_key {key : ByteArray} {a : ActL} (h : fitsB key a = true) : isKeyB key = true ∧ rightB a = true := by
  simp only [fitsB, Bool.and_eq_true] at h
  exact ⟨h.1, h.2.1⟩
theorem key_head {key : ByteArray} (h : isKeyB key = true) : hd key = 114 ∨ hd key = 116 ∨ hd key = 99 ∨ hd key = 120 ∨ hd key = 110 := by
  simp only [isKeyB, Bool.and_eq_true, Bool.or_eq_true, decide_eq_true_eq] at h
  exact h.2.2

theorem fits_add {key : ByteArray} {a : ActL} (ok : a.Ok) (hk : hd key = 99) (h : fitsB key a = true) : a = ⟨1, 0, a.n, nilS⟩ := by
  have hr := (fits_key h).2
  simp only [fitsB, Bool.and_eq_true, hk] at h
  have k1 : a.k = 1 := by simpa using h.2.2
  simp only [rightB, k1, Bool.and_eq_true] at hr
  have h2 := hr.2
  simp at h2
  obtain ⟨k, x, n, s⟩ := a
  simp only at k1 h2
  obtain rfl : s = nilS := nil_of h2.2
  obtain rfl : x = 0 := nought_eq ok.x h2.1
  subst k1; rfl
theorem fits_max {key : ByteArray} {a : ActL} (hk : hd key = 120) (h : fitsB key a = true) : a = ⟨2, a.x, 0, nilS⟩ := by
  have hr := (fits_key h).2
  simp only [fitsB, Bool.and_eq_true, hk] at h
  have k1 : a.k = 2 := by simpa using h.2.2
  simp only [rightB, k1, Bool.and_eq_true] at hr
  have h2 := hr.2
  simp at h2
  obtain ⟨k, x, n, s⟩ := a
  simp only at k1 h2
  obtain rfl : s = nilS := nil_of h2.2
  obtain rfl : n = 0 := h2.1
  subst k1; rfl
theorem fits_min {key : ByteArray} {a : ActL} (hk : hd key = 110) (h : fitsB key a = true) : a = ⟨3, a.x, 0, nilS⟩ := by
  have hr := (fits_key h).2
  simp only [fitsB, Bool.and_eq_true, hk] at h
  have k1 : a.k = 3 := by simpa using h.2.2
  simp only [rightB, k1, Bool.and_eq_true] at hr
  have h2 := hr.2
  simp at h2
  obtain ⟨k, x, n, s⟩ := a
  simp only at k1 h2
  obtain rfl : s = nilS := nil_of h2.2
  obtain rfl : n = 0 := h2.1
  subst k1; rfl
theorem nought_zero : noughtB 0 = true := by decide
theorem right_add (n : Int) : rightB ⟨1, 0, n, nilS⟩ = true := by simp [rightB, nil_list, nought_zero, show nilS.size = 0 from rfl]
theorem right_max (x : Nat) : rightB ⟨2, x, 0, nilS⟩ = true := by simp [rightB, nil_list, show nilS.size = 0 from rfl]
theorem right_min (x : Nat) : rightB ⟨3, x, 0, nilS⟩ = true := by simp [rightB, nil_list, show nilS.size = 0 from rfl]



end Go.Proofs.YtaplefelfiefaaaGreat

namespace Go.Proofs.YtaplefelfiefaaaGreat
open Go.RowKit

theorem AC.act {w : World} {g : Nat} {k n : Int} {x : Nat} {s : ByteArray} (h : AC w g [.int .i64 k, .float .f64 x, .int .i64 n, .string s]) :
    w.cell? ⟨g, 0, none⟩ = some (.int .i64 k) ∧ w.cell? ⟨g, 1, none⟩ = some (.float .f64 x) ∧ w.cell? ⟨g, 2, none⟩ = some (.int .i64 n) ∧ w.cell? ⟨g, 3, none⟩ = some (.string s) :=
  ⟨h.cell 0 _ rfl, h.cell 1 _ rfl, h.cell 2 _ rfl, h.cell 3 _ rfl⟩
theorem AC.val {w : World} {g : Nat} {b : Bool} {n : Int} {x : Nat} {s : ByteArray} (h : AC w g [.bool b, .float .f64 x, .int .i64 n, .string s]) :
    w.cell? ⟨g, 0, none⟩ = some (.bool b) ∧ w.cell? ⟨g, 1, none⟩ = some (.float .f64 x) ∧ w.cell? ⟨g, 2, none⟩ = some (.int .i64 n) ∧ w.cell? ⟨g, 3, none⟩ = some (.string s) :=
  ⟨h.cell 0 _ rfl, h.cell 1 _ rfl, h.cell 2 _ rfl, h.cell 3 _ rfl⟩

theorem nought_any (x : Nat) (w : World) (hx : x < two64) : Calls Tryz.prog 143 #[.float .f64 x] w fun e w' => e = .returned (.bool (noughtB x)) ∧ Bl w w' := by
  go_enter Tryz.func143, Tryz.ntmps143
  go_wp2_with fail
  refine (rsameF_any x 0 _ hx (by decide)).mono ?_
  rintro e w1 ⟨rfl, hb1⟩
  go_wp2_with fail
  go_ret
  exact ⟨rfl, hb1⟩

theorem hd_get {s : ByteArray} (h : 0 < s.size) : (s[0]'h).toNat = hd s := by
  obtain ⟨⟨l⟩⟩ := s
  cases l with
  | nil => exact absurd h (by decide)
  | cons a l => rfl
theorem pos_of {s : ByteArray} (h : ¬ s.toList = []) : 0 < s.size := by
  rw [ByteArray.toList_eq] at h
  obtain ⟨⟨l⟩⟩ := s
  cases l with
  | nil => exact absurd rfl h
  | cons a l => simp [ByteArray.size]

set_option maxHeartbeats 800000 in
set_option maxRecDepth 100000 in
theorem right_any (a : ActL) (w : World) (ok : a.Ok) : Calls Tryz.prog 129 #[a.v] w fun e w' => e = .returned (.bool (rightB a)) ∧ Bl w w' := by
  obtain ⟨k, x, n, s⟩ := a
  obtain ⟨hk, hx, hn, hs⟩ := ok
  simp only at hk hx hn hs
  show Calls Tryz.prog 129 #[.agg #[.int .i64 k, .float .f64 x, .int .i64 n, .string s]] w _
  go_enter Tryz.func129, Tryz.ntmps129
  go_wp2_with (first | (refine (nought_any _ _ hx).mono ?_; rintro e w' ⟨rfl, hb⟩; obtain ⟨c0, c1, c2, c3⟩ := ((AC.new w _ rfl [_, _, _, _] _).keep hb).act) | fail)
  all_goals (go_ret; refine ⟨ret_bool ?_, ?_⟩)
  all_goals first | exact (Bl.refl w).alloc _ | exact ((Bl.refl w).alloc _).trans (by assumption) | skip
  all_goals (unfold rightB; simp_all; try omega)
theorem store_float (a : Addr) (b : Nat) (w : World) : (store a (.float .f64 b)).run Tryz.prog w = stored Tryz.prog w a (.float .f64 b) .plain := run_store Tryz.prog w a _ .plain rfl
theorem Bl.store4 {w W : World} (h : Bl w W) {g : Nat} (hg : w.heap.size ≤ g) (a b c d : Value) : Bl w ((((W.setCell ⟨g, 0, none⟩ a).setCell ⟨g, 1, none⟩ b).setCell ⟨g, 2, none⟩ c).setCell ⟨g, 3, none⟩ d) :=
  Below.setCell (p := ⟨g, 3, none⟩) (Below.setCell (p := ⟨g, 2, none⟩) (Below.setCell (p := ⟨g, 1, none⟩) (Below.setCell (p := ⟨g, 0, none⟩) h hg _) hg _) hg _) hg _


theorem AC.set4 {w : World} {g : Nat} {a0 b0 c0 d0 : Value} (h : AC w g [a0, b0, c0, d0]) (a b c d : Value) :
    AC ((((w.setCell ⟨g, 0, none⟩ a).setCell ⟨g, 1, none⟩ b).setCell ⟨g, 2, none⟩ c).setCell ⟨g, 3, none⟩ d) g [a, b, c, d] := by
  obtain ⟨t, h⟩ := h
  refine ⟨t, ?_⟩
  have h1 := heap_setCell_same w g 0 _ t a h
  have h2 := heap_setCell_same _ g 1 _ t b h1
  have h3 := heap_setCell_same _ g 2 _ t c h2
  have h4 := heap_setCell_same _ g 3 _ t d h3
  rw [h4]
  simp
theorem AC.other4 {w : World} {g g' : Nat} {cs : List Value} (h : AC w g cs) (hn : g ≠ g') (a b c d : Value) :
    AC ((((w.setCell ⟨g', 0, none⟩ a).setCell ⟨g', 1, none⟩ b).setCell ⟨g', 2, none⟩ c).setCell ⟨g', 3, none⟩ d) g cs :=
  (((h.other hn).other hn).other hn).other hn
theorem wrap64_bd (n : Int) : -9223372036854775808 ≤ wrap64 n ∧ wrap64 n ≤ 9223372036854775807 := by unfold wrap64; omega
theorem nil_small : nilS.size ≤ 140737488351232 := by decide
theorem small_int (n : Int) (h : -10 ≤ n ∧ n ≤ 10) : -9223372036854775808 ≤ n ∧ n ≤ 9223372036854775807 := by omega
theorem joined_ok {a b : ActL} (oa : a.Ok) (ob : b.Ok) : (joined a b).Ok := by
  unfold joined
  split
  · exact ⟨small_int 1 (by omega), (by decide : (0 : Nat) < two64), wrap64_bd _, nil_small⟩
  · split
    · exact ⟨small_int 2 (by omega), rmax_lt' oa.x ob.x, small_int 0 (by omega), nil_small⟩
    · split
      · exact ⟨small_int 3 (by omega), rmin_lt oa.x ob.x, small_int 0 (by omega), nil_small⟩
      · exact ob
theorem valOf_ok {a : ActL} (oa : a.Ok) : (valOf a).Ok := by
  unfold valOf
  split
  · exact noVal_ok
  · exact ⟨oa.x, oa.n, oa.s⟩
theorem after_ok {key : ByteArray} {v : ValL} {a : ActL} (ov : v.Ok) (oa : a.Ok) : (afterL key v a).Ok := by
  unfold afterL
  split
  · refine valOf_ok ?_
    split
    · exact joined_ok ⟨oa.k, ov.x, ov.n, by show (0 : Nat) ≤ _; omega⟩ oa
    · exact oa
  · exact ov
end Go.Proofs.YtaplefelfiefaaaGreat
end

/- Regions that draw their order and whose calls make memory: an operation that tells the same in every world that goes on from the region's first one, and only goes on from the world that it got, may be taken first. · Regions that draw their order: the operations that may be taken first, named by their numbers. By an AI agent. -/
section
namespace Go.Proofs.YtaplefelfiefaaaGreat
open Go.RowKit

/-- a world of a class -/
def ExtC (C : World → Prop) : Type := { w' : World // C w' }
def ExtC.at {C : World → Prop} (n : ExtC C) : World := n.val
theorem ExtC.ok {C : World → Prop} (n : ExtC C) : C n.at := n.property
/-- a world that goes on from w -/
abbrev Ext (w : World) : Type := ExtC (Bl w)
theorem ExtC.bl {w : World} (n : Ext w) : Bl w n.at := n.property
instance (w : World) : Nonempty (Ext w) := ⟨⟨w, Bl.refl w⟩⟩

section
variable {P : Program} {ops : Array Oper} {md : Region.Mode} {C : World → Prop}

/-- what is asked of an operation: it returns -/
def eUpon (P : Program) (o : Oper) (a : Act) (K : Act → World → Prop) : Result Next → Prop
  | .ok (.value u) w' => K (a.put o.dst u) w'
  | .ok .skip w' => K (a.put o.dst undef) w'
  | .ok (.enter f args) w' => Calls P f args w' (fun e w'' => ∃ v, e = .returned v ∧ K (a.put o.dst v) w'')
  | _ => False
def eOper (P : Program) (o : Oper) (a : Act) (w : World) (K : Act → World → Prop) : Prop := eUpon P o a K ((execOp a.eval o).run P w)
def eOp (P : Program) (ops : Array Oper) (i : Nat) (K : Act → World → Prop) (a : Act) (w : World) : Prop :=
  match ops[i]? with
  | none => K a w
  | some o => if Region.wanted o (yielded ops a.tmps) then eOper P o a w K else K (a.put o.dst undef) w

theorem eUpon_mono {o : Oper} {a : Act} {K K' : Act → World → Prop} (h : ∀ a w, K a w → K' a w) {r : Result Next} (hh : eUpon P o a K r) : eUpon P o a K' r := by
  cases r with
  | ok n w' =>
    cases n <;> simp only [eUpon] at hh ⊢
    case value u => exact h _ _ hh
    case skip => exact h _ _ hh
    case enter f args => exact hh.mono fun e w'' ⟨v, he, hk⟩ => ⟨v, he, h _ _ hk⟩
  | halt x w' => simp only [eUpon] at hh
theorem eOp_mono {i : Nat} {a : Act} {w : World} {K K' : Act → World → Prop} (h : ∀ a w, K a w → K' a w) (hh : eOp P ops i K a w) : eOp P ops i K' a w := by
  unfold eOp at *
  split
  · exact h _ _ (by simpa [*] using hh)
  · rename_i o ho
    simp only [ho] at hh
    split
    · rename_i hw; simp only [hw, if_true] at hh; exact eUpon_mono h hh
    · rename_i hw; simp only [hw] at hh; exact h _ _ hh
theorem wpOp_of_eOp {i : Nat} {a : Act} {w : World} {K : Act → World → Prop} {Q : Exit → Act → World → Prop} (hh : eOp P ops i K a w) : wpOp P ops Q i K a w := by
  unfold eOp at hh
  unfold wpOp
  split
  · rename_i ho; simp only [ho] at hh; exact hh
  · rename_i o ho
    simp only [ho] at hh
    split
    · rename_i hw
      simp only [hw, if_true] at hh
      refine .inl ?_
      unfold eOper at hh
      unfold Oper.wp
      generalize (execOp a.eval o).run P w = r at *
      cases r with
      | ok n w' =>
        cases n <;> simp only [eUpon] at hh <;> simp only [Oper.upon]
        case value u => exact hh
        case skip => exact hh
        case enter f args => exact hh.mono fun e w'' ⟨v, he, hk⟩ => by subst he; exact hk
      | halt x w' => simp only [eUpon] at hh
    · rename_i hw; simp only [hw] at hh; exact hh

/-- whatever order is picked from here on, and whatever is laid behind meanwhile -/
def wpAnyE (P : Program) (md : Region.Mode) (ops : Array Oper) (C : World → Prop) (Q : Act → World → Prop) : Nat → Array Bool → Act → World → Prop
  | 0, listed, a, w => Region.ready md ops listed = [] ∧ ∀ w', Bl w w' → Q a w'
  | fuel + 1, listed, a, w =>
    (Region.ready md ops listed = [] → ∀ w', Bl w w' → Q a w') ∧
    ∀ i ∈ Region.ready md ops listed, ∀ w', Bl w w' → eOp P ops i (fun a'' w'' => C w'' ∧ wpAnyE P md ops C Q fuel (listed.setIfInBounds i true) a'' w'') a w'

theorem wpAnyE_ext {Q : Act → World → Prop} : ∀ {fuel : Nat} {listed : Array Bool} {a : Act} {w w' : World}, Bl w w' → wpAnyE P md ops C Q fuel listed a w → wpAnyE P md ops C Q fuel listed a w'
  | 0, _, _, _, _, hb, h => ⟨h.1, fun w'' h2 => h.2 w'' (hb.trans h2)⟩
  | _ + 1, _, _, _, _, hb, h => ⟨fun h0 w'' h2 => h.1 h0 w'' (hb.trans h2), fun i hi w'' h2 => h.2 i hi w'' (hb.trans h2)⟩
theorem wpAny_of_E {Q : Act → World → Prop} {Q' : Exit → Act → World → Prop} (hQ : ∀ a w, Q a w → Q' .normal a w) : ∀ (fuel : Nat) (listed : Array Bool) (a : Act) (w : World),
    wpAnyE P md ops C Q fuel listed a w → wpAny P md ops Q' fuel listed a w
  | 0, _, _, _, h => ⟨h.1, hQ _ _ (h.2 _ (Bl.refl _))⟩
  | fuel + 1, _, _, _, h => ⟨fun h0 => hQ _ _ (h.1 h0 _ (Bl.refl _)), fun i hi => wpOp_mono (fun _ _ k => wpAny_of_E hQ fuel _ _ _ k.2) (wpOp_of_eOp (h.2 i hi _ (Bl.refl _)))⟩

/-- in every world that goes on from C the operation yields v and goes on from the world that it got -/
def YE (P : Program) (ops : Array Oper) (C : World → Prop) (o : Oper) (v : Value) (a : Act) : Prop :=
  (Region.wanted o (yielded ops a.tmps) = true ∧ ∀ w, C w → o.quietAt P a (fun w'' => Bl w w'') w v) ∨
  (Region.wanted o (yielded ops a.tmps) = false ∧ v = undef)
theorem YE.of_same {o : Oper} {v : Value} {a a' : Act} (hy : YE P ops C o v a) (he : execOp a'.eval o = execOp a.eval o)
    (hw : Region.wanted o (yielded ops a'.tmps) = Region.wanted o (yielded ops a.tmps)) : YE P ops C o v a' := by
  unfold YE Oper.quietAt at *
  rw [he, hw]
  exact hy
theorem YE.eOp {i : Nat} {o : Oper} {v : Value} {a : Act} {w : World} (hi : ops[i]? = some o) (hy : YE P ops C o v a) (hw0 : C w) {K : Act → World → Prop} (h : ∀ w', Bl w w' → K (a.put o.dst v) w') : eOp P ops i K a w := by
  unfold Go.Proofs.YtaplefelfiefaaaGreat.eOp
  simp only [hi]
  rcases hy with ⟨hw, hv⟩ | ⟨hw, rfl⟩
  · simp only [hw, if_true]
    have h3 := hv w hw0
    unfold Oper.quietAt at h3
    unfold eOper
    generalize (execOp a.eval o).run P w = r at *
    cases r with
    | ok n w' =>
      cases n <;> simp only [Oper.quietUpon] at h3 <;> simp only [eUpon]
      case value u =>
        obtain ⟨e1, e2⟩ := h3
        rw [e1, e2]; exact h _ (Bl.refl _)
      case skip =>
        obtain ⟨e1, e2⟩ := h3
        rw [e1, ← e2]; exact h _ (Bl.refl _)
      case enter f args =>
        obtain ⟨e1, hc⟩ := h3
        rw [e1]
        exact hc.mono fun e w'' ⟨he, hb⟩ => ⟨v, he, h _ hb⟩
    | halt x w' => simp only [Oper.quietUpon] at h3
  · simp only [hw, Bool.false_eq_true, if_false]; exact h _ (Bl.refl _)

/-- one operation, apart from another one whose value may be there already or not -/
theorem eOp_put {j : Nat} {oi oj : Oper} {v : Value} (hj : ops[j]? = some oj) (hap : oi.apart ops oj = true)
    (hsi : ∀ cs b, oi.op ≠ .select cs b) (hsj : ∀ cs b, oj.op ≠ .select cs b) {K : Act → World → Prop} {a : Act} {w : World}
    (hy : YE P ops C oi v a) (h : eOp P ops j K (a.put oi.dst v) w) :
    eOp P ops j (fun a' w' => YE P ops C oi v a' ∧ K (a'.put oi.dst v) w') a w := by
  obtain ⟨h1, h2, h3⟩ := Oper.apart_spec hap
  have keep : ∀ (a : Act), YE P ops C oi v a → ∀ u, YE P ops C oi v (a.put oj.dst u) := fun a hy u =>
    hy.of_same (execOp_put oi hsi a oj.dst u h3) (wanted_put oi a oj.dst u h3)
  unfold Go.Proofs.YtaplefelfiefaaaGreat.eOp at *
  simp only [hj] at *
  rw [wanted_put oj a oi.dst v h1] at h
  split
  · rename_i hw
    simp only [hw, if_true] at h
    unfold eOper at *
    rw [execOp_put oj hsj a oi.dst v h1] at h
    generalize (execOp a.eval oj).run P w = r at *
    cases r with
    | ok n w' =>
      cases n <;> simp only [eUpon] at h ⊢
      case value u => exact ⟨keep a hy u, by rw [← Act.put_comm a v u h2]; exact h⟩
      case skip => exact ⟨keep a hy _, by rw [← Act.put_comm a v undef h2]; exact h⟩
      case enter f args => exact h.mono fun e w'' ⟨u, he, hk⟩ => ⟨u, he, keep a hy u, by rw [← Act.put_comm a v u h2]; exact hk⟩
    | halt x w' => simp only [eUpon] at h
  · rename_i hw
    simp only [hw] at h
    exact ⟨keep a hy _, by rw [← Act.put_comm a v undef h2]; exact h⟩

theorem wpAnyE_first (hcl : ∀ w w', C w → Bl w w' → C w') {Q : Act → World → Prop} {i : Nat} {oi : Oper} {v : Value} (hi : ops[i]? = some oi) (hsel : ∀ (j : Nat) (o : Oper) cs b, ops[j]? = some o → o.op ≠ .select cs b) :
    ∀ (fuel : Nat) (listed : Array Bool) (a : Act) (w : World), C w →
      (∀ j oj, ops[j]? = some oj → j ≠ i → listed.getD j true = false → (∀ e ∈ oj.after, Region.binds md e = true → e.on ≠ i) → oi.apart ops oj = true) →
      i ∈ Region.ready md ops listed → YE P ops C oi v a →
      wpAnyE P md ops C Q fuel (listed.setIfInBounds i true) (a.put oi.dst v) w → wpAnyE P md ops C Q (fuel + 1) listed a w := by
  intro fuel
  induction fuel with
  | zero =>
    intro listed a w hb _ hr hy H
    refine ⟨fun h => (by rw [h] at hr; cases hr), fun j hj w' hb' => ?_⟩
    by_cases hji : j = i
    · subst hji; exact hy.eOp hi (hcl _ _ hb hb') fun w'' hb'' => ⟨hcl _ _ hb (hb'.trans hb''), wpAnyE_ext (hb'.trans hb'') H⟩
    · have := ready_mono hj hji
      rw [H.1] at this
      cases this
  | succ fuel ih =>
    intro listed a w hb hfree hr hy H
    refine ⟨fun h => (by rw [h] at hr; cases hr), fun j hj w' hb' => ?_⟩
    by_cases hji : j = i
    · subst hji; exact hy.eOp hi (hcl _ _ hb hb') fun w'' hb'' => ⟨hcl _ _ hb (hb'.trans hb''), wpAnyE_ext (hb'.trans hb'') H⟩
    · have h1 := H.2 j (ready_mono hj hji) w' hb'
      obtain ⟨hjun, oj, hoj, hall⟩ := mem_ready.1 hj
      have hnot : ∀ e ∈ oj.after, Region.binds md e = true → e.on ≠ i := fun e he hb heq => by
        have h1 := hall e he hb
        have h0 := (mem_ready.1 hr).1
        rw [heq] at h1
        rcases Nat.lt_or_ge i listed.size with h' | h'
        · simp [h'] at h0 h1; rw [h0] at h1; cases h1
        · simp [Array.getElem?_eq_none h'] at h1
      have h2 := eOp_put hoj (hfree j oj hoj hji hjun hnot) (fun cs b => hsel i oi cs b hi) (fun cs b => hsel j oj cs b hoj) hy h1
      have hfree' : ∀ k ok, ops[k]? = some ok → k ≠ i → (listed.setIfInBounds j true).getD k true = false →
          (∀ e ∈ ok.after, Region.binds md e = true → e.on ≠ i) → oi.apart ops ok = true := fun k ok hk hki hun hno => by
        refine hfree k ok hk hki ?_ hno
        by_cases hjk : j = k
        · subst hjk; exact hjun
        · rw [getD_set_ne true hjk] at hun; exact hun
      refine eOp_mono (fun a' w'' h3 => ⟨h3.2.1, ih (listed.setIfInBounds j true) a' w'' h3.2.1 hfree' (ready_mono hr (Ne.symm hji)) h3.1 ?_⟩) h2
      rw [Array.setIfInBounds_comm _ _ hji]
      exact h3.2.2

/-! the lexical walk of the first operations -/
def wpE (P : Program) (ops : Array Oper) (C : World → Prop) (Q : Act → Prop) : List Oper → Act → Prop
  | [], a => Q a
  | o :: rest, a => if Region.wanted o (yielded ops a.tmps) then ∃ v, (∀ n : ExtC C, o.quietAt P a (fun w'' => Bl n.at w'') n.at v) ∧ wpE P ops C Q rest (a.put o.dst v) else wpE P ops C Q rest (a.put o.dst undef)
theorem wpE_nil {Q : Act → Prop} {a : Act} (h : Q a) : wpE P ops C Q [] a := h
theorem wpE_step {Q : Act → Prop} {a : Act} {o : Oper} {rest : List Oper}
    (h : ∀ K : Act → Prop, (∀ a, wpE P ops C Q rest a → K a) → if Region.wanted o (yielded ops a.tmps) then ∃ v, (∀ n : ExtC C, o.quietAt P a (fun w'' => Bl n.at w'') n.at v) ∧ K (a.put o.dst v) else K (a.put o.dst undef)) : wpE P ops C Q (o :: rest) a :=
  h _ (fun _ h => h)
/-- may the next n operations, from k on, be taken first, one behind the other? -/
def lexPre (md : Region.Mode) (ops : Array Oper) : Nat → Nat → Array Bool → Bool
  | 0, _, _ => true
  | n + 1, k, listed => (Region.ready md ops listed).contains k && Region.free md ops listed k && lexPre md ops n (k + 1) (listed.setIfInBounds k true)
def lexSet : Nat → Nat → Array Bool → Array Bool
  | 0, _, listed => listed
  | n + 1, k, listed => lexSet n (k + 1) (listed.setIfInBounds k true)
theorem wpAnyE_lex (hcl : ∀ w w', C w → Bl w w' → C w') {Q : Act → World → Prop} (hs : Region.noSelect ops = true) (m : Nat) (w : World) (hw : C w) : ∀ (l : List Oper) (k : Nat) (listed : Array Bool) (a : Act), (∀ j o, l[j]? = some o → ops[k + j]? = some o) →
    lexPre md ops l.length k listed = true → wpE P ops C (fun a' => wpAnyE P md ops C Q m (lexSet l.length k listed) a' w) l a → wpAnyE P md ops C Q (l.length + m) listed a w
  | [], _, _, _, _, _, h => by rw [List.length_nil, Nat.zero_add]; exact h
  | o :: l, k, listed, a, hl, hB, h => by
    have h0 : ops[k]? = some o := by simpa using hl 0 o rfl
    simp only [List.length_cons, lexPre, Bool.and_eq_true] at hB
    obtain ⟨⟨hr, hf⟩, hB'⟩ := hB
    have hl' : ∀ j o, l[j]? = some o → ops[k + 1 + j]? = some o := fun j o h => by
      have := hl (j + 1) o (by simpa using h)
      rwa [show k + 1 + j = k + (j + 1) by omega]
    rw [List.length_cons, show l.length + 1 + m = (l.length + m) + 1 by omega]
    unfold wpE at h
    have key : ∀ v, YE P ops C o v a → wpE P ops C (fun a' => wpAnyE P md ops C Q m (lexSet (o :: l).length k listed) a' w) l (a.put o.dst v) → wpAnyE P md ops C Q (l.length + m + 1) listed a w := fun v hy hK =>
      wpAnyE_first hcl h0 (Region.noSelect_spec hs) (l.length + m) listed a w hw (Region.free_spec h0 hf) (by simpa using hr) hy
        (wpAnyE_lex hcl hs m w hw l (k + 1) _ _ hl' hB' hK)
    split at h
    · rename_i hw
      obtain ⟨v, hv, hK⟩ := h
      exact key v (.inl ⟨hw, fun w hb => hv ⟨w, hb⟩⟩) hK
    · rename_i hw
      exact key undef (.inr ⟨by simpa using hw, rfl⟩) h

/-- a region whose first n operations only tell or call, whatever comes behind them, at a class of worlds -/
theorem wp_region_extC {id : Nat} {Q : Exit → Act → World → Prop} {a : Act} {w : World} {l : List Oper} (C : World → Prop) (hcl : ∀ w w', C w → Bl w w' → C w') (hw : C w.drew) (n m : Nat) (hm : P.follows .mixedOrders = true) (hn : l.length = n + m)
    (hs : Region.noSelect l.toArray = true) (hB : lexPre .any l.toArray (l.take n).length 0 (Array.replicate l.length false) = true)
    (h : wpE P l.toArray C (fun a' => wpAnyE P .any l.toArray C (fun a w => Q .normal a w) m (lexSet (l.take n).length 0 (Array.replicate l.length false)) a' w.drew) (l.take n) a) :
    (Code.region id l.toArray true).wp P Q a w := by
  refine wp_region_any hm (wpAny_of_E (C := C) (Q := fun a w => Q .normal a w) (fun _ _ h => h) _ _ _ _ ?_)
  have hk := wpAnyE_lex (md := .any) hcl (Q := fun a w => Q .normal a w) hs m w.drew hw (l.take n) 0 (Array.replicate l.length false) a (fun j o h => by
    rw [List.getElem?_take] at h
    split at h
    · simpa using h
    · cases h) hB h
  have e : (l.take n).length + m = l.toArray.size := by simp; omega
  rw [e] at hk
  simpa using hk
/-- .. at the worlds that go on from the region's first one -/
theorem wp_region_ext {id : Nat} {Q : Exit → Act → World → Prop} {a : Act} {w : World} {l : List Oper} (n m : Nat) (hm : P.follows .mixedOrders = true) (hn : l.length = n + m)
    (hs : Region.noSelect l.toArray = true) (hB : lexPre .any l.toArray (l.take n).length 0 (Array.replicate l.length false) = true)
    (h : wpE P l.toArray (Bl w.drew) (fun a' => wpAnyE P .any l.toArray (Bl w.drew) (fun a w => Q .normal a w) m (lexSet (l.take n).length 0 (Array.replicate l.length false)) a' w.drew) (l.take n) a) :
    (Code.region id l.toArray true).wp P Q a w :=
  wp_region_extC (Bl w.drew) (fun _ _ h k => h.trans k) (Bl.refl _) n m hm hn hs hB h
/-- all of them -/
theorem wp_region_extall {id : Nat} {Q : Exit → Act → World → Prop} {a : Act} {w : World} {l : List Oper} (hm : P.follows .mixedOrders = true)
    (hB : Region.lexB .any l.toArray = true)
    (h : wpE P l.toArray (Bl w.drew) (fun a' => ∀ n : Ext w.drew, Q .normal a' n.at) l a) :
    (Code.region id l.toArray true).wp P Q a w := by
  simp only [Region.lexB, Bool.and_eq_true] at hB
  have hpre : ∀ (f k : Nat) (listed : Array Bool), Region.lexFrom .any l.toArray f k listed = true → lexPre .any l.toArray f k listed = true ∧ Region.ready .any l.toArray (lexSet f k listed) = [] := by
    intro f
    induction f with
    | zero => intro k listed h; exact ⟨rfl, by simpa [Region.lexFrom, lexSet] using h⟩
    | succ f ih =>
      intro k listed h
      simp only [Region.lexFrom, Bool.and_eq_true] at h
      have := ih (k + 1) _ h.2
      exact ⟨by simp only [lexPre, Bool.and_eq_true]; exact ⟨h.1, this.1⟩, this.2⟩
  have h2 := hpre _ _ _ hB.2
  have hsz : l.toArray.size = l.length := by simp
  rw [hsz] at h2
  refine wp_region_any hm (wpAny_of_E (C := Bl w.drew) (Q := fun a w => Q .normal a w) (fun _ _ h => h) _ _ _ _ ?_)
  have hk := wpAnyE_lex (P := P) (C := Bl w.drew) (md := .any) (fun _ _ h k => h.trans k) (Q := fun a w => Q .normal a w) hB.1 0 w.drew (Bl.refl _) l 0 (Array.replicate l.length false) a (fun j o h => by simpa using h) h2.1 (by
    have hmono : ∀ (Q1 Q2 : Act → Prop), (∀ a, Q1 a → Q2 a) → ∀ (m : List Oper) (a : Act), wpE P l.toArray (Bl w.drew) Q1 m a → wpE P l.toArray (Bl w.drew) Q2 m a := by
      intro Q1 Q2 hq m
      induction m with
      | nil => exact fun a h => hq a h
      | cons o m ih =>
        intro a h
        unfold wpE at h ⊢
        split at h
        · rename_i hw
          obtain ⟨v, h1, h2⟩ := h
          rw [if_pos hw]; exact ⟨v, h1, ih _ h2⟩
        · rename_i hw
          rw [if_neg hw]; exact ih _ h
    exact hmono _ _ (fun a ha => ⟨h2.2, fun w' hb => ha ⟨w', hb⟩⟩) l a h)
  rw [Nat.add_zero] at hk
  simpa using hk

/-- the operations that are left, one of them at a time -/
theorem wpAnyE_all {Q : Act → World → Prop} {rs : List Nat} {fuel : Nat} {listed : Array Bool} {a : Act} {w : World} (hr : Region.ready md ops listed = rs) (hne : rs ≠ [])
    (h : ∀ i ∈ rs, ∀ w', Bl w w' → eOp P ops i (fun a'' w'' => C w'' ∧ wpAnyE P md ops C Q fuel (listed.setIfInBounds i true) a'' w'') a w') : wpAnyE P md ops C Q (fuel + 1) listed a w :=
  ⟨fun h0 => absurd (hr.symm.trans h0) hne, fun i hi => h i (hr ▸ hi)⟩
theorem wpAnyE_one {Q : Act → World → Prop} {i fuel : Nat} {listed : Array Bool} {a : Act} {w : World} (hr : Region.ready md ops listed = [i])
    (h : ∀ w', Bl w w' → eOp P ops i (fun a'' w'' => C w'' ∧ wpAnyE P md ops C Q fuel (listed.setIfInBounds i true) a'' w'') a w') : wpAnyE P md ops C Q (fuel + 1) listed a w :=
  wpAnyE_all hr (by simp) fun j hj => by
    rw [List.mem_singleton] at hj; subst hj; exact h
theorem wpAnyE_done {Q : Act → World → Prop} {fuel : Nat} {listed : Array Bool} {a : Act} {w : World} (hr : Region.ready md ops listed = []) (h : ∀ w', Bl w w' → Q a w') : wpAnyE P md ops C Q fuel listed a w := by
  cases fuel with
  | zero => exact ⟨hr, h⟩
  | succ fuel => exact ⟨fun _ => h, fun i hi => by rw [hr] at hi; cases hi⟩
/-- 'append' to what the call itself has made, among the operations that are left -/
theorem eOp_append {i : Nat} {o : Oper} {a : Act} {w : World} {K : Act → World → Prop} (ho' : ops[i]? = some o) (hgd : o.guard = none) (s x : Operand) (t : TypeId)
    (ho : o.op = .call { callee := .builtin .append, args := #[s, x], argTypes := #[t, t] })
    (base : Nat) (e : TypeId) (ti : TypeInfo) (z : Value) (size bytes : Nat) (ht : P.underlying t = some (.slice e)) (hi : P.info? e = some ti) (hz : ti.zero = some z)
    (hsize : ti.size = size) (hby : ti.bytes = bytes) (hzs : z.cells.size = size) (hsz : 0 < size)
    (v : Value) (n : Nat) (xs : List Value) (hs : a.eval s = v) (hown : w.ownsRow base e size v n xs)
    (ad : Addr) (m c : Nat) (news : List Value) (hx : a.eval x = .slice (some ad) m c) (hl : news.length = m * size) (hnews : ∀ j u, news[j]? = some u → w.cell? (ad.add j) = some u) (h1 : ∀ u ∈ news, u.oneCell' = true)
    (h63 : n + m ≤ maxLen) (hbytes : (n + m) * bytes ≤ 140737488355328) (hbase : base ≤ w.heap.size)
    (h : ∀ v' w', w'.ownsRow base e size v' (n + m) (xs ++ news) → w.grownBy w' v.ownBlock → (v' = .slice none 0 0 ↔ v = .slice none 0 0 ∧ m = 0) → K (a.put o.dst v') w') : eOp P ops i K a w := by
  obtain ⟨v', w', hr, h2, h3, h4⟩ := run_append_own (P := P) w base t o.type e ti z size bytes ht hi hz hsize hby hzs hsz v n xs hown ad m c news hl hnews h1 h63 hbytes hbase
  unfold eOp
  simp only [ho']
  rw [if_pos (by simp [Region.wanted, hgd])]
  unfold eOper execOp
  simp only [ho, resolve, invoke, builtin, Sem.run_bind, Sem.run_pure, Result.andThen_ok, List.map_toArray, List.map_cons, List.map_nil, hs, hx, hr, eUpon]
  exact h v' w' h2 h3 h4
end
end Go.Proofs.YtaplefelfiefaaaGreat

namespace Go.Proofs.YtaplefelfiefaaaGreat
open Go.RowKit

section
variable {P : Program} {ops : Array Oper} {md : Region.Mode} {C : World → Prop}

/-- may these operations be taken first, one behind the other? -/
def preB (md : Region.Mode) (ops : Array Oper) : List Nat → Array Bool → Bool
  | [], _ => true
  | i :: is, listed => (Region.ready md ops listed).contains i && Region.free md ops listed i && preB md ops is (listed.setIfInBounds i true)
def setAll : List Nat → Array Bool → Array Bool
  | [], listed => listed
  | i :: is, listed => setAll is (listed.setIfInBounds i true)
def wpI (P : Program) (ops : Array Oper) (C : World → Prop) (Q : Act → Prop) : List Nat → Act → Prop
  | [], a => Q a
  | i :: is, a => ∃ o, ops[i]? = some o ∧ if Region.wanted o (yielded ops a.tmps) then ∃ v, (∀ n : ExtC C, o.quietAt P a (fun w'' => Bl n.at w'') n.at v) ∧ wpI P ops C Q is (a.put o.dst v) else wpI P ops C Q is (a.put o.dst undef)
theorem wpI_nil {Q : Act → Prop} {a : Act} (h : Q a) : wpI P ops C Q [] a := h
theorem wpI_step {Q : Act → Prop} {a : Act} {i : Nat} {is : List Nat} {o : Oper} (ho : ops[i]? = some o)
    (h : ∀ K : Act → Prop, (∀ a, wpI P ops C Q is a → K a) → if Region.wanted o (yielded ops a.tmps) then ∃ v, (∀ n : ExtC C, o.quietAt P a (fun w'' => Bl n.at w'') n.at v) ∧ K (a.put o.dst v) else K (a.put o.dst undef)) : wpI P ops C Q (i :: is) a :=
  ⟨o, ho, h _ (fun _ h => h)⟩
theorem wpAnyE_idx (hcl : ∀ w w', C w → Bl w w' → C w') {Q : Act → World → Prop} (hs : Region.noSelect ops = true) (m : Nat) (w : World) (hw : C w) : ∀ (is : List Nat) (listed : Array Bool) (a : Act),
    preB md ops is listed = true → wpI P ops C (fun a' => wpAnyE P md ops C Q m (setAll is listed) a' w) is a → wpAnyE P md ops C Q (is.length + m) listed a w
  | [], _, _, _, h => by rw [List.length_nil, Nat.zero_add]; exact h
  | i :: is, listed, a, hB, h => by
    simp only [preB, Bool.and_eq_true] at hB
    obtain ⟨⟨hr, hf⟩, hB'⟩ := hB
    obtain ⟨o, h0, h⟩ := h
    rw [List.length_cons, show is.length + 1 + m = (is.length + m) + 1 by omega]
    have key : ∀ v, YE P ops C o v a → wpI P ops C (fun a' => wpAnyE P md ops C Q m (setAll (i :: is) listed) a' w) is (a.put o.dst v) → wpAnyE P md ops C Q (is.length + m + 1) listed a w := fun v hy hK =>
      wpAnyE_first hcl h0 (Region.noSelect_spec hs) (is.length + m) listed a w hw (Region.free_spec h0 hf) (by simpa using hr) hy
        (wpAnyE_idx hcl hs m w hw is _ _ hB' hK)
    split at h
    · rename_i hw
      obtain ⟨v, hv, hK⟩ := h
      exact key v (.inl ⟨hw, fun w hb => hv ⟨w, hb⟩⟩) hK
    · rename_i hw
      exact key undef (.inr ⟨by simpa using hw, rfl⟩) h
/-- a region of which the named operations only tell or call and may be taken first -/
theorem wp_region_idx {id : Nat} {Q : Exit → Act → World → Prop} {a : Act} {w : World} {l : List Oper} (is : List Nat) (m : Nat) (C : World → Prop) (hcl : ∀ w w', C w → Bl w w' → C w') (hw : C w.drew) (hm : P.follows .mixedOrders = true) (hn : l.length = is.length + m)
    (hs : Region.noSelect l.toArray = true) (hB : preB .any l.toArray is (Array.replicate l.length false) = true)
    (h : wpI P l.toArray C (fun a' => wpAnyE P .any l.toArray C (fun a w => Q .normal a w) m (setAll is (Array.replicate l.length false)) a' w.drew) is a) :
    (Code.region id l.toArray true).wp P Q a w := by
  refine wp_region_any hm (wpAny_of_E (C := C) (Q := fun a w => Q .normal a w) (fun _ _ h => h) _ _ _ _ ?_)
  have hk := wpAnyE_idx (md := .any) hcl (Q := fun a w => Q .normal a w) hs m w.drew hw is (Array.replicate l.length false) a hB h
  have e : is.length + m = l.toArray.size := by simp; omega
  rw [e] at hk
  simpa using hk
end
/-! a narrower class of worlds from here on -/
section
variable {P : Program} {ops : Array Oper} {md : Region.Mode}
end

/-! the walk of all operations, shut: nothing of it is laid open but one operation at a time (where a guard is not met the open form would be reckoned to its end) -/
section
variable {P : Program} {ops : Array Oper} {C : World → Prop}
structure wpS (P : Program) (ops : Array Oper) (C : World → Prop) (Q : Act → Prop) (l : List Oper) (a : Act) : Prop where
  out : wpE P ops C Q l a
theorem wpS_nil {Q : Act → Prop} {a : Act} (h : Q a) : wpS P ops C Q [] a := ⟨h⟩
theorem wpS_step {Q : Act → Prop} {a : Act} {o : Oper} {rest : List Oper}
    (h : ∀ K : Act → Prop, (∀ a, wpS P ops C Q rest a → K a) → if Region.wanted o (yielded ops a.tmps) then ∃ v, (∀ n : ExtC C, o.quietAt P a (fun w'' => Bl n.at w'') n.at v) ∧ K (a.put o.dst v) else K (a.put o.dst undef)) : wpS P ops C Q (o :: rest) a :=
  ⟨wpE_step fun K hK => h K fun a k => hK a k.out⟩
theorem wp_region_allS {id : Nat} {Q : Exit → Act → World → Prop} {a : Act} {w : World} {l : List Oper} (hm : P.follows .mixedOrders = true) (hB : Region.lexB .any l.toArray = true)
    (h : wpS P l.toArray (Bl w.drew) (fun a' => ∀ n : Ext w.drew, Q .normal a' n.at) l a) : (Code.region id l.toArray true).wp P Q a w :=
  wp_region_extall hm hB h.out
end
end Go.Proofs.YtaplefelfiefaaaGreat
end

/- append to what a call has made, of elements of any type, of whatever slice (nil too). By an AI agent. -/
section
namespace Go.Proofs.YtaplefelfiefaaaGreat
open Go.RowKit
attribute [local go_sem] eOp eOper eUpon

/-- the cells of a slice of n elements of so many cells each -/
structure SG (w : World) (size : Nat) (a : Option Addr) (n : Nat) (cs : List Value) : Prop where
  len : cs.length = n * size
  at_ : ∀ ad, a = some ad → ∀ j u, cs[j]? = some u → w.cell? (ad.add j) = some u
  nil : a = none → n = 0
  one : ∀ u ∈ cs, u.oneCell' = true
theorem SG.keep {w w' : World} {size : Nat} {a : Option Addr} {n : Nat} {cs : List Value} (h : SG w size a n cs) (hb : Bl w w') : SG w' size a n cs :=
  ⟨h.len, fun ad e j u hu => hb.cell (h.at_ ad e j u hu), h.nil, h.one⟩
/-- what is asked of the types -/
structure EL (T E : TypeId) (size bytes : Nat) : Prop where
  ty : Tryz.prog.underlying T = some (.slice E)
  info : ∃ i z, Tryz.prog.info? E = some i ∧ i.zero = some z ∧ i.size = size ∧ i.bytes = bytes ∧ z.cells.size = size
  pos : 0 < size
theorem el_of {T E : TypeId} {size bytes : Nat} (h1 : Tryz.prog.underlying T = some (.slice E)) (h2 : (Tryz.prog.info? E).map (fun i => (i.zero.map (fun z => z.cells.size), i.size, i.bytes)) = some (some size, size, bytes)) (h3 : 0 < size) : EL T E size bytes := by
  refine ⟨h1, ?_, h3⟩
  cases hi : Tryz.prog.info? E with
  | none => rw [hi] at h2; cases h2
  | some i =>
    rw [hi] at h2
    simp only [Option.map_some, Option.some.injEq, Prod.mk.injEq] at h2
    obtain ⟨g1, g2, g3⟩ := h2
    cases hz : i.zero with
    | none => rw [hz] at g1; cases g1
    | some z =>
      rw [hz] at g1
      simp only [Option.map_some, Option.some.injEq] at g1
      exact ⟨i, z, rfl, hz, g2, g3, g1⟩
theorem run_appG {w : World} {B : Nat} {T E : TypeId} {size bytes : Nat} (hT : EL T E size bytes) (ty : TypeId) (v : Value) (n : Nat) (xs : List Value) (hown : w.ownsRow B E size v n xs) (ad : Option Addr) (m c : Nat) (news : List Value) (hs : SG w size ad m news)
    (h63 : n + m ≤ maxLen) (hbytes : (n + m) * bytes ≤ 140737488355328) (hB : B ≤ w.heap.size) :
    ∃ v' w', (Builtin.append_ #[T, T] ty #[v, .slice ad m c]).run Tryz.prog w = .ok v' w' ∧ w'.ownsRow B E size v' (n + m) (xs ++ news) ∧ w.grownBy w' v.ownBlock := by
  obtain ⟨i, z, hi, hz, h1, h2, h3⟩ := hT.info
  cases ad with
  | none =>
    have hm := hs.nil rfl
    subst hm
    have e : news = [] := List.eq_nil_of_length_eq_zero (by rw [hs.len, Nat.zero_mul])
    subst e
    rw [List.append_nil, Nat.add_zero]
    obtain ⟨hl, ⟨rfl, hn⟩ | ⟨g, cap, cur, rfl, hBg, hg, hn, r⟩⟩ := hown
    · subst hn
      exact ⟨_, w, by simp [Builtin.append_, run_underlying hT.ty, sizeOf, typeInfo, hi, Builtin.lenOf, Builtin.firstCells], ⟨hl, .inl ⟨rfl, rfl⟩⟩, ⟨rfl, rfl, rfl, Nat.le_refl _, fun _ _ _ => rfl⟩⟩
    · have := run_append_room_src (P := Tryz.prog) w T T ty E i hT.ty hi g 0 n cap (.slice none 0 c) 0 [] (Src.ofNil w hT.ty c) (by omega) (fun k hk => by simp at hk) (fun k hk => by simp at hk)
      exact ⟨_, w, by simpa [World.setCells] using this, ⟨hl, .inr ⟨g, cap, cur, rfl, hBg, hg, hn, r⟩⟩, ⟨rfl, rfl, rfl, Nat.le_refl _, fun _ _ _ => rfl⟩⟩
  | some ad =>
    obtain ⟨v', w', e1, e2, e3, _⟩ := run_append_own (P := Tryz.prog) w B T ty E i z size bytes hT.ty hi hz h1 h2 h3 hT.pos v n xs hown ad m c news hs.len (hs.at_ ad rfl) hs.one h63 hbytes hB
    exact ⟨v', w', e1, e2, e3⟩
section
variable {ops : Array Oper}
theorem wpList_appG {rest : List Oper} {o : Oper} {a : Act} {w : World} {Q : Exit → Act → World → Prop} (hgd : o.guard = none) (s x : Operand) (T : TypeId)
    (ho : o.op = .call { callee := .builtin .append, args := #[s, x], argTypes := #[T, T] }) {E : TypeId} {size bytes : Nat} (hT : EL T E size bytes) (B : Nat) (v : Value) (n : Nat) (xs : List Value) (hs : a.eval s = v) (hown : w.ownsRow B E size v n xs) (hB : B ≤ w.heap.size)
    (ad : Option Addr) (m c : Nat) (news : List Value) (hx : a.eval x = .slice ad m c) (hsc : SG w size ad m news) (h63 : n + m ≤ maxLen) (hbytes : (n + m) * bytes ≤ 140737488355328)
    (h : ∀ v' w', w'.ownsRow B E size v' (n + m) (xs ++ news) → w.grownBy w' v.ownBlock → wpList Tryz.prog ops Q rest (a.put o.dst v') w') : wpList Tryz.prog ops Q (o :: rest) a w := by
  obtain ⟨v', w', hr, h2, h3⟩ := run_appG hT o.type v n xs hown ad m c news hsc h63 hbytes hB
  refine wpList_plain hgd fun _ hK => ?_
  unfold Oper.wp execOp
  simp only [ho, resolve, invoke, builtin, Sem.run_bind, Sem.run_pure, Result.andThen_ok, List.map_toArray, List.map_cons, List.map_nil, hs, hx, hr]
  exact hK _ _ (h v' w' h2 h3)
theorem eOp_appG {i : Nat} {o : Oper} {a : Act} {w : World} {K : Act → World → Prop} (ho' : ops[i]? = some o) (hgd : o.guard = none) (s x : Operand) (T : TypeId)
    (ho : o.op = .call { callee := .builtin .append, args := #[s, x], argTypes := #[T, T] }) {E : TypeId} {size bytes : Nat} (hT : EL T E size bytes) (B : Nat) (v : Value) (n : Nat) (xs : List Value) (hs : a.eval s = v) (hown : w.ownsRow B E size v n xs) (hB : B ≤ w.heap.size)
    (ad : Option Addr) (m c : Nat) (news : List Value) (hx : a.eval x = .slice ad m c) (hsc : SG w size ad m news) (h63 : n + m ≤ maxLen) (hbytes : (n + m) * bytes ≤ 140737488355328)
    (h : ∀ v' w', w'.ownsRow B E size v' (n + m) (xs ++ news) → w.grownBy w' v.ownBlock → K (a.put o.dst v') w') : eOp Tryz.prog ops i K a w := by
  obtain ⟨v', w', hr, h2, h3⟩ := run_appG hT o.type v n xs hown ad m c news hsc h63 hbytes hB
  unfold eOp
  simp only [ho']
  rw [if_pos (by simp [Region.wanted, hgd])]
  unfold eOper execOp
  simp only [ho, resolve, invoke, builtin, Sem.run_bind, Sem.run_pure, Result.andThen_ok, List.map_toArray, List.map_cons, List.map_nil, hs, hx, hr, eUpon]
  exact h v' w' h2 h3
end
/-- a row that the call makes holds nothing that was there -/
theorem Bl.ownRow {B : Nat} {E : TypeId} {size : Nat} {w0 w w' : World} {v : Value} {n : Nat} {cs : List Value} (hb : Bl w0 w) (ho : w.ownsRow B E size v n cs) (hB : w0.heap.size ≤ B) (hg : w.grownBy w' v.ownBlock) : Bl w0 w' :=
  Below.grown hb hg hb.size (fun k hk => Nat.le_trans hB (World.ownsRow.lt ho k hk).1)
/-- the block that holds so many cells, in its own right -/
theorem SG.lit {w : World} {g size : Nat} {E : TypeId} {cs : List Value} (h : w.heap[g]? = some (.cells cs.toArray E (0, 0))) (hl : cs.length = 1 * size) (h1 : ∀ u ∈ cs, u.oneCell' = true) : SG w size (some ⟨g, 0, none⟩) 1 cs := by
  refine ⟨hl, fun ad e j u hu => ?_, fun e => (by cases e), h1⟩
  obtain rfl := Option.some.inj e
  rw [Addr.add_lit, Nat.zero_add, cell_of_row w g j _ E (0, 0) h]
  simpa using hu
theorem sg_ints {w : World} {a : Option Addr} {n : Nat} {xs : List Int} (h : IA w a n xs) : SG w 1 a n (xs.map (Value.int .i64)) := by
  refine ⟨by simp [h.len], fun ad e j u hu => ?_, fun e => ?_, fun u hu => by simp at hu; obtain ⟨x, _, rfl⟩ := hu; rfl⟩
  · have hjl : j < n := by
      have := (List.getElem?_eq_some_iff.1 hu).1
      simpa [h.len] using this
    obtain ⟨b, off, e', hc⟩ := h.cells j hjl
    rw [e] at e'
    obtain rfl := Option.some.inj e'
    have hjx : j < xs.length := by rw [h.len]; exact hjl
    simp [hjx] at hu
    rw [Addr.add_lit, hc j hjl, nth_eq hjx, hu]
  · subst e
    by_cases hn : 0 < n
    · obtain ⟨b, off, e', _⟩ := h.cells 0 hn
      cases e'
    · omega
end Go.Proofs.YtaplefelfiefaaaGreat
end
