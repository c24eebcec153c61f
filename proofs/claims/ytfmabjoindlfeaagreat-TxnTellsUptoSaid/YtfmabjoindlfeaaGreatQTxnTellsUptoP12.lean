import Derived.Test.YtfmabjoindlfeaaGreatQTxnTellsUptoP10
import Derived.Test.YtfmabjoindlfeaaGreatQTxnTellsUptoP11
import Derived.Test.YtfmabjoindlfeaaGreatQTxnTellsUptoP9
import Derived.StillTailTactics
import Derived.Deep.RegionHeld

/- op.Value of keys whose acts add up. By an AI agent. -/
section
namespace Go.Proofs.YtfmabjoindlfeaaGreat
open Go.RowKit
attribute [local go_sem] eOp eOper eUpon

def noVer : VerL := ⟨nilS, [], 0, 0, ⟨0, 0, 0, nilS⟩⟩
def nthR (vs : List VerL) (j : Nat) : VerL := (vs[j]?).getD noVer
theorem nthR_eq {vs : List VerL} {j : Nat} (h : j < vs.length) : nthR vs j = vs[j] := by simp [nthR, h]
/-- one element of a slice of versions: its eight cells -/
structure VE (w : World) (b off : Nat) (v : VerL) : Prop where
  c0 : w.cell? ⟨b, off, none⟩ = some (.string v.key)
  at_ : ∃ a n ca, w.cell? ⟨b, off + 1, none⟩ = some (.slice a n ca) ∧ IA w a n v.at_
  c2 : w.cell? ⟨b, off + 2, none⟩ = some (.int .i64 v.origin)
  c3 : w.cell? ⟨b, off + 3, none⟩ = some (.int .i64 v.tx)
  c4 : w.cell? ⟨b, off + 4, none⟩ = some (.int .i64 v.act.k)
  c5 : w.cell? ⟨b, off + 5, none⟩ = some (.float .f64 v.act.x)
  c6 : w.cell? ⟨b, off + 6, none⟩ = some (.int .i64 v.act.n)
  c7 : w.cell? ⟨b, off + 7, none⟩ = some (.string v.act.s)
  ok : v.act.Ok
theorem VE.keep {w w' : World} {b off : Nat} {v : VerL} (h : VE w b off v) (k : Bl w w') : VE w' b off v := by
  obtain ⟨a, n, ca, h1, h2⟩ := h.at_
  exact ⟨k.cell h.c0, ⟨a, n, ca, k.cell h1, h2.keep k⟩, k.cell h.c2, k.cell h.c3, k.cell h.c4, k.cell h.c5, k.cell h.c6, k.cell h.c7, h.ok⟩
/-- a slice of n versions at a reads as vs -/
structure VA (w : World) (a : Option Addr) (n : Nat) (vs : List VerL) : Prop where
  len : vs.length = n
  cap : n ≤ 140737488351232
  cells : ∀ j, j < n → ∃ b off, a = some ⟨b, off, none⟩ ∧ ∀ j, j < n → VE w b (off + j * 8) (nthR vs j)
theorem VA.keep {w w' : World} {a : Option Addr} {n : Nat} {vs : List VerL} (h : VA w a n vs) (hb : Bl w w') : VA w' a n vs :=
  ⟨h.len, h.cap, fun j hj => by
    obtain ⟨b, off, e, hc⟩ := h.cells j hj
    exact ⟨b, off, e, fun j hj => (hc j hj).keep hb⟩⟩

/-- the two boxes of op.Value -/
structure OV (w W : World) (b : Bool) (x : Nat) (n : Int) (s : ByteArray) : Prop where
  bl : Bl w W
  r : AC W w.heap.size [.bool false, .float .f64 0, .int .i64 0, .string ⟨#[]⟩]
  o : AC W (w.heap.size + 1) [.bool b, .float .f64 x, .int .i64 n, .string s]
theorem OV.keep {w W W' : World} {b : Bool} {x : Nat} {n : Int} {s : ByteArray} (h : OV w W b x n s) (k : Bl W W') : OV w W' b x n s := ⟨h.bl.trans k, h.r.keep k, h.o.keep k⟩
theorem OV.new (w : World) (T U : TypeId) : OV w ((w.alloc (.cells #[.bool false, .float .f64 0, .int .i64 0, .string ⟨#[]⟩] T)).alloc (.cells #[.bool false, .float .f64 0, .int .i64 0, .string ⟨#[]⟩] U)) false 0 0 ⟨#[]⟩ :=
  ⟨((Bl.refl w).alloc _).alloc _, (AC.new w _ rfl [.bool false, .float .f64 0, .int .i64 0, .string ⟨#[]⟩] T).keep ((Bl.refl _).alloc _), AC.new _ (w.heap.size + 1) (by simp) [.bool false, .float .f64 0, .int .i64 0, .string ⟨#[]⟩] U⟩
theorem OV.set {w W : World} {b : Bool} {x : Nat} {n : Int} {s : ByteArray} (h : OV w W b x n s) (b' : Bool) (x' : Nat) (n' : Int) (s' : ByteArray) :
    OV w ((((W.setCell ⟨w.heap.size + 1, 0, none⟩ (.bool b')).setCell ⟨w.heap.size + 1, 1, none⟩ (.float .f64 x')).setCell ⟨w.heap.size + 1, 2, none⟩ (.int .i64 n')).setCell ⟨w.heap.size + 1, 3, none⟩ (.string s')) b' x' n' s' :=
  ⟨h.bl.store4 (Nat.le_succ _) _ _ _ _, h.r.other4 (by omega) _ _ _ _, h.o.set4 _ _ _ _⟩

end Go.Proofs.YtfmabjoindlfeaaGreat
end

/- rows of versions that are sorted in place. By an AI agent. -/
section
set_option linter.unusedVariables false
set_option linter.unusedSimpArgs false
namespace Go.Proofs.YtfmabjoindlfeaaGreat
open Go.RowKit

/-- a version and where its list lies -/
structure VC where
  key : ByteArray
  ad : Option Addr
  n : Nat
  ca : Nat
  at_ : List Int
  origin : Int
  tx : Int
  act : ActL
instance : Inhabited VC := ⟨⟨nilS, none, 0, 0, [], 0, 0, ⟨0, 0, 0, nilS⟩⟩⟩
def VC.ver (v : VC) : VerL := ⟨v.key, v.at_, v.origin, v.tx, v.act⟩
def VC.cs (v : VC) : List Value := verC v.key v.ad v.n v.ca v.origin v.tx v.act.k v.act.x v.act.n v.act.s
theorem VC.cs_len (v : VC) : v.cs.length = 8 := rfl
def flat (xs : List VC) : List Value := xs.flatMap VC.cs
theorem flat_cons (v : VC) (xs : List VC) : flat (v :: xs) = v.cs ++ flat xs := by unfold flat; rw [List.flatMap_cons]
theorem flat_len : ∀ xs : List VC, (flat xs).length = xs.length * 8
  | [] => rfl
  | v :: xs => by rw [flat_cons, List.length_append, flat_len xs, VC.cs_len, List.length_cons]; omega
theorem flat_get : ∀ (xs : List VC) (j r : Nat), j < xs.length → r < 8 → (flat xs)[j * 8 + r]? = (el xs j).cs[r]?
  | v :: xs, 0, r, _, hr => by rw [flat_cons, List.getElem?_append_left (by rw [VC.cs_len]; omega), Nat.zero_mul, Nat.zero_add]; rfl
  | v :: xs, j + 1, r, hj, hr => by
    rw [flat_cons, List.getElem?_append_right (by rw [VC.cs_len]; omega), VC.cs_len, show (j + 1) * 8 + r - 8 = j * 8 + r by omega, flat_get xs j r (by simpa using hj) hr]
    rfl
theorem el_set {xs : List VC} {j : Nat} (hj : j < xs.length) (v : VC) (i : Nat) : el (xs.set j v) i = if i = j then v else el xs i := by
  unfold el
  split
  · subst i; rw [List.getElem?_set_self hj]; rfl
  · rw [List.getElem?_set_ne (by omega)]

end Go.Proofs.YtfmabjoindlfeaaGreat
end

/- op.Value of registers, and of every key. By an AI agent. -/
section
namespace Go.Proofs.YtfmabjoindlfeaaGreat
open Go.RowKit
attribute [local go_sem] eOp eOper eUpon

/-- the facts of one element, in every later world -/
theorem VE.all {W : World} {b off : Nat} {v : VerL} {a : Option Addr} {n ca : Nat} (h : VE W b off v) (h1 : W.cell? ⟨b, off + 1, none⟩ = some (.slice a n ca)) :
    (∀ m : Ext W, m.at.cell? ⟨b, off, none⟩ = some (.string v.key)) ∧ (∀ m : Ext W, m.at.cell? ⟨b, off + 1, none⟩ = some (.slice a n ca)) ∧ (∀ m : Ext W, m.at.cell? ⟨b, off + 2, none⟩ = some (.int .i64 v.origin)) ∧ (∀ m : Ext W, m.at.cell? ⟨b, off + 3, none⟩ = some (.int .i64 v.tx)) ∧
    (∀ m : Ext W, m.at.cell? ⟨b, off + 4, none⟩ = some (.int .i64 v.act.k)) ∧ (∀ m : Ext W, m.at.cell? ⟨b, off + 5, none⟩ = some (.float .f64 v.act.x)) ∧ (∀ m : Ext W, m.at.cell? ⟨b, off + 6, none⟩ = some (.int .i64 v.act.n)) ∧ (∀ m : Ext W, m.at.cell? ⟨b, off + 7, none⟩ = some (.string v.act.s)) :=
  ⟨fun m => (h.keep m.bl).c0, fun m => m.bl.cell h1, fun m => (h.keep m.bl).c2, fun m => (h.keep m.bl).c3, fun m => (h.keep m.bl).c4, fun m => (h.keep m.bl).c5, fun m => (h.keep m.bl).c6, fun m => (h.keep m.bl).c7⟩

end Go.Proofs.YtfmabjoindlfeaaGreat
end
