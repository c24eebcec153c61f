/- bytes that the call itself has made grow. By an AI agent. -/
import Derived.Test.YtechiehbigmjbaaBase
namespace Go.Proofs.Ytechiehbigmjbaa
open Go.RowKit

/-- behind 'append(v, x, y ..)' -/
theorem OB.pushL {B : Nat} {w0 w w1 : World} {v v' : Value} {xs : List Int} {ys : List Int} {o : Obj} (hb : Below B w0 w) (hB : B ≤ w.heap.size) (hown : OB B w v xs)
    (hown' : w1.ownsRow B 5 1 v' (xs.length + ys.length) (xs.map (Value.int .u8) ++ ys.map (Value.int .u8))) (hg : (w.alloc o).grownBy w1 v.ownBlock) : OB B w1 v' (xs ++ ys) ∧ Below B w0 w1 :=
  ⟨by simpa [OB] using hown', (hb.alloc hB o).grown hg (by simp; omega) (fun j hj => (World.ownsRow.lt hown j hj).1)⟩
theorem OB.pushL' {B : Nat} {w0 w w1 : World} {v v' : Value} {xs : List Int} {ys : List Int} (hb : Below B w0 w) (hB : B ≤ w.heap.size) (hown : OB B w v xs)
    (hown' : w1.ownsRow B 5 1 v' (xs.length + ys.length) (xs.map (Value.int .u8) ++ ys.map (Value.int .u8))) (hg : w.grownBy w1 v.ownBlock) : OB B w1 v' (xs ++ ys) ∧ Below B w0 w1 :=
  ⟨by simpa [OB] using hown', hb.grown hg hB (fun j hj => (World.ownsRow.lt hown j hj).1)⟩
theorem OB.keep {B : Nat} {w w' : World} {v : Value} {xs : List Int} (h : OB B w v xs) (hb : Bl w w') : OB B w' v xs := ownsRow_bl h hb
/-- bytes as numbers -/
def numsB (l : List UInt8) : List Int := l.map fun b => (b.toNat : Int)
theorem numsB_append (l m : List UInt8) : numsB (l ++ m) = numsB l ++ numsB m := by simp [numsB]
theorem numsB_len (l : List UInt8) : (numsB l).length = l.length := by simp [numsB]
theorem str_numsB (l : List UInt8) : strOfNums (numsB l) = ⟨l.toArray⟩ := by
  apply ByteArray.ext
  apply Array.toList_inj.1
  show ((numsB l).map fun n => UInt8.ofNat n.toNat) = l
  simp [numsB, Function.comp_def]
end Go.Proofs.Ytechiehbigmjbaa
