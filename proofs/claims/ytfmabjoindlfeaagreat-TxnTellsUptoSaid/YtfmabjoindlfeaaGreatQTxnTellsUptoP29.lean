import Derived.Test.YtfmabjoindlfeaaGreatQTxnTellsUptoP27
import Derived.Test.YtfmabjoindlfeaaGreatQTxn2
import Derived.Test.YtfmabjoindlfeaaGreatQTxnTellsUptoP23
import Derived.Test.YtfmabjoindlfeaaGreatQTxnTellsUptoP5
import Derived.Deep.DeepCutAuto
import Derived.Test.YtfmabjoindlfeaaGreatQTxnTellsUptoP8
import Derived.Test.YtfmabjoindlfeaaGreatQTxnTellsUptoP19

/- versions with vectors of their own: one more; what a transaction does as versions. By an AI agent. -/
section
set_option linter.unusedVariables false
set_option linter.unusedSimpArgs false
namespace Go.Proofs.YtfmabjoindlfeaaGreat
open Go.RowKit

theorem el_app_lt {xs : List VC} {x : VC} {i : Nat} (h : i < xs.length) : el (xs ++ [x]) i = el xs i := by
  rw [el_eq (by rw [List.length_append]; omega), el_eq h, List.getElem_append_left h]
theorem el_app_eq {xs : List VC} {x : VC} {i : Nat} (h : i = xs.length) : el (xs ++ [x]) i = x := by
  subst h
  rw [el_eq (by rw [List.length_append]; simp), List.getElem_append_right (Nat.le_refl _)]
  simp
theorem flat_snoc (xs : List VC) (x : VC) : flat (xs ++ [x]) = flat xs ++ x.cs := by
  unfold flat
  rw [List.flatMap_append]
  simp
theorem OVL.nil (B : Nat) (W : World) : OVL B W none 0 0 [] :=
  ⟨World.ownsRow_nil _ _ _ _, rfl, fun i hi => absurd hi (Nat.not_lt_zero _), fun i j hi => absurd hi (Nat.not_lt_zero _), fun x hx => absurd hx (List.not_mem_nil), fun x hx => absurd hx (List.not_mem_nil)⟩
theorem OVL.blk {B : Nat} {W : World} {a : Option Addr} {n c : Nat} {xs : List VC} (h : OVL B W a n c xs) : ∀ i, i < n → ∀ b, (vecV (el xs i)).ownBlock = some b → b < W.heap.size := fun i hi b e => (World.ownsRow.lt (h.vec i hi).own b e).2
theorem OVL.push {B B1 : Nat} {W W' : World} {a a' : Option Addr} {k c c' : Nat} {xs : List VC} (h : OVL B W a k c xs) (x : VC) (hv : FI B1 W (vecV x) x.at_) (hB1 : B ≤ B1) (hold : ∀ i, i < k → ∀ b, (vecV (el xs i)).ownBlock = some b → b < B1)
    (ho : W'.ownsRow B 72 8 (.slice a' (k + 1) c') (k + 1) (flat xs ++ x.cs)) (hg : W.grownBy W' (Value.slice a k c).ownBlock) (hok : x.act.Ok) (hfew : x.at_.length ≤ 50000) : OVL B W' a' (k + 1) c' (xs ++ [x]) := by
  have hfr : Fr (fun b => (Value.slice a k c).ownBlock = some b) W W' := (Fr.refl _ W).grown hg (fun i e => e)
  have hl := h.len
  have key : ∀ i, i < k + 1 → (i < k ∧ el (xs ++ [x]) i = el xs i) ∨ (i = k ∧ el (xs ++ [x]) i = x) := fun i hi => by
    by_cases e : i < k
    · exact .inl ⟨e, el_app_lt (by omega)⟩
    · exact .inr ⟨by omega, el_app_eq (by omega)⟩
  refine ⟨by rw [flat_snoc]; exact ho, by rw [List.length_append, hl]; rfl, fun i hi => ?_, fun i j hi hj hne b e1 e2 => ?_, fun y hy => ?_, fun y hy => ?_⟩
  · rcases key i hi with ⟨h1, h2⟩ | ⟨h1, h2⟩
    · rw [h2]; exact (h.vec i h1).fr hfr (fun b e q => own_unlike (h.vec i h1).own h.row (by decide) b e q)
    · rw [h2]; exact (hv.wider hB1).fr hfr (fun b e q => own_unlike hv.own h.row (by decide) b e q)
  · rcases key i hi with ⟨h1, h2⟩ | ⟨h1, h2⟩ <;> rcases key j hj with ⟨g1, g2⟩ | ⟨g1, g2⟩
    · rw [h2] at e1; rw [g2] at e2; exact h.ap i j h1 g1 hne b e1 e2
    · rw [h2] at e1; rw [g2] at e2
      have := hold i h1 b e1
      have := (World.ownsRow.lt hv.own b e2).1
      omega
    · rw [h2] at e1; rw [g2] at e2
      have := hold j g1 b e2
      have := (World.ownsRow.lt hv.own b e1).1
      omega
    · omega
  · rcases List.mem_append.1 hy with q | q
    · exact h.ok y q
    · rw [List.mem_singleton.1 q]; exact hok
  · rcases List.mem_append.1 hy with q | q
    · exact h.few y q
    · rw [List.mem_singleton.1 q]; exact hfew
/-- a write as a version -/
def verOf (o num : Int) (xs : List Int) (p : ByteArray × ActL) : VerL := ⟨p.1, xs, o, num, p.2⟩
def versT (t : TxnL) : List VerL := if validT t then t.ws.map (verOf t.o t.num t.at_) else []
theorem take_verOf {ws : List (ByteArray × ActL)} {k : Nat} (h : k < ws.length) (o num : Int) (xs : List Int) : (ws.take (k + 1)).map (verOf o num xs) = (ws.take k).map (verOf o num xs) ++ [verOf o num xs (nthW ws k)] := by
  rw [List.take_succ_eq_append_getElem h, List.map_append, nthW_eq h]
  rfl
end Go.Proofs.YtfmabjoindlfeaaGreat
end

/- bedrocklaw21.Light: are writes few and short enough? By an AI agent. -/
section
set_option linter.unusedVariables false
set_option linter.unusedSimpArgs false
namespace Go.Proofs.YtfmabjoindlfeaaGreat
open Go.RowKit
attribute [local go_sem] eOp eOper eUpon

def weightW (p : ByteArray × ActL) : Nat := 20 + p.1.size + p.2.s.size
def sumW (ps : List (ByteArray × ActL)) (k : Nat) : Nat := ((ps.take k).map weightW).sum
theorem sumW_succ {ps : List (ByteArray × ActL)} {k : Nat} (hk : k < ps.length) : sumW ps (k + 1) = sumW ps k + weightW (nthW ps k) := by
  unfold sumW
  rw [List.take_succ_eq_append_getElem hk, List.map_append, List.sum_append, nthW_eq hk]
  simp
theorem sumW_le (ps : List (ByteArray × ActL)) (k : Nat) : sumW ps k ≤ sumW ps ps.length := by
  unfold sumW
  rw [List.take_length]
  conv => rhs; rw [← List.take_append_drop k ps]
  rw [List.map_append, List.sum_append]; omega
theorem sumW_ge (ps : List (ByteArray × ActL)) : 20 * ps.length ≤ sumW ps ps.length := by
  unfold sumW
  rw [List.take_length]
  induction ps with
  | nil => simp
  | cons p ps ih =>
    rw [List.map_cons, List.sum_cons, List.length_cons]
    have : 20 ≤ weightW p := by unfold weightW; omega
    omega
def lightB (ps : List (ByteArray × ActL)) : Bool := decide (sumW ps ps.length < 20000)
theorem lightB_len {ps : List (ByteArray × ActL)} (h : lightB ps = true) : ps.length < 1000 := by
  have := sumW_ge ps
  simp only [lightB, decide_eq_true_eq] at h
  omega
set_option maxHeartbeats 3200000 in
set_option maxRecDepth 100000 in
theorem light21_any (pd : Option Addr) (pn pc : Nat) (ps : List (ByteArray × ActL)) (w : World) (hp : WW w pd pn ps) :
    Calls Tryz.prog 4 #[.slice pd pn pc] w fun e w' => e = .returned (.bool (lightB ps)) ∧ Bl w w' := by
  have hcap := hp.cap
  have HP := Lib.hid hp
  have HL := Lib.hid hp.len
  clear hp
  go_enter Tryz.func4, Tryz.ntmps4
  go_wp2_with fail
  go_loopw [3, 4] (fun sv i wr => ∃ (k s : Nat), k ≤ pn ∧ i = .int .i64 k ∧ sv = .int .i64 s ∧ s = sumW ps k ∧ Bl w wr) (fun _ i _ => pn - (intOf i).toNat)
  case atStart => exact ⟨0, 0, Nat.zero_le _, rfl, rfl, rfl, Bl.refl _⟩
  case round =>
    obtain ⟨k, s, hk, rfl, rfl, hs, hbl⟩ := hrel
    have HS := Lib.hid hs
    have HBL := Lib.hid hbl
    clear hs hbl
    by_cases hlt : k < pn
    · by_cases hs6 : s < 20000
      · have hkl : k < ps.length := by rw [HL.out]; exact hlt
        obtain ⟨ba, oa, rfl, _⟩ := HP.out.cells k hlt
        have HOK := Lib.hid (HP.out.ok _ (nthW_mem hkl))
        have HSU := Lib.hid (sumW_succ hkl)
        have HPC := Lib.hid (HP.out.get HBL.out hlt)
        clear hkl
        generalize nthW ps k = p at *
        obtain ⟨key, ⟨pk, px, pm, pz⟩⟩ := p
        have hks : key.size ≤ 140737488351232 := HOK.out.1
        have hzs : pz.size ≤ 140737488351232 := HOK.out.2.s
        have q1 : decide ((s : Int) < 20000) = true := decide_eq_true (by omega)
        have q2 : decide (s < 20000) = true := decide_eq_true hs6
        have HS6 := Lib.hid hs6
        have HKS := Lib.hid (And.intro hks hzs)
        clear hs6 hks hzs
        go_upto_region 5 with fail
        have hs6 := HS6.out
        obtain ⟨hks, hzs⟩ := HKS.out
        refine wp_region_extall (by kernel_rfl) (by kernel_rfl) ?_
        have HPZ := Lib.hid (HPC.out.keep ((Bl.refl wr).drew))
        have HBZ := Lib.hid (HBL.out.drew)
        generalize wr.drew = Z at *
        have e0 : ∀ q : Ext Z, _ := fun q => (HPZ.out.keep q.bl).c0
        have e4 : ∀ q : Ext Z, _ := fun q => (HPZ.out.keep q.bl).c4
        dsimp only at e0 e4
        have w1 : IntKind.i64.wrap ((s : Int) + 20) = ((s + 20 : Nat) : Int) := by rw [IntKind.wrap_i64]; omega
        have w2 : IntKind.i64.wrap (((s + 20 : Nat) : Int) + (key.size : Int)) = ((s + 20 + key.size : Nat) : Int) := by rw [IntKind.wrap_i64]; omega
        have w3 : IntKind.i64.wrap (((s + 20 + key.size : Nat) : Int) + (pz.size : Int)) = ((s + 20 + key.size + pz.size : Nat) : Int) := by rw [IntKind.wrap_i64]; omega
        have HT : Hid (s + 20 + key.size + pz.size = sumW ps (k + 1)) := Lib.hid (by rw [HSU.out, ← HS.out]; unfold weightW; dsimp only; omega)
        generalize s + 20 + key.size + pz.size = s3 at *
        generalize s + 20 + key.size = s2 at *
        generalize s + 20 = s1 at *
        repeat (refine wpE_step (fun K hK => ?_); go_simp; first | (refine hK _ ?_; clear hK K) | (apply Exists.intro; refine ⟨fun m => ?_, hK _ ?_⟩; (fail); clear hK K))
        refine wpE_nil ?_
        intro q1
        have HBN := Lib.hid (HBZ.out.trans q1.bl)
        clear e0 e4 w1 w2 w3
        generalize ExtC.at q1 = Y at *
        go_wp2_with fail
        go_roundw
        case rel => exact ⟨k + 1, s3, by omega, by go_num, rfl, HT.out, HBN.out⟩
        case measure => simp [intOf]; omega
      · have q1 : decide ((s : Int) < 20000) = false := decide_eq_false (by omega)
        have q2 : decide (s < 20000) = false := decide_eq_false hs6
        have HF : Hid (lightB ps = false) := Lib.hid (by
          have := sumW_le ps k
          have := HS.out
          simp only [lightB, decide_eq_false_iff_not]; omega)
        go_wp2_with fail
        go_ret
        exact ⟨ret_bool HF.out.symm, HBL.out⟩
    · have hkp : k = pn := by omega
      subst hkp
      by_cases hs6 : s < 20000
      · have q1 : decide ((s : Int) < 20000) = true := decide_eq_true (by omega)
        have HF : Hid (lightB ps = true) := Lib.hid (by have := HS.out; simp only [lightB, decide_eq_true_eq, HL.out]; omega)
        go_wp2_with fail
        go_ret
        exact ⟨ret_bool HF.out.symm, HBL.out⟩
      · have q1 : decide ((s : Int) < 20000) = false := decide_eq_false (by omega)
        have q2 : decide (s < 20000) = false := decide_eq_false hs6
        have HF : Hid (lightB ps = false) := Lib.hid (by have := HS.out; simp only [lightB, decide_eq_false_iff_not, HL.out]; omega)
        go_wp2_with fail
        go_ret
        exact ⟨ret_bool HF.out.symm, HBL.out⟩
end Go.Proofs.YtfmabjoindlfeaaGreat
end

/- math.Float64frombits. By an AI agent. -/
section
set_option linter.unusedVariables false
namespace Go.Proofs.YtfmabjoindlfeaaGreat
open Go.RowKit

theorem run_frombits (n : Int) (w : World) : (callFunc 208 #[.int .u64 n]).run Tryz.prog w = .ok (.value (.float .f64 n.toNat)) w := by
  rw [run_callFunc_extern Tryz.func208 (by kernel_rfl) (by kernel_rfl) (by kernel_rfl) (e := Extern.MathFloatBits.float64frombits) (by kernel_rfl)]
  rfl
end Go.Proofs.YtfmabjoindlfeaaGreat
end

/- math.NaN. By an AI agent. -/
section
namespace Go.Proofs.YtfmabjoindlfeaaGreat
open Go.RowKit

theorem nan_is (w : World) : Calls Tryz.prog 207 #[] w fun e w' => e = .returned (.float .f64 nanW) ∧ w = w' := by
  have hrb := run_frombits
  go_enter Tryz.func207, Tryz.ntmps207
  go_wp2_with fail
  go_ret
  exact ⟨rfl, rfl⟩
end Go.Proofs.YtfmabjoindlfeaaGreat
end
