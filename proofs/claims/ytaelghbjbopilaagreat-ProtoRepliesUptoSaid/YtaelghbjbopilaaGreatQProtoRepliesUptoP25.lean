import Derived.Test.YtaelghbjbopilaaGreatQProtoRepliesUptoP24
import Derived.Test.YtaelghbjbopilaaGreatQProtoRepliesUptoP21

/- bedrockref5.SameValue, of values whose parts are named. By an AI agent. -/
section
set_option linter.unusedVariables false
namespace Go.Proofs.YtaelghbjbopilaaGreat
open Go.RowKit

theorem refSameV_agg (vb : Bool) (vx : Nat) (vn : Int) (vs : ByteArray) (rb : Bool) (rx : Nat) (rn : Int) (rs : ByteArray) (r : Bool) (w : World)
    (h : Hid (sameV ⟨vb, vx, vn, vs⟩ ⟨rb, rx, rn, rs⟩ = r)) (ov : Hid (ValL.Ok ⟨vb, vx, vn, vs⟩)) (oa : Hid (ValL.Ok ⟨rb, rx, rn, rs⟩)) :
    Calls Tryz.prog 36 #[.agg #[.bool vb, .float .f64 vx, .int .i64 vn, .string vs], .agg #[.bool rb, .float .f64 rx, .int .i64 rn, .string rs]] w fun e w' => e = .returned (.bool r) ∧ Bl w w' := by
  refine (refSameV_any ⟨vb, vx, vn, vs⟩ ⟨rb, rx, rn, rs⟩ w ov.out oa.out).mono ?_
  rintro e w' ⟨rfl, hb⟩
  rw [h.out]
  exact ⟨rfl, hb⟩
end Go.Proofs.YtaelghbjbopilaaGreat
end

/- bedrockbook.SamePairs where all is the same; pairs that can be. By an AI agent. -/
section
set_option linter.unusedVariables false
set_option linter.unusedSimpArgs false
namespace Go.Proofs.YtaelghbjbopilaaGreat
open Go.RowKit
attribute [local go_sem] eOp eOper eUpon

def PaOk (p : ByteArray × ValL) : Prop := p.1.size ≤ 140737488351232 ∧ p.2.Ok
/-- a slice that reads as pairs that can be -/
structure PP (w : World) (a : Option Addr) (n : Nat) (ps : List (ByteArray × ValL)) : Prop where
  len : ps.length = n
  cap : n ≤ 1000000
  cells : ∀ j, j < n → ∃ b off, a = some ⟨b, off, none⟩ ∧ ∀ j, j < n → PC w b (off + j * 5) (nthQ ps j)
  ok : ∀ p ∈ ps, PaOk p
theorem PP.pa {w : World} {a : Option Addr} {n : Nat} {ps : List (ByteArray × ValL)} (h : PP w a n ps) : PA w a n ps := ⟨h.len, h.cap, h.cells⟩
theorem PP.keep {w w' : World} {a : Option Addr} {n : Nat} {ps : List (ByteArray × ValL)} (h : PP w a n ps) (k : Bl w w') : PP w' a n ps := ⟨h.len, h.cap, (h.pa.keep k).cells, h.ok⟩
theorem PP.get {w W : World} {b off n : Nat} {ps : List (ByteArray × ValL)} (h : PP w (some ⟨b, off, none⟩) n ps) (hb : Bl w W) {k : Nat} (hk : k < n) : PC W b (off + k * 5) (nthQ ps k) := h.pa.get hb hk
set_option maxHeartbeats 3200000 in
set_option maxRecDepth 100000 in
theorem bookSamePs_yes (a b : Option Addr) (n ca cb : Nat) (ps qs : List (ByteArray × ValL)) (w : World) (hp : PA w a n ps) (hq : PA w b n qs) (h : Hid (∀ j, j < n → (nthQ ps j).1 = (nthQ qs j).1 ∧ sameV (nthQ ps j).2 (nthQ qs j).2 = true ∧ (nthQ ps j).2.Ok ∧ (nthQ qs j).2.Ok)) :
    Calls Tryz.prog 136 #[.slice a n ca, .slice b n cb] w fun e w' => e = .returned (.bool true) ∧ Bl w w' := by
  have hsf := store_float
  have hcap := hp.cap
  have HP := Lib.hid hp
  have HQ := Lib.hid hq
  have h2 : ((n : Int) != (n : Int)) = false := by simp
  clear hp hq
  go_enter Tryz.func136, Tryz.ntmps136
  go_wp2_with fail
  go_loopw [5] (fun i wr => ∃ k : Nat, k ≤ n ∧ i = .int .i64 k ∧ Bl w wr) (fun i _ => n - (intOf i).toNat)
  case atStart => exact ⟨0, Nat.zero_le _, rfl, Bl.refl _⟩
  case round =>
    obtain ⟨k, hk, rfl, hbl⟩ := hrel
    have HBL := Lib.hid hbl
    clear hbl
    by_cases hlt : k < n
    · obtain ⟨ba, oa, rfl, _⟩ := HP.out.cells k hlt
      obtain ⟨bb, ob, rfl, _⟩ := HQ.out.cells k hlt
      have HPC := Lib.hid (HP.out.get HBL.out hlt)
      have HQC := Lib.hid (HQ.out.get HBL.out hlt)
      have HS := Lib.hid (h.out k hlt)
      generalize nthQ ps k = p at *
      generalize nthQ qs k = q at *
      obtain ⟨key, ⟨pt, px, pm, pz⟩⟩ := p
      obtain ⟨key2, ⟨qt, qx, qm, qz⟩⟩ := q
      obtain ⟨hkk, hs, ho1, ho2⟩ := HS.out
      dsimp only at hkk
      subst hkk
      have HV := Lib.hid hs
      have HO1 := Lib.hid ho1
      have HO2 := Lib.hid ho2
      clear hs ho1 ho2
      dsimp only at HV HO1 HO2
      go_upto_region 6 with fail
      refine wp_region_extall (by kernel_rfl) (by kernel_rfl) ?_
      have HPZ := Lib.hid (HPC.out.keep ((Bl.refl wr).drew))
      have HQZ := Lib.hid (HQC.out.keep ((Bl.refl wr).drew))
      have HBZ := Lib.hid (HBL.out.drew)
      generalize wr.drew = Z at *
      have p0 : ∀ q : Ext Z, _ := fun q => (HPZ.out.keep q.bl).c0
      have p1 : ∀ q : Ext Z, _ := fun q => (HPZ.out.keep q.bl).c1
      have p2 : ∀ q : Ext Z, _ := fun q => (HPZ.out.keep q.bl).c2
      have p3 : ∀ q : Ext Z, _ := fun q => (HPZ.out.keep q.bl).c3
      have p4 : ∀ q : Ext Z, _ := fun q => (HPZ.out.keep q.bl).c4
      have q0 : ∀ q : Ext Z, _ := fun q => (HQZ.out.keep q.bl).c0
      have q1 : ∀ q : Ext Z, _ := fun q => (HQZ.out.keep q.bl).c1
      have q2 : ∀ q : Ext Z, _ := fun q => (HQZ.out.keep q.bl).c2
      have q3 : ∀ q : Ext Z, _ := fun q => (HQZ.out.keep q.bl).c3
      have q4 : ∀ q : Ext Z, _ := fun q => (HQZ.out.keep q.bl).c4
      dsimp only at p0 p1 p2 p3 p4 q0 q1 q2 q3 q4
      have H1 := Lib.hid (fun w => refSameV_agg pt px pm pz qt qx qm qz true w HV HO1 HO2)
      repeat (refine wpE_step (fun K hK => ?_); go_simp; first | (refine hK _ ?_; clear hK K) | (apply Exists.intro; refine ⟨fun m => ?_, hK _ ?_⟩; (with_reducible exact H1.out _); clear hK K))
      refine wpE_nil ?_
      intro q9
      have HBN := Lib.hid (HBZ.out.trans q9.bl)
      clear p0 p1 p2 p3 p4 q0 q1 q2 q3 q4 H1
      generalize ExtC.at q9 = Y at *
      go_wp2_with fail
      go_roundw
      case rel => exact ⟨k + 1, by omega, by go_num, HBN.out⟩
      case measure => simp [intOf]; omega
    · go_wp2_with fail
      go_ret
      exact ⟨rfl, HBL.out⟩
theorem bookSamePs_self (a b : Option Addr) (n ca cb : Nat) (ps : List (ByteArray × ValL)) (w : World) (hp : PP w a n ps) (hq : PP w b n ps) :
    Calls Tryz.prog 136 #[.slice a n ca, .slice b n cb] w fun e w' => e = .returned (.bool true) ∧ Bl w w' :=
  bookSamePs_yes a b n ca cb ps ps w hp.pa hq.pa (Lib.hid (fun j hj => ⟨rfl, sameV_refl _, (hp.ok _ (nthQ_mem (by rw [hp.len]; exact hj))).2, (hp.ok _ (nthQ_mem (by rw [hp.len]; exact hj))).2⟩))
end Go.Proofs.YtaelghbjbopilaaGreat
end
