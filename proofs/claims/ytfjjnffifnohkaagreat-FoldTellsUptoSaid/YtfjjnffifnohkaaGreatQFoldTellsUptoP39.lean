import Derived.Test.YtfjjnffifnohkaaGreatQFoldTellsUptoP38
import Derived.Test.YtfjjnffifnohkaaGreatQFoldTellsUptoP35

/- bedrockbook over Writes that are kept: growWrites. By an AI agent. -/
section
namespace Go.Proofs.YtfjjnffifnohkaaGreat
open Go.RowKit
attribute [local go_sem] eOp eOper eUpon

theorem el_rowsW : EL 33 133 1 24 := el_of Tryz.underlying33 (by kernel_rfl) (by decide)
theorem mkW_one (i f n : Nat) : ∀ u ∈ mkW.row i f n, u.oneCell' = true := by
  intro u hu
  simp only [MK.row, List.mem_flatMap, List.mem_range] at hu
  obtain ⟨k, _, hk⟩ := hu
  simp only [mkW, writeCs, List.mem_cons, List.mem_nil_iff, or_false] at hk
  rcases hk with rfl | rfl | rfl | rfl | rfl <;> rfl
set_option maxHeartbeats 2000000 in
set_option maxRecDepth 100000 in
theorem growWrites_any (B g : Nat) (va : Option Addr) (n cv : Nat) (vs : Nat → Value) (ms : Nat → Nat) (w : World) (hn : n ≤ 250) (hB : B ≤ w.heap.size) (hc4 : w.cell? ⟨g, 12, none⟩ = some (.slice va n cv)) (hv : LA w va n vs)
    (h : ∀ j, j < n → w.ownsRow B 169 5 (vs j) (ms j) (mkW.row j 0 (ms j)) ∧ ms j ≤ 50000) (hap : ∀ i j, i < n → j < n → i ≠ j → (vs i).ownBlock = none ∨ (vs i).ownBlock ≠ (vs j).ownBlock)
    (hg : ¬ SBk n vs g) (hva : ∀ b off, va = some ⟨b, off, none⟩ → ¬ SBk n vs b) :
    Calls Tryz.prog 89 #[.pointer (some ⟨g, 0, none⟩)] w fun e w' => ∃ out gs, e = .returned out ∧ GRk 169 133 mkW B n vs ms w w' n out gs := by
  have HC4 := Lib.hid hc4
  have HH := Lib.hid h
  have HAP := Lib.hid hap
  have HG := Lib.hid hg
  have HVA := Lib.hid hva
  have HLT := Lib.hid (show ∀ b, SBk n vs b → b < w.heap.size from fun b ⟨j, hj, e⟩ => (World.ownsRow.lt (h j hj).1 b e).2)
  clear hc4 h hap hg hva
  go_enter Tryz.func89, Tryz.ntmps89
  go_wp2_with fail
  go_loopw [3, 4] (fun out i w' => ∃ (k : Nat) (gs : Nat → Value), k ≤ n ∧ i = .int .i64 k ∧ GRk 169 133 mkW B n vs ms w w' k out gs) (fun _ i _ => n - (intOf i).toNat)
  case atStart => exact ⟨0, fun _ => undef, Nat.zero_le _, rfl, ⟨Fr.refl _ _, World.ownsRow_nil _ _ _ _, fun j hj => absurd hj (Nat.not_lt_zero _), fun j hj => (HH.out j hj).1, fun j hj => absurd hj (Nat.not_lt_zero _)⟩⟩
  case round =>
    obtain ⟨k, gs, hk, rfl, hgr⟩ := hrel
    have HGR := Lib.hid hgr
    clear hgr
    have c4 := HGR.out.fr.cell HC4.out HG.out
    by_cases hlt : k < n
    · obtain ⟨b, off, rfl, hcv⟩ := hv k hlt
      have hcv' := HGR.out.fr.cell (hcv k hlt) (HVA.out b off rfl)
      have hmx := (HH.out k hlt).2
      obtain ⟨m, hm⟩ : ∃ m, ms k = m := ⟨_, rfl⟩
      rw [hm] at hmx
      have hov := HGR.out.ovs k hlt
      rw [hm] at hov
      have HM := Lib.hid hm
      clear hm hcv
      obtain ⟨V, hV⟩ : ∃ V, vs k = V := ⟨_, rfl⟩
      rw [hV] at hcv' hov
      have HV := Lib.hid hV
      clear hV
      have HGL0 : Hid (GLk 169 5 (fun b => V.ownBlock = some b) B wr wr V V m 0 (mkW.row k 0 m) (mkW.row k m 0)) := Lib.hid ⟨Fr.refl _ _, by rw [MK.row_zero, List.append_nil]; exact hov, hov, fun b e => .inl e⟩
      clear hov
      go_wp2_with fail
      have hsz1 : w.heap.size ≤ wr.heap.size := HGR.out.fr.size
      obtain ⟨Wo, hWo⟩ : ∃ Wo, Wo = wr := ⟨_, rfl⟩
      subst hWo
      go_loopw [5, 6] (fun l t Y => ∃ q : Nat, q ≤ 12 ∧ t = .int .i64 q ∧ GLk 169 5 (fun b => V.ownBlock = some b) B Wo Y V l m q (mkW.row k 0 m) (mkW.row k m q)) (fun _ t _ => 12 - (intOf t).toNat)
      case atStart => exact ⟨0, by omega, rfl, HGL0.out⟩
      case round =>
        obtain ⟨q, hq, rfl, hgl⟩ := hrel
        have HGL := Lib.hid hgl
        clear hgl
        obtain ⟨la, lc, hl⟩ := row_shape' HGL.out.ol
        subst hl
        obtain ⟨L, hL⟩ : ∃ L, m + q = L := ⟨_, rfl⟩
        rw [hL] at HGL ⊢
        have hLb : L ≤ 50012 := by omega
        have HL := Lib.hid hL
        have hszY : w.heap.size ≤ wr.heap.size := Nat.le_trans hsz1 HGL.out.fr.size
        by_cases hql : q < 12
        · clear hL
          go_wp2_with fail
          refine (markWrites_any k L 1 wr (by omega) (by omega)).mono ?_
          rintro e W2 ⟨mv, rfl, hf, hb2⟩
          obtain ⟨a2, c2, rfl⟩ := row_shape' hf
          have HI2 := Lib.hid (sg_own hf (mkW_one k L 1))
          have HG2 := Lib.hid (HGL.out.keep hb2)
          have hsz2 := hb2.size
          clear hf hb2 HGL
          go_wp2_with (at_builtin; refine wpList_appK rfl _ _ _ rfl el_wr B _ L _ rfl (by have := HG2.out.ol; rwa [HL.out] at this) ?cB a2 1 c2 _ rfl HI2.out ?cM ?cN ?_)
          case cB => omega
          case cM => unfold maxLen; omega
          case cN => omega
          intro l' W3 ho3 hg3 hol3 hb3
          have hstep := HG2.out.step (p := 1) (zs := mkW.row k L 1) (fun b e => e) (by rw [HL.out]; rw [List.append_assoc]; exact ho3) hg3 (by rw [HL.out]; exact hol3) hb3
          rw [← HL.out] at hstep
          rw [MK.row_add] at hstep
          have HG3 := Lib.hid hstep
          clear hstep ho3 hg3 hol3 hb3 HG2 HI2 hsz2
          go_wp2_with fail
          go_roundw
          case rel => exact ⟨q + 1, by omega, by go_num, HG3.out⟩
          case measure => simp [intOf]; omega
        · have hq12 : q = 12 := by omega
          subst hq12
          clear hL
          go_wp2_with fail
          refine (markWrites_any k L 60 wr (by omega) (by omega)).mono ?_
          rintro e W2 ⟨mv, rfl, hf, hb2⟩
          obtain ⟨a2, c2, rfl⟩ := row_shape' hf
          have HI2 := Lib.hid (sg_own hf (mkW_one k L 60))
          have HG2 := Lib.hid (HGL.out.keep hb2)
          have hsz2 := hb2.size
          clear hf hb2 HGL
          go_wp2_with (at_builtin; refine wpList_appK rfl _ _ _ rfl el_wr B _ L _ rfl (by have := HG2.out.ol; rwa [HL.out] at this) ?cB a2 60 c2 _ rfl HI2.out ?cM ?cN ?_)
          case cB => omega
          case cM => unfold maxLen; omega
          case cN => omega
          intro l' W3 ho3 hg3 hol3 hb3
          have hstep := HG2.out.step (p := 60) (zs := mkW.row k L 60) (fun b e => e) (by rw [HL.out]; rw [List.append_assoc]; exact ho3) hg3 (by rw [HL.out]; exact hol3) hb3
          rw [← HL.out] at hstep
          rw [MK.row_add] at hstep
          have hstep' : GLk 169 mkW.z (fun b => V.ownBlock = some b) B Wo W3 V l' m 72 (mkW.row k 0 m) (mkW.row k m 72) := hstep
          rw [← HV.out, ← HM.out] at hstep'
          have hgm := HGR.out.grown hlt HAP.out HLT.out hstep' hk
          have HGM := Lib.hid hgm
          obtain ⟨a3, c3, hl3⟩ := row_shape' hgm.ol
          obtain ⟨n3, hn3⟩ : ∃ n3, ms k + 72 = n3 := ⟨_, rfl⟩
          rw [hn3] at hl3
          subst hl3
          have hsz3 := hg3.size
          clear hstep hstep' hgm ho3 hg3 hol3 hb3 HG2 HI2 hn3
          have hbA := (Bl.refl W3).alloc (.cells #[.slice a3 n3 c3] 133)
          have HGA := Lib.hid (HGM.out.keep hbA)
          have hlit : (W3.alloc (.cells #[.slice a3 n3 c3] 133)).heap[W3.heap.size]? = some (.cells [.slice a3 n3 c3].toArray 133 (0, 0)) := heap_alloc_new W3 _
          have HLT0 := Lib.hid (SG.lit (size := 1) hlit rfl (by intro u hu; simp at hu; subst hu; rfl))
          have hsz4 := hbA.size
          clear hlit hbA
          go_wp2_with (at_builtin; refine wpList_appK rfl _ _ _ rfl el_rowsW w.heap.size _ _ _ rfl HGA.out.r.row ?cB2 (some ⟨W3.heap.size, 0, none⟩) 1 1 _ rfl HLT0.out ?cM2 ?cN2 ?_)
          case cB2 => omega
          case cM2 => unfold maxLen; omega
          case cN2 => omega
          intro out' W4 ho4 hg4 _ hb4
          have HR4 := Lib.hid (HGA.out.step hlt HLT.out ho4 hg4 (fun b e => (hb4 b e).imp_right (fun h => by simpa using h)))
          clear ho4 hg4 hb4 HGA HGM HLT0 HGR
          go_wp2_with fail
          go_roundw
          case rel => exact ⟨k + 1, _, by omega, by go_num, HR4.out⟩
          case measure => simp [intOf]; omega
    · go_wp2_with fail
      go_ret
      have e1 : k = n := by omega
      subst e1
      exact ⟨_, gs, rfl, HGR.out⟩
end Go.Proofs.YtfjjnffifnohkaaGreat
end

/- one more list in a book, where blocks (U) are known that are no rows of the book's own. By an AI agent. -/
section
set_option linter.unusedVariables false
namespace Go.Proofs.YtfjjnffifnohkaaGreat
open Go.RowKit

/-- a book that leaves T alone, and whose own rows lie in no block of U -/
def BQU (k : BKd) (B : Nat) (W : World) (g : Nat) (T U : Nat → Prop) : Prop := ∃ n vv wv vs us ln cs D, BookX k B W g n vv wv vs us ln cs D T ∧ ∀ b, U b → b < W.heap.size ∧ ¬ BSt g vv wv b
section
variable {k : BKd} {B : Nat} {w W : World} {g : Nat} {T T' U U' : Nat → Prop} {n : Nat → Nat} {vv wv : Nat → Value} {vs us : Nat → Nat → Value} {ln : Nat → Nat → Nat} {cs : Nat → Nat → List Value} {D : Nat → Nat → Nat → Prop}
theorem BQU.bq (h : BQU k B W g T U) : BQ k B W g T := by
  obtain ⟨n, vv, wv, vs, us, ln, cs, D, h, -⟩ := h
  exact ⟨n, vv, wv, vs, us, ln, cs, D, h⟩
theorem BQ.bqu (h : BQ k B W g T) (hu : ∀ b, U b → T b) : BQU k B W g T U := by
  obtain ⟨n, vv, wv, vs, us, ln, cs, D, h⟩ := h
  exact ⟨n, vv, wv, vs, us, ln, cs, D, h, fun b hb => ⟨(h.t b (hu b hb)).1, (h.t b (hu b hb)).2.1⟩⟩
theorem BQU.less (h : BQU k B W g T U) (ht : ∀ b, T' b → T b) (hu : ∀ b, U' b → U b) : BQU k B W g T' U' := by
  obtain ⟨n, vv, wv, vs, us, ln, cs, D, h, h2⟩ := h
  exact ⟨n, vv, wv, vs, us, ln, cs, D, h.less ht, fun b hb => h2 b (hu b hb)⟩
theorem BQU.keep (h : BQU k B W g T U) {W' : World} (hb : Bl W W') : BQU k B W' g T U := by
  obtain ⟨n, vv, wv, vs, us, ln, cs, D, h, h2⟩ := h
  exact ⟨n, vv, wv, vs, us, ln, cs, D, h.keep hb, fun b q => ⟨Nat.lt_of_lt_of_le (h2 b q).1 hb.size, (h2 b q).2⟩⟩
theorem BookX.bqu (h : BookX k B w g n vv wv vs us ln cs D T) (hu : ∀ b, U b → b < w.heap.size ∧ ¬ BSt g vv wv b) : BQU k B w g T U := ⟨n, vv, wv, vs, us, ln, cs, D, h, hu⟩
theorem BookX.regU {p : Nat} {v vv' wv' u : Value} {l : Nat} {ys : List Value} {Dv Dn : Nat → Prop} (h : BookX k B w g n vv wv vs us ln cs D T) (hu : ∀ b, U b → b < w.heap.size ∧ ¬ BSt g vv wv b) (hp : p ∈ k.K) (hn : n p < 250) (hv : w.ownsRow B (k.E p) (k.z p) v l ys) (hl : l ≤ 50000)
    (hT : ∀ b, v.ownBlock = some b → T b) (hD : ∀ b, Dv b → b < w.heap.size ∧ ¬ BSt g vv wv b) (P : VPk k B w W g (n p) p vv wv vs us v vv' wv' u Dv Dn) :
    BQU k B W g (fun b => T b ∧ v.ownBlock ≠ some b) U ∧ Fr (fun b => ¬ (T b ∨ U b)) w W := by
  have hs := h.step hp hn hv hl hT hD P
  refine ⟨hs.1.bqu (fun b hb => ⟨Nat.lt_of_lt_of_le (hu b hb).1 P.fr.size, hs.2 b (hu b hb).1 (hu b hb).2⟩), ⟨P.fr.os, P.fr.tape, P.fr.output, P.fr.size, fun b hb ht => P.fr.block b hb (fun q => ?_)⟩⟩
  have hs : ¬ BSt g vv wv b := by
    rcases Classical.not_not.1 ht with q | q
    · exact (h.t b q).2.1
    · exact (hu b q).2
  rcases q with q | q | q
  · exact hs (.inl q)
  · exact hs (.inr ⟨p, .inl q⟩)
  · exact hs (.inr ⟨p, .inr q⟩)
end
end Go.Proofs.YtfjjnffifnohkaaGreat
end
