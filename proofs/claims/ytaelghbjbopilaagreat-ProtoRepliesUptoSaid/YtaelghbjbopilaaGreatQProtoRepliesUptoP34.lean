import Derived.Test.YtaelghbjbopilaaGreatQProtoRepliesUptoP33
import Derived.Test.YtaelghbjbopilaaGreatQProtoRepliesUptoP32
import Derived.Test.YtaelghbjbopilaaGreatQProtoRepliesUptoP31
import Derived.Test.YtaelghbjbopilaaGreatQProtoRepliesUptoP6

/- bedrockbook over vectors that are kept: growVecs. By an AI agent. -/
section
namespace Go.Proofs.YtaelghbjbopilaaGreat
open Go.RowKit
attribute [local go_sem] eOp eOper eUpon

theorem el_ints : EL 23 3 1 8 := el_of Tryz.underlying23 (by kernel_rfl) (by decide)
theorem el_rows : EL 35 23 1 24 := el_of Tryz.underlying35 (by kernel_rfl) (by decide)
/-- what lies ahead in a row that is appended to stays -/
theorem OI.pre {B : Nat} {w w' : World} {v l : Value} {xs ys : List Int} (hv : OI B w v xs) (hl : OI B w l (xs ++ ys)) (hg : w.grownBy w' l.ownBlock) (hl' : OI B w' l (xs ++ ys)) : OI B w' v xs := by
  by_cases e : v.ownBlock = none ∨ v.ownBlock ≠ l.ownBlock
  · exact World.ownsRow.kept hv hg e
  · have e1 : v.ownBlock ≠ none := fun h => e (.inl h)
    have e2 : v.ownBlock = l.ownBlock := Classical.byContradiction fun h => e (.inr h)
    obtain ⟨h1, ⟨rfl, _⟩ | ⟨g, cap, cur, rfl, hB, hgc, hn, hm, hs, ht⟩⟩ := hv
    · exact absurd rfl e1
    · obtain ⟨k1, ⟨rfl, _⟩ | ⟨g2, cap2, cur2, rfl, hB2, hgc2, hn2, hm2, hs2, ht2⟩⟩ := hl
      · simp [Value.ownBlock] at e2
      · simp [Value.ownBlock] at e2
        subst e2
        rw [hgc] at hgc2
        cases hgc2
        obtain ⟨j1, ⟨hq, _⟩ | ⟨g3, cap3, cur3, hq, hB3, hgc3, hn3, hm3, hs3, ht3⟩⟩ := hl'
        · cases hq
        · simp only [Value.slice.injEq, Option.some.injEq, Addr.mk.injEq, and_true, true_and] at hq
          obtain ⟨rfl, rfl⟩ := hq
          refine ⟨h1, .inr ⟨g, cap, cur3, rfl, hB, hgc3, hn, hm, by omega, ?_⟩⟩
          have e3 : cur3.toList.take (xs.length * 1) = (cur3.toList.take ((xs ++ ys).length * 1)).take (xs.length * 1) := by
            rw [List.take_take, Nat.min_eq_left (by rw [List.length_append]; omega)]
          rw [e3, ht3, List.map_append, List.take_append_of_le_length (by simp), List.take_of_length_le (by simp)]
/-- the state while one list grows -/
structure GL (S' : Nat → Prop) (B : Nat) (W1 Y : World) (v l : Value) (xs ys : List Int) : Prop where
  fr : Fr S' W1 Y
  ol : OI B Y l (xs ++ ys)
  ov : OI B Y v xs
  blk : ∀ b, l.ownBlock = some b → v.ownBlock = some b ∨ W1.heap.size ≤ b
theorem GL.keep {S' : Nat → Prop} {B : Nat} {W1 Y Y' : World} {v l : Value} {xs ys : List Int} (h : GL S' B W1 Y v l xs ys) (hb : Bl Y Y') : GL S' B W1 Y' v l xs ys := ⟨h.fr.bl hb, h.ol.keep hb, h.ov.keep hb, h.blk⟩
theorem GL.step {S' : Nat → Prop} {B : Nat} {W1 Y Y' : World} {v l l' : Value} {xs ys zs : List Int} (h : GL S' B W1 Y v l xs ys) (hS : ∀ b, v.ownBlock = some b → S' b) (hown : Y'.ownsRow B 3 1 l' ((xs ++ ys).length + zs.length) ((xs ++ ys).map (Value.int .i64) ++ zs.map (Value.int .i64)))
    (hg : Y.grownBy Y' l.ownBlock) (hl : Y'.ownsRow B 3 1 l (xs ++ ys).length ((xs ++ ys).map (Value.int .i64))) (hb : ∀ b, l'.ownBlock = some b → l.ownBlock = some b ∨ Y.heap.size ≤ b) : GL S' B W1 Y' v l' xs (ys ++ zs) := by
  refine ⟨?_, ?_, h.ov.pre h.ol hg hl, fun b e => ?_⟩
  · refine ⟨hg.os.trans h.fr.os, hg.tape.trans h.fr.tape, hg.output.trans h.fr.output, Nat.le_trans h.fr.size hg.size, fun k hk hs => ?_⟩
    rw [hg.block k (Nat.lt_of_lt_of_le hk h.fr.size) (fun e => ?_), h.fr.block k hk hs]
    rcases h.blk k e.symm with q | q
    · exact hs (hS k q)
    · omega
  · unfold OI
    rw [← List.append_assoc, List.length_append, List.map_append]
    exact hown
  · rcases hb b e with q | q
    · exact h.blk b q
    · exact .inr (Nat.le_trans h.fr.size q)

/-- the state of growVecs ahead of the k-th list -/
structure GR3 (B n : Nat) (vs : Nat → Value) (ms : Nat → Nat) (w W : World) (k : Nat) (out : Value) (gs : Nat → Value) : Prop where
  fr : Fr (SB3 n vs) w W
  row : W.ownsRow w.heap.size 23 1 out k ((List.range k).map gs)
  ogs : ∀ j, j < k → OI B W (gs j) (markL j 0 (ms j + 72))
  ovs : ∀ j, j < n → OI B W (vs j) (markL j 0 (ms j))
  apg : ∀ j, j < k → ∀ b, (gs j).ownBlock = some b → (vs j).ownBlock = some b ∨ (w.heap.size ≤ b ∧ out.ownBlock ≠ some b)
structure GM3 (B n : Nat) (vs : Nat → Value) (ms : Nat → Nat) (w W : World) (k : Nat) (out : Value) (gs : Nat → Value) (l : Value) : Prop where
  r : GR3 B n vs ms w W k out gs
  ol : OI B W l (markL k 0 (ms k + 72))
  bl : ∀ b, l.ownBlock = some b → (vs k).ownBlock = some b ∨ (w.heap.size ≤ b ∧ out.ownBlock ≠ some b)
theorem GR3.keep {B n : Nat} {vs : Nat → Value} {ms : Nat → Nat} {w W W' : World} {k : Nat} {out : Value} {gs : Nat → Value} (h : GR3 B n vs ms w W k out gs) (hb : Bl W W') : GR3 B n vs ms w W' k out gs :=
  ⟨h.fr.bl hb, ownsRow_bl h.row hb, fun j hj => (h.ogs j hj).keep hb, fun j hj => (h.ovs j hj).keep hb, h.apg⟩
theorem GM3.keep {B n : Nat} {vs : Nat → Value} {ms : Nat → Nat} {w W W' : World} {k : Nat} {out : Value} {gs : Nat → Value} {l : Value} (h : GM3 B n vs ms w W k out gs l) (hb : Bl W W') : GM3 B n vs ms w W' k out gs l :=
  ⟨h.r.keep hb, h.ol.keep hb, h.bl⟩
theorem GR3.grown {B n : Nat} {vs : Nat → Value} {ms : Nat → Nat} {w W Y : World} {k : Nat} {out : Value} {gs : Nat → Value} {l : Value} (h : GR3 B n vs ms w W k out gs) (hk : k < n)
    (hap : ∀ i j, i < n → j < n → i ≠ j → (vs i).ownBlock = none ∨ (vs i).ownBlock ≠ (vs j).ownBlock) (hlt : ∀ b, SB3 n vs b → b < w.heap.size)
    (hl : GL (fun b => (vs k).ownBlock = some b) B W Y (vs k) l (markL k 0 (ms k)) (markL k (ms k) 72)) (hkn : k ≤ n) : GM3 B n vs ms w Y k out gs l := by
  have hvk : ∀ b, (vs k).ownBlock = some b → b < w.heap.size := fun b e => hlt b ⟨k, hk, e⟩
  have hout : ∀ b, out.ownBlock = some b → w.heap.size ≤ b ∧ b < W.heap.size := World.ownsRow.lt h.row
  have hne : ∀ j, j < n → j ≠ k → ∀ b, (vs j).ownBlock = some b → ¬ (vs k).ownBlock = some b := fun j hj e b e1 e2 => by
    rcases hap j k hj hk e with q | q
    · rw [q] at e1; cases e1
    · exact q (e1.trans e2.symm)
  refine ⟨⟨?_, ?_, fun j hj => ?_, fun j hj => ?_, h.apg⟩, ?_, fun b e => ?_⟩
  · refine h.fr.trans ⟨hl.fr.os, hl.fr.tape, hl.fr.output, hl.fr.size, fun b hb hs => hl.fr.block b hb (fun e => hs ⟨k, hk, e⟩)⟩
  · exact hl.fr.own h.row (fun b e e2 => by have := hvk b e2; have := (hout b e).1; omega)
  · exact hl.fr.own (h.ogs j hj) (fun b e e2 => by
      rcases h.apg j hj b e with q | q
      · exact hne j (by omega) (by omega) b q e2
      · have := hvk b e2; omega)
  · by_cases e : j = k
    · subst e; exact hl.ov
    · exact hl.fr.own (h.ovs j hj) (fun b e1 e2 => hne j hj e b e1 e2)
  · have := hl.ol
    rw [show markL k (ms k) 72 = markL k (0 + ms k) 72 by rw [Nat.zero_add], markL_add] at this
    exact this
  · rcases hl.blk b e with q | q
    · exact .inl q
    · exact .inr ⟨Nat.le_trans h.fr.size q, fun e2 => by have := (hout b e2).2; omega⟩
theorem GM3.step {B n : Nat} {vs : Nat → Value} {ms : Nat → Nat} {w W W' : World} {k : Nat} {out out' : Value} {gs : Nat → Value} {l : Value} (h : GM3 B n vs ms w W k out gs l) (hk : k < n)
    (hlt : ∀ b, SB3 n vs b → b < w.heap.size) (ho : W'.ownsRow w.heap.size 23 1 out' (k + 1) ((List.range k).map gs ++ [l])) (hg : W.grownBy W' out.ownBlock)
    (hb : ∀ b, out'.ownBlock = some b → out.ownBlock = some b ∨ W.heap.size ≤ b) : GR3 B n vs ms w W' (k + 1) out' (fun j => if j = k then l else gs j) := by
  have hout : ∀ b, out.ownBlock = some b → w.heap.size ≤ b ∧ b < W.heap.size := World.ownsRow.lt h.r.row
  have hvo : ∀ j, j < n → (vs j).ownBlock = none ∨ (vs j).ownBlock ≠ out.ownBlock := fun j hj => by
    cases e : (vs j).ownBlock with
    | none => exact .inl rfl
    | some b => exact .inr (fun e2 => by have := hlt b ⟨j, hj, e⟩; have := (hout b e2.symm).1; omega)
  have hgo : ∀ j, j < k → (gs j).ownBlock = none ∨ (gs j).ownBlock ≠ out.ownBlock := fun j hj => by
    cases e : (gs j).ownBlock with
    | none => exact .inl rfl
    | some b =>
      refine .inr (fun e2 => ?_)
      rcases h.r.apg j hj b e with q | q
      · have := hlt b ⟨j, by omega, q⟩; have := (hout b e2.symm).1; omega
      · exact q.2 e2.symm
  have hlo : l.ownBlock = none ∨ l.ownBlock ≠ out.ownBlock := by
    cases e : l.ownBlock with
    | none => exact .inl rfl
    | some b =>
      refine .inr (fun e2 => ?_)
      rcases h.bl b e with q | q
      · have := hlt b ⟨k, hk, q⟩; have := (hout b e2.symm).1; omega
      · exact q.2 e2.symm
  refine ⟨⟨hg.os.trans h.r.fr.os, hg.tape.trans h.r.fr.tape, hg.output.trans h.r.fr.output, Nat.le_trans h.r.fr.size hg.size, fun b hb hs => ?_⟩, ?_, fun j hj => ?_, fun j hj => World.ownsRow.kept (h.r.ovs j hj) hg (hvo j hj), fun j hj b e => ?_⟩
  · rw [hg.block b (Nat.lt_of_lt_of_le hb h.r.fr.size) (fun e => by have := (hout b e.symm).1; omega), h.r.fr.block b hb hs]
  · have e : (List.range (k + 1)).map (fun j => if j = k then l else gs j) = (List.range k).map gs ++ [l] := by
      rw [List.range_succ, List.map_append]
      congr 1
      · exact List.map_congr_left (fun j hj => if_neg (by have := List.mem_range.1 hj; omega))
      · simp
    rw [e]; exact ho
  · by_cases e : j = k
    · subst e; rw [if_pos rfl]; exact World.ownsRow.kept h.ol hg hlo
    · rw [if_neg e]; exact World.ownsRow.kept (h.r.ogs j (by omega)) hg (hgo j (by omega))
  · by_cases e1 : j = k
    · subst e1
      rw [if_pos rfl] at e
      rcases h.bl b e with q | q
      · exact .inl q
      · refine .inr ⟨q.1, fun e2 => ?_⟩
        rcases hb b e2 with q2 | q2
        · exact q.2 q2
        · have := (World.ownsRow.lt h.ol b e).2; omega
    · rw [if_neg e1] at e
      rcases h.r.apg j (by omega) b e with q | q
      · exact .inl q
      · refine .inr ⟨q.1, fun e2 => ?_⟩
        rcases hb b e2 with q2 | q2
        · exact q.2 q2
        · have := (World.ownsRow.lt (h.r.ogs j (by omega)) b e).2; omega

set_option maxHeartbeats 1000000 in
theorem growVecs_any (B g : Nat) (va : Option Addr) (n cv : Nat) (vs : Nat → Value) (ms : Nat → Nat) (w : World) (hn : n ≤ 250) (hB : B ≤ w.heap.size) (hc4 : w.cell? ⟨g, 4, none⟩ = some (.slice va n cv)) (hv : LA w va n vs)
    (h : ∀ j, j < n → OI B w (vs j) (markL j 0 (ms j)) ∧ ms j ≤ 50000) (hap : ∀ i j, i < n → j < n → i ≠ j → (vs i).ownBlock = none ∨ (vs i).ownBlock ≠ (vs j).ownBlock)
    (hg : ¬ SB3 n vs g) (hva : ∀ b off, va = some ⟨b, off, none⟩ → ¬ SB3 n vs b) :
    Calls Tryz.prog 79 #[.pointer (some ⟨g, 0, none⟩)] w fun e w' => ∃ out gs, e = .returned out ∧ GR3 B n vs ms w w' n out gs := by
  have HC4 := Lib.hid hc4
  have HH := Lib.hid h
  have HAP := Lib.hid hap
  have HG := Lib.hid hg
  have HVA := Lib.hid hva
  have HLT := Lib.hid (show ∀ b, SB3 n vs b → b < w.heap.size from fun b ⟨j, hj, e⟩ => (World.ownsRow.lt (h j hj).1 b e).2)
  clear hc4 h hap hg hva
  go_enter Tryz.func79, Tryz.ntmps79
  go_wp2_with fail
  go_loopw [3, 4] (fun out i w' => ∃ (k : Nat) (gs : Nat → Value), k ≤ n ∧ i = .int .i64 k ∧ GR3 B n vs ms w w' k out gs) (fun _ i _ => n - (intOf i).toNat)
  case atStart => exact ⟨0, fun _ => undef, Nat.zero_le _, rfl, ⟨Fr.refl _ _, World.ownsRow_nil _ _ _ _, fun j hj => absurd hj (Nat.not_lt_zero _), fun j hj => (HH.out j hj).1, fun j hj => absurd hj (Nat.not_lt_zero _)⟩⟩
  case round =>
    obtain ⟨k, gs, hk, rfl, hgr⟩ := hrel
    have HGR := Lib.hid hgr
    clear hgr
    have c4 := HGR.out.fr.cell HC4.out HG.out
    by_cases hlt : k < n
    · obtain ⟨b, off, rfl, hcv⟩ := hv k hlt
      have hcv' := HGR.out.fr.cell (hcv k hlt) (HVA.out b off rfl)
      have hmx := (HH.out k hlt).2
      obtain ⟨m, hm⟩ : ∃ m, ms k = m := ⟨_, rfl⟩
      rw [hm] at hmx
      have hov := HGR.out.ovs k hlt
      rw [hm] at hov
      have HM := Lib.hid hm
      clear hm hcv
      obtain ⟨V, hV⟩ : ∃ V, vs k = V := ⟨_, rfl⟩
      rw [hV] at hcv' hov
      have HV := Lib.hid hV
      clear hV
      have HGL0 : Hid (GL (fun b => V.ownBlock = some b) B wr wr V V (markL k 0 m) (markL k m 0)) := Lib.hid ⟨Fr.refl _ _, by rw [show markL k m 0 = [] from rfl, List.append_nil]; exact hov, hov, fun b e => .inl e⟩
      clear hov
      go_wp2_with fail
      have hsz1 : w.heap.size ≤ wr.heap.size := HGR.out.fr.size
      go_loopw [5, 6] (fun l t Y => ∃ q : Nat, q ≤ 12 ∧ t = .int .i64 q ∧ GL (fun b => V.ownBlock = some b) B wr Y V l (markL k 0 m) (markL k m q)) (fun _ t _ => 12 - (intOf t).toNat)
      case atStart => exact ⟨0, by omega, rfl, HGL0.out⟩
      case round =>
        obtain ⟨q, hq, rfl, hgl⟩ := hrel
        have HGL := Lib.hid hgl
        clear hgl
        obtain ⟨la, lc, hl, _⟩ := HGL.out.ol.shape
        subst hl
        have hlen : (markL k 0 m ++ markL k m q).length = m + q := by rw [List.length_append, markL_len, markL_len]
        have HLEN := Lib.hid hlen
        rw [hlen] at HGL ⊢
        obtain ⟨L, hL⟩ : ∃ L, m + q = L := ⟨_, rfl⟩
        rw [hL] at HGL HLEN ⊢
        clear hlen
        have hLb : L ≤ 50012 := by omega
        have HL := Lib.hid hL
        have hszY : w.heap.size ≤ wr.heap.size := Nat.le_trans hsz1 HGL.out.fr.size
        by_cases hql : q < 12
        · clear hL
          go_wp2_with fail
          refine (markVecs_any k L 1 wr (by omega) (by omega)).mono ?_
          rintro e W2 ⟨mv, rfl, hf, hb2⟩
          obtain ⟨a2, n2, c2, rfl, I2⟩ := hf.si
          have hn2 : n2 = 1 := by have := I2.len; rw [markL_len] at this; exact this.symm
          subst hn2
          have HI2 := Lib.hid I2
          have HG2 := Lib.hid (HGL.out.keep hb2)
          have hsz2 := hb2.size
          clear hf hb2 I2 HGL
          go_wp2_with (at_builtin; refine wpList_appK rfl _ _ _ rfl el_ints B _ _ _ rfl HG2.out.ol ?cB a2 1 c2 _ rfl (sg_ints HI2.out) ?cM ?cN ?_)
          case cB => omega
          case cM => rw [HLEN.out]; unfold maxLen; omega
          case cN => rw [HLEN.out]; omega
          intro l' W3 ho3 hg3 hol3 hb3
          have hstep := HG2.out.step (zs := markL k L 1) (fun b e => e) (by rw [markL_len, List.length_append, List.map_append, List.append_assoc]; exact ho3) hg3 (by rw [List.length_append, List.map_append]; exact hol3) hb3
          have e : markL k m q ++ markL k L 1 = markL k m (q + 1) := by rw [← HL.out, markL_add]
          rw [e] at hstep
          have HG3 := Lib.hid hstep
          clear hstep e ho3 hg3 hol3 hb3 HG2 HI2 hsz2
          go_wp2_with fail
          go_roundw
          case rel => exact ⟨q + 1, by omega, by go_num, HG3.out⟩
          case measure => simp [intOf]; omega
        · have hq12 : q = 12 := by omega
          subst hq12
          clear hL
          go_wp2_with fail
          refine (markVecs_any k L 60 wr (by omega) (by omega)).mono ?_
          rintro e W2 ⟨mv, rfl, hf, hb2⟩
          obtain ⟨a2, n2, c2, rfl, I2⟩ := hf.si
          have hn2 : n2 = 60 := by have := I2.len; rw [markL_len] at this; exact this.symm
          subst hn2
          have HI2 := Lib.hid I2
          have HG2 := Lib.hid (HGL.out.keep hb2)
          have hsz2 := hb2.size
          clear hf hb2 I2 HGL
          go_wp2_with (at_builtin; refine wpList_appK rfl _ _ _ rfl el_ints B _ _ _ rfl HG2.out.ol ?cB a2 60 c2 _ rfl (sg_ints HI2.out) ?cM ?cN ?_)
          case cB => omega
          case cM => rw [HLEN.out]; unfold maxLen; omega
          case cN => rw [HLEN.out]; omega
          intro l' W3 ho3 hg3 hol3 hb3
          have hstep := HG2.out.step (zs := markL k L 60) (fun b e => e) (by rw [markL_len, List.length_append, List.map_append, List.append_assoc]; exact ho3) hg3 (by rw [List.length_append, List.map_append]; exact hol3) hb3
          have e : markL k m 12 ++ markL k L 60 = markL k m 72 := by rw [← HL.out, markL_add]
          rw [e] at hstep
          rw [← HV.out, ← HM.out] at hstep
          have hgm := HGR.out.grown hlt HAP.out HLT.out hstep hk
          have HGM := Lib.hid hgm
          obtain ⟨a3, c3, hl3, _⟩ := hgm.ol.shape
          obtain ⟨n3, hn3⟩ : ∃ n3, (markL k 0 (ms k + 72)).length = n3 := ⟨_, rfl⟩
          rw [hn3] at hl3
          subst hl3
          have hsz3 := hg3.size
          clear hstep hgm e ho3 hg3 hol3 hb3 HG2 HI2 hn3
          have hbA := (Bl.refl W3).alloc (.cells #[.slice a3 n3 c3] 23)
          have HGA := Lib.hid (HGM.out.keep hbA)
          have hlit : (W3.alloc (.cells #[.slice a3 n3 c3] 23)).heap[W3.heap.size]? = some (.cells [.slice a3 n3 c3].toArray 23 (0, 0)) := heap_alloc_new W3 _
          have HLT0 := Lib.hid (SG.lit (size := 1) hlit rfl (by intro u hu; simp at hu; subst hu; rfl))
          have hsz4 := hbA.size
          clear hlit hbA
          go_wp2_with (at_builtin; refine wpList_appK rfl _ _ _ rfl el_rows w.heap.size _ _ _ rfl HGA.out.r.row ?cB2 (some ⟨W3.heap.size, 0, none⟩) 1 1 _ rfl HLT0.out ?cM2 ?cN2 ?_)
          case cB2 => omega
          case cM2 => unfold maxLen; omega
          case cN2 => omega
          intro out' W4 ho4 hg4 _ hb4
          have HR4 := Lib.hid (HGA.out.step hlt HLT.out ho4 hg4 (fun b e => (hb4 b e).imp_right (fun h => by simpa using h)))
          clear ho4 hg4 hb4 HGA HGM HLT0 HGR
          go_wp2_with fail
          go_roundw
          case rel => exact ⟨k + 1, _, by omega, by go_num, HR4.out⟩
          case measure => simp [intOf]; omega
    · go_wp2_with fail
      go_ret
      have e1 : k = n := by omega
      subst e1
      exact ⟨_, gs, rfl, HGR.out⟩
end Go.Proofs.YtaelghbjbopilaaGreat
end

/- rows of cells and their marks: what the book does with the lists of a kind, in plain words. By an AI agent. -/
section
set_option linter.unusedVariables false
namespace Go.Proofs.YtaelghbjbopilaaGreat
open Go.RowKit

/-- the marks of a kind of lists: z cells each -/
structure MK where
  z : Nat
  el : Nat → Nat → List Value
  len : ∀ i k, (el i k).length = z
  pos : 0 < z
def MK.row (m : MK) (i f n : Nat) : List Value := (List.range n).flatMap fun k => m.el i (f + k)
theorem MK.row_zero (m : MK) (i f : Nat) : m.row i f 0 = [] := rfl
theorem MK.row_succ (m : MK) (i f n : Nat) : m.row i f (n + 1) = m.row i f n ++ m.el i (f + n) := by
  unfold MK.row
  rw [List.range_succ, List.flatMap_append]
  simp
theorem MK.row_len (m : MK) (i f : Nat) : ∀ n, (m.row i f n).length = n * m.z
  | 0 => by rw [Nat.zero_mul]; rfl
  | n + 1 => by rw [m.row_succ, List.length_append, MK.row_len m i f n, m.len, Nat.succ_mul]
theorem MK.row_add (m : MK) (i f n k : Nat) : m.row i f n ++ m.row i (f + n) k = m.row i f (n + k) := by
  induction k with
  | zero => simp [MK.row]
  | succ k ih => rw [m.row_succ, ← List.append_assoc, ih, ← Nat.add_assoc, m.row_succ, Nat.add_assoc]

/-! ### several cells set anew -/
def setCs (W : World) (g : Nat) : Nat → List Value → World
  | _, [] => W
  | o, v :: l => setCs (W.setCell ⟨g, o, none⟩ v) g (o + 1) l
def setL (xs : List Value) : Nat → List Value → List Value
  | _, [] => xs
  | o, v :: l => setL (xs.set o v) (o + 1) l
theorem setL_mid : ∀ (M A C : List Value), M.length ≤ C.length → setL (A ++ C) A.length M = A ++ (M ++ C.drop M.length)
  | [], A, C, _ => by simp [setL]
  | v :: M, A, [], h => by simp at h
  | v :: M, A, c :: C, h => by
    have e : (A ++ c :: C).set A.length v = (A ++ [v]) ++ C := by simp
    show setL ((A ++ c :: C).set A.length v) (A.length + 1) M = _
    rw [e, show A.length + 1 = (A ++ [v]).length by simp, setL_mid M (A ++ [v]) C (by simpa using h)]
    simp
theorem grown_refl (w : World) (row : Option Nat) : w.grownBy w row := ⟨rfl, rfl, rfl, Nat.le_refl _, fun _ _ _ => rfl⟩
theorem grown_trans {a b c : World} {row : Option Nat} (h : a.grownBy b row) (k : b.grownBy c row) : a.grownBy c row :=
  ⟨k.os.trans h.os, k.tape.trans h.tape, k.output.trans h.output, Nat.le_trans h.size k.size, fun i hi hn => (k.block i (Nat.lt_of_lt_of_le hi h.size) hn).trans (h.block i hi hn)⟩
theorem own_setCs {B E z g n c : Nat} : ∀ (M : List Value) (w : World) (xs : List Value) (o : Nat), w.ownsRow B E z (.slice (some ⟨g, 0, none⟩) n c) n xs →
    (setCs w g o M).ownsRow B E z (.slice (some ⟨g, 0, none⟩) n c) n (setL xs o M) ∧ w.grownBy (setCs w g o M) (some g)
  | [], w, xs, o, h => ⟨h, grown_refl _ _⟩
  | v :: M, w, xs, o, h => by
    have h1 := World.ownsRow.stored h o v
    have h2 := own_setCs M (w.setCell ⟨g, o, none⟩ v) (xs.set o v) (o + 1) h1.1
    exact ⟨h2.1, grown_trans h1.2 h2.2⟩

theorem own_fives {w : World} {B E g n c : Nat} {xs : List Value} (h : w.ownsRow B E 5 (.slice (some ⟨g, 0, none⟩) n c) n xs) {o : Nat} (ho : o + 5 ≤ n * 5) :
    ∃ v0 v1 v2 v3 v4, w.cell? ⟨g, o, none⟩ = some v0 ∧ w.cell? ⟨g, o + 1, none⟩ = some v1 ∧ w.cell? ⟨g, o + 2, none⟩ = some v2 ∧ w.cell? ⟨g, o + 3, none⟩ = some v3 ∧ w.cell? ⟨g, o + 4, none⟩ = some v4 ∧
      w.frozen? ⟨g, o, none⟩ = false ∧ w.frozen? ⟨g, o + 1, none⟩ = false ∧ w.frozen? ⟨g, o + 2, none⟩ = false ∧ w.frozen? ⟨g, o + 3, none⟩ = false ∧ w.frozen? ⟨g, o + 4, none⟩ = false := by
  have hl := h.1
  have key : ∀ r, r < 5 → w.cell? ⟨g, o + r, none⟩ = some (xs[o + r]?.getD undef) := fun r hr => by
    rw [h.cellAt (o + r) (by omega), List.getElem?_eq_getElem (by omega)]; rfl
  exact ⟨_, _, _, _, _, key 0 (by omega), key 1 (by omega), key 2 (by omega), key 3 (by omega), key 4 (by omega), h.frozenAt _, h.frozenAt _, h.frozenAt _, h.frozenAt _, h.frozenAt _⟩
/-- what stands in the j-th list when the lists ahead of k are marked, and of this one the first q -/
def curC (m : MK) (cs : Nat → List Value) (ln : Nat → Nat) (k q j : Nat) : List Value := if j < k then m.row j 0 (ln j) else if j = k then m.row k 0 q ++ (cs k).drop (q * m.z) else cs j
section
variable {m : MK} {cs : Nat → List Value} {ln : Nat → Nat}
theorem curC_zero (j : Nat) : curC m cs ln 0 0 j = cs j := by
  unfold curC
  by_cases e : j = 0
  · subst e; simp [MK.row_zero]
  · simp [e]
theorem curC_next {k : Nat} (hl : (cs k).length = ln k * m.z) (j : Nat) : curC m cs ln k (ln k) j = curC m cs ln (k + 1) 0 j := by
  unfold curC
  by_cases e1 : j < k
  · rw [if_pos e1, if_pos (by omega)]
  · by_cases e2 : j = k
    · subst e2
      rw [if_neg e1, if_pos rfl, if_pos (by omega), ← hl, List.drop_length, List.append_nil]
    · rw [if_neg e1, if_neg e2, if_neg (by omega)]
      by_cases e3 : j = k + 1
      · subst e3; simp [MK.row_zero]
      · rw [if_neg e3]
theorem curC_end {n j : Nat} (h : j < n) (q : Nat) : curC m cs ln n q j = m.row j 0 (ln j) := by unfold curC; rw [if_pos h]
theorem curC_step {k q : Nat} (hl : (cs k).length = ln k * m.z) (hq : q < ln k) : setL (curC m cs ln k q k) (q * m.z) (m.el k q) = curC m cs ln k (q + 1) k := by
  unfold curC
  rw [if_neg (Nat.lt_irrefl k), if_pos rfl, if_neg (Nat.lt_irrefl k), if_pos rfl]
  have e := setL_mid (m.el k q) (m.row k 0 q) ((cs k).drop (q * m.z)) (by
    rw [m.len, List.length_drop, hl]
    have : (q + 1) * m.z ≤ ln k * m.z := Nat.mul_le_mul_right _ (by omega)
    rw [Nat.succ_mul] at this; omega)
  rw [m.row_len] at e
  rw [e, m.len, List.drop_drop, m.row_succ, Nat.zero_add, Nat.succ_mul, List.append_assoc]
theorem curC_ne {k q j : Nat} (h : j ≠ k) : curC m cs ln k (q + 1) j = curC m cs ln k q j := by
  unfold curC
  by_cases e : j < k
  · rw [if_pos e, if_pos e]
  · rw [if_neg e, if_neg e, if_neg h, if_neg h]
end

/-! ### lists that grow -/
theorem own_pre {B E z : Nat} {w w' : World} {v l : Value} {n k : Nat} {xs ys : List Value} (hv : w.ownsRow B E z v n xs) (hl : w.ownsRow B E z l (n + k) (xs ++ ys)) (hg : w.grownBy w' l.ownBlock) (hl' : w'.ownsRow B E z l (n + k) (xs ++ ys)) : w'.ownsRow B E z v n xs := by
  by_cases e : v.ownBlock = none ∨ v.ownBlock ≠ l.ownBlock
  · exact World.ownsRow.kept hv hg e
  · have e1 : v.ownBlock ≠ none := fun h => e (.inl h)
    have e2 : v.ownBlock = l.ownBlock := Classical.byContradiction fun h => e (.inr h)
    obtain ⟨h1, ⟨rfl, _⟩ | ⟨g, cap, cur, rfl, hB, hgc, hn, hm, hs, ht⟩⟩ := hv
    · exact absurd rfl e1
    · obtain ⟨k1, ⟨rfl, _⟩ | ⟨g2, cap2, cur2, rfl, hB2, hgc2, hn2, hm2, hs2, ht2⟩⟩ := hl
      · simp [Value.ownBlock] at e2
      · simp [Value.ownBlock] at e2
        subst e2
        rw [hgc] at hgc2
        cases hgc2
        obtain ⟨j1, ⟨hq, _⟩ | ⟨g3, cap3, cur3, hq, hB3, hgc3, hn3, hm3, hs3, ht3⟩⟩ := hl'
        · cases hq
        · simp only [Value.slice.injEq, Option.some.injEq, Addr.mk.injEq, and_true, true_and] at hq
          obtain ⟨rfl, rfl⟩ := hq
          have hcc : cap * z = cap2 * z := hs.symm.trans hs2
          refine ⟨h1, .inr ⟨g, cap, cur3, rfl, hB, hgc3, hn, hm, by rw [hs3]; exact hcc.symm, ?_⟩⟩
          have e3 : cur3.toList.take (n * z) = (cur3.toList.take ((n + k) * z)).take (n * z) := by
            rw [List.take_take, Nat.min_eq_left (Nat.mul_le_mul_right _ (by omega))]
          rw [e3, ht3, ← h1, List.take_left]
/-- the state while one list grows -/
structure GLk (E z : Nat) (S' : Nat → Prop) (B : Nat) (W1 Y : World) (v l : Value) (n k : Nat) (xs ys : List Value) : Prop where
  fr : Fr S' W1 Y
  ol : Y.ownsRow B E z l (n + k) (xs ++ ys)
  ov : Y.ownsRow B E z v n xs
  blk : ∀ b, l.ownBlock = some b → v.ownBlock = some b ∨ W1.heap.size ≤ b
section
variable {E z : Nat}
theorem GLk.keep {S' : Nat → Prop} {B : Nat} {W1 Y Y' : World} {v l : Value} {n k : Nat} {xs ys : List Value} (h : GLk E z S' B W1 Y v l n k xs ys) (hb : Bl Y Y') : GLk E z S' B W1 Y' v l n k xs ys := ⟨h.fr.bl hb, ownsRow_bl h.ol hb, ownsRow_bl h.ov hb, h.blk⟩
theorem GLk.step {S' : Nat → Prop} {B : Nat} {W1 Y Y' : World} {v l l' : Value} {n k p : Nat} {xs ys zs : List Value} (h : GLk E z S' B W1 Y v l n k xs ys) (hS : ∀ b, v.ownBlock = some b → S' b) (hown : Y'.ownsRow B E z l' (n + k + p) ((xs ++ ys) ++ zs))
    (hg : Y.grownBy Y' l.ownBlock) (hl : Y'.ownsRow B E z l (n + k) (xs ++ ys)) (hb : ∀ b, l'.ownBlock = some b → l.ownBlock = some b ∨ Y.heap.size ≤ b) : GLk E z S' B W1 Y' v l' n (k + p) xs (ys ++ zs) := by
  refine ⟨?_, ?_, own_pre h.ov h.ol hg hl, fun b e => ?_⟩
  · refine ⟨hg.os.trans h.fr.os, hg.tape.trans h.fr.tape, hg.output.trans h.fr.output, Nat.le_trans h.fr.size hg.size, fun k hk hs => ?_⟩
    rw [hg.block k (Nat.lt_of_lt_of_le hk h.fr.size) (fun e => ?_), h.fr.block k hk hs]
    rcases h.blk k e.symm with q | q
    · exact hs (hS k q)
    · omega
  · rw [← List.append_assoc, ← Nat.add_assoc]
    exact hown
  · rcases hb b e with q | q
    · exact h.blk b q
    · exact .inr (Nat.le_trans h.fr.size q)
end
/-- the blocks of n values -/
def SBk (n : Nat) (vs : Nat → Value) (b : Nat) : Prop := ∃ j, j < n ∧ (vs j).ownBlock = some b
/-- the state of a kind's grow ahead of the k-th list -/
structure GRk (E L : Nat) (m : MK) (B n : Nat) (vs : Nat → Value) (ms : Nat → Nat) (w W : World) (k : Nat) (out : Value) (gs : Nat → Value) : Prop where
  fr : Fr (SBk n vs) w W
  row : W.ownsRow w.heap.size L 1 out k ((List.range k).map gs)
  ogs : ∀ j, j < k → W.ownsRow B E m.z (gs j) (ms j + 72) (m.row j 0 (ms j + 72))
  ovs : ∀ j, j < n → W.ownsRow B E m.z (vs j) (ms j) (m.row j 0 (ms j))
  apg : ∀ j, j < k → ∀ b, (gs j).ownBlock = some b → (vs j).ownBlock = some b ∨ (w.heap.size ≤ b ∧ out.ownBlock ≠ some b)
structure GMk (E L : Nat) (m : MK) (B n : Nat) (vs : Nat → Value) (ms : Nat → Nat) (w W : World) (k : Nat) (out : Value) (gs : Nat → Value) (l : Value) : Prop where
  r : GRk E L m B n vs ms w W k out gs
  ol : W.ownsRow B E m.z l (ms k + 72) (m.row k 0 (ms k + 72))
  bl : ∀ b, l.ownBlock = some b → (vs k).ownBlock = some b ∨ (w.heap.size ≤ b ∧ out.ownBlock ≠ some b)
section
variable {E L : Nat} {m : MK}
theorem GRk.keep {B n : Nat} {vs : Nat → Value} {ms : Nat → Nat} {w W W' : World} {k : Nat} {out : Value} {gs : Nat → Value} (h : GRk E L m B n vs ms w W k out gs) (hb : Bl W W') : GRk E L m B n vs ms w W' k out gs :=
  ⟨h.fr.bl hb, ownsRow_bl h.row hb, fun j hj => ownsRow_bl (h.ogs j hj) hb, fun j hj => ownsRow_bl (h.ovs j hj) hb, h.apg⟩
theorem GMk.keep {B n : Nat} {vs : Nat → Value} {ms : Nat → Nat} {w W W' : World} {k : Nat} {out : Value} {gs : Nat → Value} {l : Value} (h : GMk E L m B n vs ms w W k out gs l) (hb : Bl W W') : GMk E L m B n vs ms w W' k out gs l :=
  ⟨h.r.keep hb, ownsRow_bl h.ol hb, h.bl⟩
theorem GRk.grown {B n : Nat} {vs : Nat → Value} {ms : Nat → Nat} {w W Y : World} {k : Nat} {out : Value} {gs : Nat → Value} {l : Value} (h : GRk E L m B n vs ms w W k out gs) (hk : k < n)
    (hap : ∀ i j, i < n → j < n → i ≠ j → (vs i).ownBlock = none ∨ (vs i).ownBlock ≠ (vs j).ownBlock) (hlt : ∀ b, SBk n vs b → b < w.heap.size)
    (hl : GLk E m.z (fun b => (vs k).ownBlock = some b) B W Y (vs k) l (ms k) 72 (m.row k 0 (ms k)) (m.row k (ms k) 72)) (hkn : k ≤ n) : GMk E L m B n vs ms w Y k out gs l := by
  have hvk : ∀ b, (vs k).ownBlock = some b → b < w.heap.size := fun b e => hlt b ⟨k, hk, e⟩
  have hout : ∀ b, out.ownBlock = some b → w.heap.size ≤ b ∧ b < W.heap.size := World.ownsRow.lt h.row
  have hne : ∀ j, j < n → j ≠ k → ∀ b, (vs j).ownBlock = some b → ¬ (vs k).ownBlock = some b := fun j hj e b e1 e2 => by
    rcases hap j k hj hk e with q | q
    · rw [q] at e1; cases e1
    · exact q (e1.trans e2.symm)
  refine ⟨⟨?_, ?_, fun j hj => ?_, fun j hj => ?_, h.apg⟩, ?_, fun b e => ?_⟩
  · refine h.fr.trans ⟨hl.fr.os, hl.fr.tape, hl.fr.output, hl.fr.size, fun b hb hs => hl.fr.block b hb (fun e => hs ⟨k, hk, e⟩)⟩
  · exact hl.fr.own h.row (fun b e e2 => by have := hvk b e2; have := (hout b e).1; omega)
  · exact hl.fr.own (h.ogs j hj) (fun b e e2 => by
      rcases h.apg j hj b e with q | q
      · exact hne j (by omega) (by omega) b q e2
      · have := hvk b e2; omega)
  · by_cases e : j = k
    · subst e; exact hl.ov
    · exact hl.fr.own (h.ovs j hj) (fun b e1 e2 => hne j hj e b e1 e2)
  · have := hl.ol
    rw [show m.row k (ms k) 72 = m.row k (0 + ms k) 72 by rw [Nat.zero_add], m.row_add] at this
    exact this
  · rcases hl.blk b e with q | q
    · exact .inl q
    · exact .inr ⟨Nat.le_trans h.fr.size q, fun e2 => by have := (hout b e2).2; omega⟩
theorem GMk.step {B n : Nat} {vs : Nat → Value} {ms : Nat → Nat} {w W W' : World} {k : Nat} {out out' : Value} {gs : Nat → Value} {l : Value} (h : GMk E L m B n vs ms w W k out gs l) (hk : k < n)
    (hlt : ∀ b, SBk n vs b → b < w.heap.size) (ho : W'.ownsRow w.heap.size L 1 out' (k + 1) ((List.range k).map gs ++ [l])) (hg : W.grownBy W' out.ownBlock)
    (hb : ∀ b, out'.ownBlock = some b → out.ownBlock = some b ∨ W.heap.size ≤ b) : GRk E L m B n vs ms w W' (k + 1) out' (fun j => if j = k then l else gs j) := by
  have hout : ∀ b, out.ownBlock = some b → w.heap.size ≤ b ∧ b < W.heap.size := World.ownsRow.lt h.r.row
  have hvo : ∀ j, j < n → (vs j).ownBlock = none ∨ (vs j).ownBlock ≠ out.ownBlock := fun j hj => by
    cases e : (vs j).ownBlock with
    | none => exact .inl rfl
    | some b => exact .inr (fun e2 => by have := hlt b ⟨j, hj, e⟩; have := (hout b e2.symm).1; omega)
  have hgo : ∀ j, j < k → (gs j).ownBlock = none ∨ (gs j).ownBlock ≠ out.ownBlock := fun j hj => by
    cases e : (gs j).ownBlock with
    | none => exact .inl rfl
    | some b =>
      refine .inr (fun e2 => ?_)
      rcases h.r.apg j hj b e with q | q
      · have := hlt b ⟨j, by omega, q⟩; have := (hout b e2.symm).1; omega
      · exact q.2 e2.symm
  have hlo : l.ownBlock = none ∨ l.ownBlock ≠ out.ownBlock := by
    cases e : l.ownBlock with
    | none => exact .inl rfl
    | some b =>
      refine .inr (fun e2 => ?_)
      rcases h.bl b e with q | q
      · have := hlt b ⟨k, hk, q⟩; have := (hout b e2.symm).1; omega
      · exact q.2 e2.symm
  refine ⟨⟨hg.os.trans h.r.fr.os, hg.tape.trans h.r.fr.tape, hg.output.trans h.r.fr.output, Nat.le_trans h.r.fr.size hg.size, fun b hb hs => ?_⟩, ?_, fun j hj => ?_, fun j hj => World.ownsRow.kept (h.r.ovs j hj) hg (hvo j hj), fun j hj b e => ?_⟩
  · rw [hg.block b (Nat.lt_of_lt_of_le hb h.r.fr.size) (fun e => by have := (hout b e.symm).1; omega), h.r.fr.block b hb hs]
  · have e : (List.range (k + 1)).map (fun j => if j = k then l else gs j) = (List.range k).map gs ++ [l] := by
      rw [List.range_succ, List.map_append]
      congr 1
      · exact List.map_congr_left (fun j hj => if_neg (by have := List.mem_range.1 hj; omega))
      · simp
    rw [e]; exact ho
  · by_cases e : j = k
    · subst e; rw [if_pos rfl]; exact World.ownsRow.kept h.ol hg hlo
    · rw [if_neg e]; exact World.ownsRow.kept (h.r.ogs j (by omega)) hg (hgo j (by omega))
  · by_cases e1 : j = k
    · subst e1
      rw [if_pos rfl] at e
      rcases h.bl b e with q | q
      · exact .inl q
      · refine .inr ⟨q.1, fun e2 => ?_⟩
        rcases hb b e2 with q2 | q2
        · exact q.2 q2
        · have := (World.ownsRow.lt h.ol b e).2; omega
    · rw [if_neg e1] at e
      rcases h.r.apg j (by omega) b e with q | q
      · exact .inl q
      · refine .inr ⟨q.1, fun e2 => ?_⟩
        rcases hb b e2 with q2 | q2
        · exact q.2 q2
        · have := (World.ownsRow.lt (h.r.ogs j (by omega)) b e).2; omega
end
end Go.Proofs.YtaelghbjbopilaaGreat
end
