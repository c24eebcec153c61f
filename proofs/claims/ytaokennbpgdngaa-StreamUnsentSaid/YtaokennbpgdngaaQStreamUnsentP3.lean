import Derived.Test.YtaokennbpgdngaaCore25
import Derived.Test.YtaokennbpgdngaaQStreamUnsentP2

/- stream.Unsent. By an AI agent. -/
section
set_option linter.unusedVariables false
set_option linter.unusedSimpArgs false
namespace Go.Proofs.Ytaokennbpgdngaa
open Go.RowKit
attribute [local go_sem] eOp eOper eUpon

theorem offT_any (o num prev : Int) (da : Option Addr) (dn dc : Nat) (aa : Option Addr) (an ac : Nat) (wa : Option Addr) (wn wc : Nat) (t : TxnL) (b : Nat) (self : Int) (w : World) (hc : C1 w b (.int .i64 self)) (hl : t.at_.length = an) (han : an ≤ 140737488351232) :
    Calls Try.prog 37 #[.agg #[.int .i64 o, .int .i64 num, .int .i64 prev, .slice da dn dc, .slice aa an ac, .slice wa wn wc], .pointer (some ⟨b, 0, none⟩)] w fun e w' => e = .returned (.bool (offT self t)) ∧ Bl w w' := by
  have HF : Hid (offT self t = decide (self < 0 ∨ (an : Int) ≤ self)) := Lib.hid (by unfold offT; rw [hl])
  have hsf := store_float
  have hb := (Bl.refl w).alloc (.cells [Value.int .i64 o, .int .i64 num, .int .i64 prev, .slice da dn dc, .slice aa an ac, .slice wa wn wc].toArray 29)
  have hg := AC.new w _ rfl [.int .i64 o, .int .i64 num, .int .i64 prev, .slice da dn dc, .slice aa an ac, .slice wa wn wc] 29
  have c4 := hg.cell 4 _ rfl
  have cs := (hc.keep hb).cell
  have HB := Lib.hid hb
  clear hc hl hg hb
  by_cases h1 : self < 0
  · have d1 : decide (self < 0) = true := decide_eq_true h1
    go_enter Try.func37, Try.ntmps37
    go_wp2_with fail
    go_ret
    exact ⟨ret_bool (by rw [HF.out]; exact (decide_eq_true (.inl h1)).symm), HB.out⟩
  · have d1 : decide (self < 0) = false := decide_eq_false h1
    go_enter Try.func37, Try.ntmps37
    go_wp2_with fail
    go_ret
    exact ⟨ret_bool (by rw [HF.out, decide_eq_decide]; omega), HB.out⟩
set_option maxHeartbeats 1600000 in
set_option maxRecDepth 100000 in
theorem indexOff_any (ta : Option Addr) (tn tc : Nat) (ts : List TxnL) (f : Nat → TxAt) (b : Nat) (self : Int) (w : World) (hc : C1 w b (.int .i64 self)) (h : TS w ta tn ts f) :
    Calls Try.prog 72 #[.slice ta tn tc, .func (.func 37) #[] #[.pointer (some ⟨b, 0, none⟩)]] w fun e w' => ∃ k : Int, e = .returned (.int .i64 k) ∧ (k ≥ 0 ↔ ts.any (offT self) = true) ∧ Bl w w' := by
  have hcap := h.cap
  have HP := Lib.hid h
  have HL := Lib.hid h.len
  have HC := Lib.hid hc
  clear h hc
  go_enter Try.func72, Try.ntmps72
  go_wp2_with fail
  go_loopw [8] (fun i wr => ∃ k : Nat, k ≤ tn ∧ i = .int .i64 k ∧ Bl w wr ∧ ∀ j, j < k → offT self (nthT ts j) = false) (fun i _ => tn - (intOf i).toNat)
  case atStart => exact ⟨0, Nat.zero_le _, rfl, Bl.refl _, fun j hj => absurd hj (Nat.not_lt_zero _)⟩
  case round =>
    obtain ⟨k, hk, rfl, hbl, hok⟩ := hrel
    have HBL := Lib.hid hbl
    have HOK := Lib.hid hok
    clear hbl hok
    by_cases hlt : k < tn
    · have hkl : k < ts.length := by rw [HL.out]; exact hlt
      obtain ⟨ba, oa, rfl, _⟩ := HP.out.cells k hlt
      obtain ⟨c0, c1, c2, c3, c4, c5⟩ := HP.out.get HBL.out hlt
      have HAL := Lib.hid (HP.out.tx k hlt).at_.len
      have hac := (HP.out.tx k hlt).at_.cap
      obtain ⟨t, ht⟩ : ∃ t, nthT ts k = t := ⟨_, rfl⟩
      obtain ⟨s, hs⟩ : ∃ s, f k = s := ⟨_, rfl⟩
      rw [ht] at c0 c1 c2 HAL
      rw [hs] at c3 c4 c5 HAL hac
      have HT := Lib.hid ht
      clear ht hs
      obtain ⟨da, dn, dc, aa, an, ac, wa, wn, wc⟩ := s
      dsimp only at c3 c4 c5 HAL hac
      go_wp2_with fail
      refine (offT_any t.o t.num t.prev da dn dc aa an ac wa wn wc t b self _ (HC.out.keep HBL.out) HAL.out (by omega)).mono ?_
      rintro e w1 ⟨rfl, hb1⟩
      have HB1 := Lib.hid (HBL.out.trans hb1)
      clear c0 c1 c2 c3 c4 c5 hb1
      cases hof : offT self t
      · have HF := Lib.hid hof
        clear hof
        go_wp2_with fail
        go_roundw
        case rel => exact ⟨k + 1, by omega, by go_num, HB1.out, fun j hj => by
            by_cases e : j = k
            · subst e; rw [HT.out]; exact HF.out
            · exact HOK.out j (by omega)⟩
        case measure => simp [intOf]; omega
      · have HF := Lib.hid hof
        clear hof
        go_wp2_with fail
        go_ret
        refine ⟨(k : Int), rfl, ⟨fun _ => ?_, fun _ => by omega⟩, HB1.out⟩
        rw [List.any_eq_true]
        exact ⟨t, by rw [← HT.out]; exact nthT_mem hkl, HF.out⟩
    · have hkn : k = tn := by omega
      subst hkn
      go_wp2_with fail
      go_ret
      refine ⟨-1, rfl, ⟨fun h => by omega, fun h => ?_⟩, HBL.out⟩
      obtain ⟨t, ht, hof⟩ := List.any_eq_true.1 h
      obtain ⟨j, hj, rfl⟩ := List.getElem_of_mem ht
      have := HOK.out j (by rw [← HL.out]; exact hj)
      rw [nthT_eq hj, hof] at this
      cases this
theorem containsOff_any (ta : Option Addr) (tn tc : Nat) (ts : List TxnL) (f : Nat → TxAt) (b : Nat) (self : Int) (w : World) (hc : C1 w b (.int .i64 self)) (h : TS w ta tn ts f) :
    Calls Try.prog 36 #[.slice ta tn tc, .func (.func 37) #[] #[.pointer (some ⟨b, 0, none⟩)]] w fun e w' => e = .returned (.bool (ts.any (offT self))) ∧ Bl w w' := by
  go_enter Try.func36, Try.ntmps36
  go_wp2_with fail
  refine (indexOff_any ta tn tc ts f b self _ hc h).mono ?_
  rintro e w' ⟨k, rfl, hk, hb⟩
  have HK := Lib.hid hk
  clear hk
  go_wp2_with fail
  go_ret
  refine ⟨ret_bool ?_, hb⟩
  have := HK.out
  cases hq : ts.any (offT self)
  · rw [hq] at this; simp at this ⊢; omega
  · rw [hq] at this; simp at this ⊢; omega

/-! ### the transactions that are handed out -/
theorem IA.grown {w w' : World} {a : Option Addr} {n : Nat} {xs : List Int} {row : Option Nat} (h : IA w a n xs) (hg : w.grownBy w' row) (hn : ∀ b off, a = some ⟨b, off, none⟩ → n = 0 ∨ some b ≠ row) : IA w' a n xs := by
  refine ⟨h.len, h.cap, fun i hi => ?_, h.wf⟩
  obtain ⟨b, off, e, hc⟩ := h.cells i hi
  refine ⟨b, off, e, fun i hi => ?_⟩
  have hb : some b ≠ row := (hn b off e).resolve_left (by omega)
  rw [← hc i hi]
  exact World.cell?_of_block (hg.block b (World.block_lt_of_cell? _ _ (hc i hi)) hb)
theorem WW.grown {w w' : World} {a : Option Addr} {n : Nat} {ws : List (ByteArray × ActL)} {row : Option Nat} (h : WW w a n ws) (hg : w.grownBy w' row) (hn : ∀ b off, a = some ⟨b, off, none⟩ → n = 0 ∨ some b ≠ row) : WW w' a n ws := by
  refine ⟨h.len, h.cap, fun i hi => ?_, h.ok⟩
  obtain ⟨b, off, e, hc⟩ := h.cells i hi
  refine ⟨b, off, e, fun i hi => ?_⟩
  have hb : some b ≠ row := (hn b off e).resolve_left (by omega)
  have key : ∀ k v, w.cell? ⟨b, k, none⟩ = some v → w'.cell? ⟨b, k, none⟩ = some v := fun k v hv => by
    rw [← hv]
    exact World.cell?_of_block (hg.block b (World.block_lt_of_cell? _ _ hv) hb)
  have c := hc i hi
  exact ⟨key _ _ c.c0, key _ _ c.c1, key _ _ c.c2, key _ _ c.c3, key _ _ c.c4⟩
/-- a list's block is none of the row's, and there already -/
def Off (W : World) (a : Option Addr) (n : Nat) (row : Option Nat) : Prop := ∀ b off, a = some ⟨b, off, none⟩ → n = 0 ∨ (some b ≠ row ∧ b < W.heap.size)
theorem Off.keep {W W' : World} {a : Option Addr} {n : Nat} {row : Option Nat} (h : Off W a n row) (hs : W.heap.size ≤ W'.heap.size) : Off W' a n row := fun b off e => (h b off e).imp_right fun q => ⟨q.1, Nat.lt_of_lt_of_le q.2 hs⟩
/-- what is handed out so far: own cells, own lists -/
structure OT (B : Nat) (W : World) (v : Value) (ts : List TxnL) (f : Nat → TxAt) : Prop where
  row : W.ownsRow B 29 6 v ts.length ((List.range ts.length).flatMap fun j => txCs (nthT ts j) (f j))
  tx : ∀ j, j < ts.length → TX W (f j) (nthT ts j)
  off : ∀ j, j < ts.length → Off W (f j).da (f j).dn v.ownBlock ∧ Off W (f j).aa (f j).an v.ownBlock ∧ Off W (f j).wa (f j).wn v.ownBlock
theorem OT.nil (B : Nat) (W : World) (f : Nat → TxAt) : OT B W (.slice none 0 0) [] f := ⟨World.ownsRow_nil _ _ _ _, fun j hj => absurd hj (Nat.not_lt_zero _), fun j hj => absurd hj (Nat.not_lt_zero _)⟩
theorem OT.keep {B : Nat} {W W' : World} {v : Value} {ts : List TxnL} {f : Nat → TxAt} (h : OT B W v ts f) (hb : Bl W W') : OT B W' v ts f :=
  ⟨ownsRow_bl h.row hb, fun j hj => (h.tx j hj).keep hb, fun j hj => ⟨(h.off j hj).1.keep hb.size, (h.off j hj).2.1.keep hb.size, (h.off j hj).2.2.keep hb.size⟩⟩
theorem el_tx : EL 22 29 6 96 := el_of Try.underlying22 (by kernel_rfl) (by decide)
theorem nthT_app {ts : List TxnL} {t : TxnL} {j : Nat} (hj : j < ts.length) : nthT (ts ++ [t]) j = nthT ts j := by
  rw [nthT_eq (by simp; omega), nthT_eq hj, List.getElem_append_left hj]
theorem nthT_last (ts : List TxnL) (t : TxnL) : nthT (ts ++ [t]) ts.length = t := by
  rw [nthT_eq (by simp)]; simp
/-- one more is handed out -/
theorem OT.app {B : Nat} {W W' : World} {v v' : Value} {ts : List TxnL} {f : Nat → TxAt} {t : TxnL} {s : TxAt} (h : OT B W v ts f) (hB : B ≤ W.heap.size) (ht : TX W s t)
    (hof : ∀ b off, (s.da = some ⟨b, off, none⟩ → s.dn = 0 ∨ (v.ownBlock ≠ some b ∧ b < W.heap.size)) ∧ (s.aa = some ⟨b, off, none⟩ → s.an = 0 ∨ (v.ownBlock ≠ some b ∧ b < W.heap.size)) ∧ (s.wa = some ⟨b, off, none⟩ → s.wn = 0 ∨ (v.ownBlock ≠ some b ∧ b < W.heap.size)))
    (ho : W'.ownsRow B 29 6 v' (ts.length + 1) (((List.range ts.length).flatMap fun j => txCs (nthT ts j) (f j)) ++ txCs t s)) (hg : W.grownBy W' v.ownBlock) (hb : ∀ b, v'.ownBlock = some b → v.ownBlock = some b ∨ W.heap.size ≤ b) :
    OT B W' v' (ts ++ [t]) (fun j => if j = ts.length then s else f j) := by
  have hs := hg.size
  have off2 : ∀ {a : Option Addr} {n : Nat}, (∀ b off, a = some ⟨b, off, none⟩ → n = 0 ∨ (some b ≠ v.ownBlock ∧ b < W.heap.size)) → Off W' a n v'.ownBlock := fun {a n} q b off e => by
    rcases q b off e with q | ⟨q1, q2⟩
    · exact .inl q
    · refine .inr ⟨fun e2 => ?_, by omega⟩
      rcases hb b e2.symm with r | r
      · exact q1 r.symm
      · omega
  have keepT : ∀ {s : TxAt} {t : TxnL}, TX W s t → (Off W s.da s.dn v.ownBlock ∧ Off W s.aa s.an v.ownBlock ∧ Off W s.wa s.wn v.ownBlock) → TX W' s t := fun {s t} q o =>
    ⟨q.deps.grown hg (fun b off e => (o.1 b off e).imp_right (·.1)), q.at_.grown hg (fun b off e => (o.2.1 b off e).imp_right (·.1)), q.ws.grown hg (fun b off e => (o.2.2 b off e).imp_right (·.1)), q.o, q.num, q.prev⟩
  have hoff : Off W s.da s.dn v.ownBlock ∧ Off W s.aa s.an v.ownBlock ∧ Off W s.wa s.wn v.ownBlock :=
    ⟨fun b off e => ((hof b off).1 e).imp_right fun q => ⟨Ne.symm q.1, q.2⟩, fun b off e => ((hof b off).2.1 e).imp_right fun q => ⟨Ne.symm q.1, q.2⟩, fun b off e => ((hof b off).2.2 e).imp_right fun q => ⟨Ne.symm q.1, q.2⟩⟩
  refine ⟨?_, fun j hj => ?_, fun j hj => ?_⟩
  · rw [List.length_append, List.length_singleton, List.range_succ, List.flatMap_append]
    have e1 : ((List.range ts.length).flatMap fun j => txCs (nthT (ts ++ [t]) j) (if j = ts.length then s else f j)) = (List.range ts.length).flatMap fun j => txCs (nthT ts j) (f j) := by
      rw [List.flatMap_def, List.flatMap_def]
      congr 1
      refine List.map_congr_left (fun j hj => ?_)
      have hj := List.mem_range.1 hj
      rw [nthT_app hj, if_neg (by omega)]
    rw [e1]
    have e2 : ([ts.length].flatMap fun j => txCs (nthT (ts ++ [t]) j) (if j = ts.length then s else f j)) = txCs t s := by
      rw [List.flatMap_cons, List.flatMap_nil, List.append_nil, nthT_last, if_pos rfl]
    rw [e2]
    exact ho
  · rw [List.length_append, List.length_singleton] at hj
    by_cases e : j = ts.length
    · subst e
      rw [nthT_last, if_pos rfl]
      exact keepT ht hoff
    · rw [nthT_app (by omega), if_neg e]
      exact keepT (h.tx j (by omega)) (h.off j (by omega))
  · rw [List.length_append, List.length_singleton] at hj
    by_cases e : j = ts.length
    · subst e
      rw [if_pos rfl]
      exact ⟨off2 hoff.1, off2 hoff.2.1, off2 hoff.2.2⟩
    · rw [if_neg e]
      have o := h.off j (by omega)
      exact ⟨off2 o.1, off2 o.2.1, off2 o.2.2⟩
theorem txrow_get (ts : List TxnL) (f : Nat → TxAt) : ∀ (n j r : Nat), j < n → r < 6 → ((List.range n).flatMap fun j => txCs (nthT ts j) (f j))[j * 6 + r]? = (txCs (nthT ts j) (f j))[r]? := by
  intro n
  induction n with
  | zero => intro j r hj; omega
  | succ n ih =>
    intro j r hj hr
    have hl : ((List.range n).flatMap fun j => txCs (nthT ts j) (f j)).length = n * 6 := by
      clear ih hj
      induction n with
      | zero => rfl
      | succ n ih =>
        rw [List.range_succ, List.flatMap_append, List.length_append, ih]
        show n * 6 + 6 = _
        omega
    rw [List.range_succ, List.flatMap_append]
    by_cases e : j = n
    · subst e
      rw [List.getElem?_append_right (by rw [hl]; omega), hl, show j * 6 + r - j * 6 = r by omega, List.flatMap_cons, List.flatMap_nil, List.append_nil]
    · rw [List.getElem?_append_left (by rw [hl]; omega)]
      exact ih j r (by omega) hr
/-- it reads as these transactions -/
theorem OT.ts {B : Nat} {W : World} {v : Value} {ts : List TxnL} {f : Nat → TxAt} (h : OT B W v ts f) (hn : ts.length * 96 ≤ 140737488351232) : ∃ a c, v = .slice a ts.length c ∧ TS W a ts.length ts f := by
  have hrow := h.row
  obtain ⟨h1, ⟨rfl, h2⟩ | ⟨g, cap, cur, rfl, hB, hg, r⟩⟩ := hrow
  · have : ts = [] := List.eq_nil_of_length_eq_zero h2
    subst this
    exact ⟨none, 0, rfl, TS.nil _ _ _⟩
  · refine ⟨_, _, rfl, rfl, by omega, fun j0 _ => ⟨g, 0, rfl, fun j hj => ?_⟩, h.tx⟩
    have hown := h.row
    have key : ∀ r, r < 6 → W.cell? ⟨g, 0 + j * 6 + r, none⟩ = (txCs (nthT ts j) (f j))[r]? := fun r hr => by
      rw [show 0 + j * 6 + r = j * 6 + r by omega, hown.cellAt (j * 6 + r) (by omega), txrow_get ts f _ j r hj hr]
    exact ⟨key 0 (by decide), key 1 (by decide), key 2 (by decide), key 3 (by decide), key 4 (by decide), key 5 (by decide)⟩
theorem FI.at {B : Nat} {w : World} {a : Option Addr} {n c : Nat} {xs : List Int} (h : FI B w (.slice a n c) xs) : IA w a n xs ∧ ∀ b off, a = some ⟨b, off, none⟩ → n = 0 ∨ (B ≤ b ∧ b < w.heap.size) := by
  obtain ⟨a', n', c', e, hI⟩ := h.si
  simp only [Value.slice.injEq] at e
  obtain ⟨rfl, rfl, rfl⟩ := e
  refine ⟨hI, fun b off e => ?_⟩
  subst e
  exact .inr (World.ownsRow.lt h.own b rfl)
theorem OWR.at {B : Nat} {w : World} {a : Option Addr} {n c : Nat} {ws : List (ByteArray × ActL)} (h : OWR B w (.slice a n c) n ws) (hn : n ≤ 1000000) (ok : ∀ p ∈ ws, WrOk p) : WW w a n ws ∧ ∀ b off, a = some ⟨b, off, none⟩ → n = 0 ∨ (B ≤ b ∧ b < w.heap.size) := by
  refine ⟨(OWR.far h hn).1.ww ok, fun b off e => ?_⟩
  subst e
  exact .inr (World.ownsRow.lt h.2 b rfl)
end Go.Proofs.Ytaokennbpgdngaa
end

/- stream.Unsent: the walk. By an AI agent. -/
section
set_option linter.unusedVariables false
set_option linter.unusedSimpArgs false
namespace Go.Proofs.Ytaokennbpgdngaa
open Go.RowKit
attribute [local go_sem] eOp eOper eUpon

def accL (own : List TxnL) (self : Int) (row : List Int) (most : Int) (k : Nat) : List TxnL := if 0 ≤ most then ((own.take k).filter (newT self row)).take most.toNat else (own.take k).filter (newT self row)
theorem accL_zero (own : List TxnL) (self : Int) (row : List Int) (most : Int) : accL own self row most 0 = [] := by unfold accL; simp
theorem accL_len (own : List TxnL) (self : Int) (row : List Int) (most : Int) (k : Nat) : (accL own self row most k).length ≤ k := by
  have h := List.length_filter_le (newT self row) (own.take k)
  rw [List.length_take] at h
  unfold accL
  split
  · rw [List.length_take]; omega
  · omega
theorem accL_all (own : List TxnL) (self : Int) (row : List Int) (most : Int) (h : own.any (offT self) = false) : accL own self row most own.length = unsentL own self row most := by
  unfold accL unsentL
  rw [h, List.take_length]
  simp
theorem accL_skip {own : List TxnL} {self : Int} {row : List Int} {most : Int} {k : Nat} (hk : k < own.length) (h : newT self row (nthT own k) = false) : accL own self row most (k + 1) = accL own self row most k := by
  unfold accL
  rw [List.take_succ_eq_append_getElem hk, List.filter_append, ← nthT_eq hk]
  simp [h]
theorem accL_put {own : List TxnL} {self : Int} {row : List Int} {most : Int} {k : Nat} (hk : k < own.length) (h : newT self row (nthT own k) = true) (hm : ¬ (0 ≤ most ∧ most ≤ (accL own self row most k).length)) : accL own self row most (k + 1) = accL own self row most k ++ [nthT own k] := by
  have e : (own.take (k + 1)).filter (newT self row) = (own.take k).filter (newT self row) ++ [nthT own k] := by
    rw [List.take_succ_eq_append_getElem hk, List.filter_append, ← nthT_eq hk]
    simp [h]
  unfold accL at hm ⊢
  rw [e]
  clear e
  generalize (own.take k).filter (newT self row) = F at *
  by_cases h0 : 0 ≤ most
  · obtain ⟨m, rfl⟩ := Int.eq_ofNat_of_zero_le h0
    rw [if_pos h0] at hm ⊢
    rw [if_pos h0, Int.toNat_natCast]
    rw [Int.toNat_natCast, List.length_take] at hm
    have hd : F.length < m := by omega
    rw [List.take_of_length_le (l := F) (by omega), List.take_of_length_le (by rw [List.length_append, List.length_singleton]; omega)]
  · rw [if_neg h0, if_neg h0]
theorem accL_full {own : List TxnL} {self : Int} {row : List Int} {most : Int} {k : Nat} (hm : 0 ≤ most ∧ most ≤ (accL own self row most k).length) (h : own.any (offT self) = false) : accL own self row most k = unsentL own self row most := by
  unfold accL at hm ⊢
  unfold unsentL
  rw [if_pos hm.1] at hm ⊢
  rw [h, if_pos hm.1]
  have e : own.filter (newT self row) = (own.take k).filter (newT self row) ++ (own.drop k).filter (newT self row) := by rw [← List.filter_append, List.take_append_drop]
  rw [List.length_take] at hm
  rw [e, List.take_append_of_le_length (by omega)]
  simp
theorem own_less_ot {B B' : Nat} {W : World} {v : Value} {ts : List TxnL} {f : Nat → TxAt} (h : OT B W v ts f) (hb : B' ≤ B) : OT B' W v ts f := ⟨own_less h.row hb, h.tx, h.off⟩
set_option maxHeartbeats 6400000 in
set_option maxRecDepth 100000 in
theorem unsent_any (ta : Option Addr) (tn tc : Nat) (own : List TxnL) (f : Nat → TxAt) (self : Int) (ra : Option Addr) (rn rc : Nat) (row : List Int) (most : Int) (w : World) (h : TS w ta tn own f) (hr : IA w ra rn row) (hws : ∀ j, j < tn → (f j).wn ≤ 1000000) :
    Calls Try.prog 12 #[.slice ta tn tc, .int .i64 self, .slice ra rn rc, .int .i64 most] w fun e w' => ∃ v g, e = .returned v ∧ OT w.heap.size w' v (unsentL own self row most) g ∧ Bl w w' := by
  have hcap := h.cap
  have hrc := hr.cap
  have HP := Lib.hid h
  have HL := Lib.hid h.len
  have HR := Lib.hid hr
  have HRL := Lib.hid hr.len
  have HWS := Lib.hid hws
  have hsf := store_float
  have hb := (Bl.refl w).alloc (.cells #[.int .i64 self] 3)
  have hc := C1.new w w.heap.size rfl (.int .i64 self) 3
  clear h hr hws
  go_enter Try.func12, Try.ntmps12
  go_wp2_with fail
  generalize w.alloc _ = W at *
  refine (containsOff_any ta tn tc own f w.heap.size self _ hc (HP.out.keep hb)).mono ?_
  rintro e W1 ⟨rfl, hb1⟩
  have HB := Lib.hid (hb.trans hb1)
  have HC := Lib.hid (hc.keep hb1)
  clear hb hb1 hc
  cases hof : own.any (offT self)
  case true =>
    have HU : Hid (unsentL own self row most = []) := Lib.hid (by unfold unsentL; rw [hof]; rfl)
    clear hof
    go_wp2_with fail
    go_ret
    exact ⟨_, fun _ => ⟨none, 0, 0, none, 0, 0, none, 0, 0⟩, rfl, by rw [HU.out]; exact OT.nil _ _ _, HB.out⟩
  have HOF := Lib.hid hof
  have HIN : Hid (∀ j, j < own.length → 0 ≤ self ∧ self < (nthT own j).at_.length) := Lib.hid (fun j hj => by
    have h := List.any_eq_false.1 hof (nthT own j) (nthT_mem hj)
    simp only [offT, decide_eq_true_eq] at h
    omega)
  clear hof
  go_wp2_with fail
  go_loopw [9, 17] (fun v i wr => ∃ (k : Nat) (g : Nat → TxAt), k ≤ tn ∧ i = .int .i64 k ∧ Bl W1 wr ∧ OT W1.heap.size wr v (accL own self row most k) g) (fun _ i _ => tn - (intOf i).toNat)
  case atStart => exact ⟨0, fun _ => ⟨none, 0, 0, none, 0, 0, none, 0, 0⟩, Nat.zero_le _, rfl, Bl.refl _, by rw [accL_zero]; exact OT.nil _ _ _⟩
  case round =>
    obtain ⟨k, g, hk, rfl, hbl, hot⟩ := hrel
    have HBL := Lib.hid hbl
    have HOT := Lib.hid hot
    have hal := accL_len own self row most k
    have HB1 := Lib.hid (HB.out.trans hbl)
    obtain ⟨va, vc, hve, _⟩ := hot.ts (by omega)
    subst hve
    clear hbl hot
    by_cases hlt : k < tn
    · have hkl : k < own.length := by rw [HL.out]; exact hlt
      obtain ⟨ba, oa, rfl, _⟩ := HP.out.cells k hlt
      obtain ⟨c0, c1, c2, c3, c4, c5⟩ := HP.out.get HB1.out hlt
      have HT := Lib.hid ((HP.out.tx k hlt).keep HB1.out)
      have hwn := HWS.out k hlt
      have HI := Lib.hid (HIN.out k hkl)
      have HSK := Lib.hid (fun h => accL_skip (most := most) (self := self) (row := row) hkl h)
      have HPU := Lib.hid (fun h hm => accL_put (most := most) (self := self) (row := row) hkl h hm)
      have HFU := Lib.hid (fun hm => accL_full (k := k) (most := most) (row := row) hm HOF.out)
      obtain ⟨acc, hacc⟩ : ∃ a, accL own self row most k = a := ⟨_, rfl⟩
      rw [hacc] at HOT HSK HPU HFU hal
      obtain ⟨t, ht⟩ : ∃ t, nthT own k = t := ⟨_, rfl⟩
      obtain ⟨s, hs⟩ : ∃ s, f k = s := ⟨_, rfl⟩
      rw [ht] at c0 c1 c2 HT HI HSK HPU
      rw [hs] at c3 c4 c5 HT hwn
      rw [hacc]
      clear ht hs hkl hacc
      obtain ⟨o, num, prev, ds, xs, ws⟩ := t
      obtain ⟨da, dn, dc, aa, an, ac, wa, wn, wc⟩ := s
      dsimp only at c0 c1 c2 c3 c4 c5 HI hwn
      obtain ⟨hs0, hs1⟩ := HI.out
      have hgp := AC.new wr _ rfl [.int .i64 o, .int .i64 num, .int .i64 prev, .slice da dn dc, .slice aa an ac, .slice wa wn wc] 29
      have hbp := (Bl.refl wr).alloc (.cells [Value.int .i64 o, .int .i64 num, .int .i64 prev, .slice da dn dc, .slice aa an ac, .slice wa wn wc].toArray 29)
      go_upto_region 7 with fail
      clear c0 c1 c2 c3 c4 c5
      generalize wr.alloc _ = V at *
      have HGP := Lib.hid hgp
      have HBP := Lib.hid hbp
      clear hgp hbp
      generalize wr.heap.size = gp at *
      by_cases hm : 0 ≤ most ∧ most ≤ (acc.length : Int)
      · have HU := Lib.hid (HFU.out hm)
        have d1 : decide (0 ≤ most) = true := decide_eq_true hm.1
        have d2 : decide (most ≤ (acc.length : Int)) = true := decide_eq_true hm.2
        have h1 := hm.1
        have h2 := hm.2
        go_wp2_with fail
        go_ret
        exact ⟨_, g, rfl, by rw [← HU.out]; exact (own_less_ot (HOT.out.keep HBP.out) HB.out.size), HB1.out.trans HBP.out⟩
      · have HNM := Lib.hid hm
        obtain ⟨si, rfl⟩ := Int.eq_ofNat_of_zero_le hs0
        have hsl : si < an := by have := HT.out.at_.len; dsimp only at this; omega
        have HNW : Hid (newT (si : Int) row ⟨o, num, prev, ds, xs, ws⟩ = (decide ((rn : Int) ≤ (si : Int)) || decide (nth row si < nth xs si))) := Lib.hid (by unfold newT; rw [HRL.out, Int.toNat_natCast])
        clear hs0 hs1
        by_cases h0 : 0 ≤ most
        case pos =>
          have d1 : decide (0 ≤ most) = true := decide_eq_true h0
          have d2 : decide (most ≤ (acc.length : Int)) = false := decide_eq_false (fun q => hm ⟨h0, q⟩)
          have h2 : ¬ most ≤ (acc.length : Int) := fun q => hm ⟨h0, q⟩
          clear hm
          go_upto_region 8 with fail
          clear d1 d2 h2 h0
          by_cases hrs : rn ≤ si
          case pos =>
            have HPU2 := Lib.hid (HPU.out (by rw [HNW.out, decide_eq_true (show (rn : Int) ≤ (si : Int) by omega)]; rfl) HNM.out)
            have d3 : decide ((rn : Int) ≤ (si : Int)) = true := decide_eq_true (by omega)
            have d4 : decide (rn ≤ si) = true := decide_eq_true hrs
            refine wp_region_allS (by kernel_rfl) (by kernel_rfl) ?_
            have k4 : ∀ q : Ext V.drew, _ := fun q => (HGP.out.keep ((Bl.refl V).drew.trans q.bl)).cell 4 _ rfl
            have ks : ∀ q : Ext V.drew, _ := fun q => (HC.out.keep (HBL.out.trans (HBP.out.trans ((Bl.refl V).drew.trans q.bl)))).cell
            repeat (refine wpS_step (fun K hK => ?_); go_simp; first | (refine hK _ ?_; clear hK K) | (apply Exists.intro; refine ⟨fun q => ?_, hK _ ?_⟩; (fail); clear hK K))
            refine wpS_nil ?_
            intro q1
            have HBN := Lib.hid (HBP.out.trans ((Bl.refl V).drew.trans q1.bl))
            have HGN := Lib.hid (HGP.out.keep ((Bl.refl V).drew.trans q1.bl))
            clear k4 ks
            generalize ExtC.at q1 = Y at *
            have k0 := HGN.out.cell 0 _ rfl
            have k1 := HGN.out.cell 1 _ rfl
            have k2 := HGN.out.cell 2 _ rfl
            have k3 := HGN.out.cell 3 _ rfl
            have k4 := HGN.out.cell 4 _ rfl
            have k5 := HGN.out.cell 5 _ rfl
            go_wp2_with fail
            refine (copied_any o num prev da dn dc ds aa an ac xs wa wn wc ws _ (HT.out.deps.keep HBN.out) (HT.out.at_.keep HBN.out) (HT.out.ws.keep HBN.out) hwn).mono ?_
            rintro e X1 ⟨dv, av, wv, rfl, hcop⟩
            obtain ⟨da2, dn2, dc2, hdv, _⟩ := hcop.d.si
            subst hdv
            obtain ⟨aa2, an2, ac2, hav, _⟩ := hcop.a.si
            subst hav
            obtain ⟨wa2, wc2, hwv⟩ := OWR.form hcop.ow
            subst hwv
            have hwl : ws.length = wn := HT.out.ws.len
            dsimp only at hcop
            rw [hwl] at hcop
            have hD := FI.at hcop.d
            have hA := FI.at hcop.a
            have hWr := OWR.at (by have := hcop.ow; dsimp only at this; rw [hwl] at this; exact this) hwn HT.out.ws.ok
            have HX1 := Lib.hid (HBN.out.trans hcop.bl)
            have hrl : ∀ b, (Value.slice va acc.length vc).ownBlock = some b → b < Y.heap.size := fun b e => (World.ownsRow.lt (HOT.out.keep HBN.out).row b e).2
            have HTX : Hid (TX X1 ⟨da2, dn2, dc2, aa2, an2, ac2, wa2, wn, wc2⟩ ⟨o, num, prev, ds, xs, ws⟩) := Lib.hid ⟨hD.1, hA.1, hWr.1, HT.out.o, HT.out.num, HT.out.prev⟩
            have HOFF : Hid (∀ b off, (da2 = some ⟨b, off, none⟩ → dn2 = 0 ∨ ((Value.slice va acc.length vc).ownBlock ≠ some b ∧ b < X1.heap.size)) ∧ (aa2 = some ⟨b, off, none⟩ → an2 = 0 ∨ ((Value.slice va acc.length vc).ownBlock ≠ some b ∧ b < X1.heap.size)) ∧ (wa2 = some ⟨b, off, none⟩ → wn = 0 ∨ ((Value.slice va acc.length vc).ownBlock ≠ some b ∧ b < X1.heap.size))) := Lib.hid (fun b off =>
              ⟨fun e => (hD.2 b off e).imp_right fun q => ⟨fun e2 => by have := hrl b e2; omega, q.2⟩, fun e => (hA.2 b off e).imp_right fun q => ⟨fun e2 => by have := hrl b e2; omega, q.2⟩, fun e => (hWr.2 b off e).imp_right fun q => ⟨fun e2 => by have := hrl b e2; omega, q.2⟩⟩)
            clear hcop hD hA hWr hrl k0 k1 k2 k3 k4 k5
            have hlit : (X1.alloc (.cells #[.int .i64 o, .int .i64 num, .int .i64 prev, .slice da2 dn2 dc2, .slice aa2 an2 ac2, .slice wa2 wn wc2] 29)).heap[X1.heap.size]? = some (.cells (txCs ⟨o, num, prev, ds, xs, ws⟩ ⟨da2, dn2, dc2, aa2, an2, ac2, wa2, wn, wc2⟩).toArray 29 (0, 0)) := heap_alloc_new X1 _
            have HLT := Lib.hid (SG.lit (size := 6) hlit rfl (by intro u hu; simp [txCs] at hu; rcases hu with rfl | rfl | rfl | rfl | rfl | rfl <;> rfl))
            have HBA := Lib.hid ((Bl.refl X1).alloc (.cells #[.int .i64 o, .int .i64 num, .int .i64 prev, .slice da2 dn2 dc2, .slice aa2 an2 ac2, .slice wa2 wn wc2] 29))
            have HOA := Lib.hid (HOT.out.keep (HX1.out.trans HBA.out))
            have hoa := HOA.out.row
            have hW1 := (HBL.out.trans (HX1.out.trans HBA.out)).size
            clear hlit
            go_wp2_with (at_builtin; refine wpList_appK rfl _ _ _ rfl el_tx W1.heap.size _ _ _ rfl hoa ?cB (some ⟨X1.heap.size, 0, none⟩) 1 1 _ rfl HLT.out ?cM ?cN ?_)
            case cB => exact hW1
            case cM => unfold maxLen; omega
            case cN => omega
            intro v' X2 ho hgr _ hbb
            have HOT2 := Lib.hid (HOA.out.app hW1 (HTX.out.keep HBA.out) (fun b off => ⟨fun e => ((HOFF.out b off).1 e).imp_right fun q => ⟨q.1, Nat.lt_of_lt_of_le q.2 HBA.out.size⟩, fun e => ((HOFF.out b off).2.1 e).imp_right fun q => ⟨q.1, Nat.lt_of_lt_of_le q.2 HBA.out.size⟩, fun e => ((HOFF.out b off).2.2 e).imp_right fun q => ⟨q.1, Nat.lt_of_lt_of_le q.2 HBA.out.size⟩⟩) ho hgr (fun b e => (hbb b e).imp_right (fun q => by simp; omega)))
            have HBX : Hid (Bl W1 X2) := Lib.hid ((HBL.out.trans (HX1.out.trans HBA.out)).ownRow HOA.out.row (Nat.le_refl _) hgr)
            clear ho hgr hbb hoa hW1 HLT HTX HOFF HOA
            go_wp2_with fail
            go_roundw
            case rel => exact ⟨k + 1, _, by omega, by go_num, HBX.out, by rw [HPU2.out]; exact HOT2.out⟩
            case measure => simp [intOf]; omega
          case neg =>
            have d3 : decide ((rn : Int) ≤ (si : Int)) = false := decide_eq_false (by omega)
            have d4 : decide (rn ≤ si) = false := decide_eq_false hrs
            have hsr : si < rn := by omega
            obtain ⟨bx, ox, hax, hcx⟩ := HT.out.at_.cells si hsl
            dsimp only at hax
            subst hax
            obtain ⟨br, orr, hra, hcr⟩ := HR.out.cells si hsr
            subst hra
            have HCX := Lib.hid (hcx si hsl)
            have HCR := Lib.hid (hcr si hsr)
            dsimp only at HCX
            have hi1 : decide (si < an) = true := decide_eq_true hsl
            have hi2 : decide (si < rn) = true := decide_eq_true hsr
            generalize nth xs si = mx at *
            generalize nth row si = mr at *
            clear hcx hcr
            by_cases hgt : mr < mx
            case pos =>
              have HPU2 := Lib.hid (HPU.out (by rw [HNW.out, decide_eq_true hgt, Bool.or_true]) HNM.out)
              have d5 : decide (mr < mx) = true := decide_eq_true hgt
              refine wp_region_allS (by kernel_rfl) (by kernel_rfl) ?_
              have k4 : ∀ q : Ext V.drew, _ := fun q => (HGP.out.keep ((Bl.refl V).drew.trans q.bl)).cell 4 _ rfl
              have ks : ∀ q : Ext V.drew, _ := fun q => (HC.out.keep (HBL.out.trans (HBP.out.trans ((Bl.refl V).drew.trans q.bl)))).cell
              have kx : ∀ q : Ext V.drew, _ := fun q => (HBP.out.trans ((Bl.refl V).drew.trans q.bl)).cell HCX.out
              have kr : ∀ q : Ext V.drew, _ := fun q => (HB1.out.trans (HBP.out.trans ((Bl.refl V).drew.trans q.bl))).cell HCR.out
              repeat (refine wpS_step (fun K hK => ?_); go_simp; first | (refine hK _ ?_; clear hK K) | (apply Exists.intro; refine ⟨fun q => ?_, hK _ ?_⟩; (fail); clear hK K))
              refine wpS_nil ?_
              intro q1
              have HBN := Lib.hid (HBP.out.trans ((Bl.refl V).drew.trans q1.bl))
              have HGN := Lib.hid (HGP.out.keep ((Bl.refl V).drew.trans q1.bl))
              clear k4 ks kx kr
              generalize ExtC.at q1 = Y at *
              have k0 := HGN.out.cell 0 _ rfl
              have k1 := HGN.out.cell 1 _ rfl
              have k2 := HGN.out.cell 2 _ rfl
              have k3 := HGN.out.cell 3 _ rfl
              have k4 := HGN.out.cell 4 _ rfl
              have k5 := HGN.out.cell 5 _ rfl
              go_wp2_with fail
              refine (copied_any o num prev da dn dc ds (some ⟨bx, ox, none⟩) an ac xs wa wn wc ws _ (HT.out.deps.keep HBN.out) (HT.out.at_.keep HBN.out) (HT.out.ws.keep HBN.out) hwn).mono ?_
              rintro e X1 ⟨dv, av, wv, rfl, hcop⟩
              obtain ⟨da2, dn2, dc2, hdv, _⟩ := hcop.d.si
              subst hdv
              obtain ⟨aa2, an2, ac2, hav, _⟩ := hcop.a.si
              subst hav
              obtain ⟨wa2, wc2, hwv⟩ := OWR.form hcop.ow
              subst hwv
              have hwl : ws.length = wn := HT.out.ws.len
              dsimp only at hcop
              rw [hwl] at hcop
              have hD := FI.at hcop.d
              have hA := FI.at hcop.a
              have hWr := OWR.at (by have := hcop.ow; dsimp only at this; rw [hwl] at this; exact this) hwn HT.out.ws.ok
              have HX1 := Lib.hid (HBN.out.trans hcop.bl)
              have hrl : ∀ b, (Value.slice va acc.length vc).ownBlock = some b → b < Y.heap.size := fun b e => (World.ownsRow.lt (HOT.out.keep HBN.out).row b e).2
              have HTX : Hid (TX X1 ⟨da2, dn2, dc2, aa2, an2, ac2, wa2, wn, wc2⟩ ⟨o, num, prev, ds, xs, ws⟩) := Lib.hid ⟨hD.1, hA.1, hWr.1, HT.out.o, HT.out.num, HT.out.prev⟩
              have HOFF : Hid (∀ b off, (da2 = some ⟨b, off, none⟩ → dn2 = 0 ∨ ((Value.slice va acc.length vc).ownBlock ≠ some b ∧ b < X1.heap.size)) ∧ (aa2 = some ⟨b, off, none⟩ → an2 = 0 ∨ ((Value.slice va acc.length vc).ownBlock ≠ some b ∧ b < X1.heap.size)) ∧ (wa2 = some ⟨b, off, none⟩ → wn = 0 ∨ ((Value.slice va acc.length vc).ownBlock ≠ some b ∧ b < X1.heap.size))) := Lib.hid (fun b off =>
                ⟨fun e => (hD.2 b off e).imp_right fun q => ⟨fun e2 => by have := hrl b e2; omega, q.2⟩, fun e => (hA.2 b off e).imp_right fun q => ⟨fun e2 => by have := hrl b e2; omega, q.2⟩, fun e => (hWr.2 b off e).imp_right fun q => ⟨fun e2 => by have := hrl b e2; omega, q.2⟩⟩)
              clear hcop hD hA hWr hrl k0 k1 k2 k3 k4 k5
              have hlit : (X1.alloc (.cells #[.int .i64 o, .int .i64 num, .int .i64 prev, .slice da2 dn2 dc2, .slice aa2 an2 ac2, .slice wa2 wn wc2] 29)).heap[X1.heap.size]? = some (.cells (txCs ⟨o, num, prev, ds, xs, ws⟩ ⟨da2, dn2, dc2, aa2, an2, ac2, wa2, wn, wc2⟩).toArray 29 (0, 0)) := heap_alloc_new X1 _
              have HLT := Lib.hid (SG.lit (size := 6) hlit rfl (by intro u hu; simp [txCs] at hu; rcases hu with rfl | rfl | rfl | rfl | rfl | rfl <;> rfl))
              have HBA := Lib.hid ((Bl.refl X1).alloc (.cells #[.int .i64 o, .int .i64 num, .int .i64 prev, .slice da2 dn2 dc2, .slice aa2 an2 ac2, .slice wa2 wn wc2] 29))
              have HOA := Lib.hid (HOT.out.keep (HX1.out.trans HBA.out))
              have hoa := HOA.out.row
              have hW1 := (HBL.out.trans (HX1.out.trans HBA.out)).size
              clear hlit
              go_wp2_with (at_builtin; refine wpList_appK rfl _ _ _ rfl el_tx W1.heap.size _ _ _ rfl hoa ?cB (some ⟨X1.heap.size, 0, none⟩) 1 1 _ rfl HLT.out ?cM ?cN ?_)
              case cB => exact hW1
              case cM => unfold maxLen; omega
              case cN => omega
              intro v' X2 ho hgr _ hbb
              have HOT2 := Lib.hid (HOA.out.app hW1 (HTX.out.keep HBA.out) (fun b off => ⟨fun e => ((HOFF.out b off).1 e).imp_right fun q => ⟨q.1, Nat.lt_of_lt_of_le q.2 HBA.out.size⟩, fun e => ((HOFF.out b off).2.1 e).imp_right fun q => ⟨q.1, Nat.lt_of_lt_of_le q.2 HBA.out.size⟩, fun e => ((HOFF.out b off).2.2 e).imp_right fun q => ⟨q.1, Nat.lt_of_lt_of_le q.2 HBA.out.size⟩⟩) ho hgr (fun b e => (hbb b e).imp_right (fun q => by simp; omega)))
              have HBX : Hid (Bl W1 X2) := Lib.hid ((HBL.out.trans (HX1.out.trans HBA.out)).ownRow HOA.out.row (Nat.le_refl _) hgr)
              clear ho hgr hbb hoa hW1 HLT HTX HOFF HOA
              go_wp2_with fail
              go_roundw
              case rel => exact ⟨k + 1, _, by omega, by go_num, HBX.out, by rw [HPU2.out]; exact HOT2.out⟩
              case measure => simp [intOf]; omega
            case neg =>
              have HSK2 := Lib.hid (HSK.out (by rw [HNW.out, decide_eq_false hgt, decide_eq_false (show ¬ (rn : Int) ≤ (si : Int) by omega)]; rfl))
              have d5 : decide (mr < mx) = false := decide_eq_false hgt
              refine wp_region_allS (by kernel_rfl) (by kernel_rfl) ?_
              have k4 : ∀ q : Ext V.drew, _ := fun q => (HGP.out.keep ((Bl.refl V).drew.trans q.bl)).cell 4 _ rfl
              have ks : ∀ q : Ext V.drew, _ := fun q => (HC.out.keep (HBL.out.trans (HBP.out.trans ((Bl.refl V).drew.trans q.bl)))).cell
              have kx : ∀ q : Ext V.drew, _ := fun q => (HBP.out.trans ((Bl.refl V).drew.trans q.bl)).cell HCX.out
              have kr : ∀ q : Ext V.drew, _ := fun q => (HB1.out.trans (HBP.out.trans ((Bl.refl V).drew.trans q.bl))).cell HCR.out
              repeat (refine wpS_step (fun K hK => ?_); go_simp; first | (refine hK _ ?_; clear hK K) | (apply Exists.intro; refine ⟨fun q => ?_, hK _ ?_⟩; (fail); clear hK K))
              refine wpS_nil ?_
              intro q1
              have HBN := Lib.hid (HBP.out.trans ((Bl.refl V).drew.trans q1.bl))
              have HGN := Lib.hid (HGP.out.keep ((Bl.refl V).drew.trans q1.bl))
              clear k4 ks kx kr
              generalize ExtC.at q1 = Y at *
              go_wp2_with fail
              go_roundw
              case rel => exact ⟨k + 1, g, by omega, by go_num, HBL.out.trans HBN.out, by rw [HSK2.out]; exact HOT.out.keep HBN.out⟩
              case measure => simp [intOf]; omega
        case neg =>
          have d1 : decide (0 ≤ most) = false := decide_eq_false h0
          clear hm
          go_upto_region 8 with fail
          clear d1 h0
          by_cases hrs : rn ≤ si
          case pos =>
            have HPU2 := Lib.hid (HPU.out (by rw [HNW.out, decide_eq_true (show (rn : Int) ≤ (si : Int) by omega)]; rfl) HNM.out)
            have d3 : decide ((rn : Int) ≤ (si : Int)) = true := decide_eq_true (by omega)
            have d4 : decide (rn ≤ si) = true := decide_eq_true hrs
            refine wp_region_allS (by kernel_rfl) (by kernel_rfl) ?_
            have k4 : ∀ q : Ext V.drew, _ := fun q => (HGP.out.keep ((Bl.refl V).drew.trans q.bl)).cell 4 _ rfl
            have ks : ∀ q : Ext V.drew, _ := fun q => (HC.out.keep (HBL.out.trans (HBP.out.trans ((Bl.refl V).drew.trans q.bl)))).cell
            repeat (refine wpS_step (fun K hK => ?_); go_simp; first | (refine hK _ ?_; clear hK K) | (apply Exists.intro; refine ⟨fun q => ?_, hK _ ?_⟩; (fail); clear hK K))
            refine wpS_nil ?_
            intro q1
            have HBN := Lib.hid (HBP.out.trans ((Bl.refl V).drew.trans q1.bl))
            have HGN := Lib.hid (HGP.out.keep ((Bl.refl V).drew.trans q1.bl))
            clear k4 ks
            generalize ExtC.at q1 = Y at *
            have k0 := HGN.out.cell 0 _ rfl
            have k1 := HGN.out.cell 1 _ rfl
            have k2 := HGN.out.cell 2 _ rfl
            have k3 := HGN.out.cell 3 _ rfl
            have k4 := HGN.out.cell 4 _ rfl
            have k5 := HGN.out.cell 5 _ rfl
            go_wp2_with fail
            refine (copied_any o num prev da dn dc ds aa an ac xs wa wn wc ws _ (HT.out.deps.keep HBN.out) (HT.out.at_.keep HBN.out) (HT.out.ws.keep HBN.out) hwn).mono ?_
            rintro e X1 ⟨dv, av, wv, rfl, hcop⟩
            obtain ⟨da2, dn2, dc2, hdv, _⟩ := hcop.d.si
            subst hdv
            obtain ⟨aa2, an2, ac2, hav, _⟩ := hcop.a.si
            subst hav
            obtain ⟨wa2, wc2, hwv⟩ := OWR.form hcop.ow
            subst hwv
            have hwl : ws.length = wn := HT.out.ws.len
            dsimp only at hcop
            rw [hwl] at hcop
            have hD := FI.at hcop.d
            have hA := FI.at hcop.a
            have hWr := OWR.at (by have := hcop.ow; dsimp only at this; rw [hwl] at this; exact this) hwn HT.out.ws.ok
            have HX1 := Lib.hid (HBN.out.trans hcop.bl)
            have hrl : ∀ b, (Value.slice va acc.length vc).ownBlock = some b → b < Y.heap.size := fun b e => (World.ownsRow.lt (HOT.out.keep HBN.out).row b e).2
            have HTX : Hid (TX X1 ⟨da2, dn2, dc2, aa2, an2, ac2, wa2, wn, wc2⟩ ⟨o, num, prev, ds, xs, ws⟩) := Lib.hid ⟨hD.1, hA.1, hWr.1, HT.out.o, HT.out.num, HT.out.prev⟩
            have HOFF : Hid (∀ b off, (da2 = some ⟨b, off, none⟩ → dn2 = 0 ∨ ((Value.slice va acc.length vc).ownBlock ≠ some b ∧ b < X1.heap.size)) ∧ (aa2 = some ⟨b, off, none⟩ → an2 = 0 ∨ ((Value.slice va acc.length vc).ownBlock ≠ some b ∧ b < X1.heap.size)) ∧ (wa2 = some ⟨b, off, none⟩ → wn = 0 ∨ ((Value.slice va acc.length vc).ownBlock ≠ some b ∧ b < X1.heap.size))) := Lib.hid (fun b off =>
              ⟨fun e => (hD.2 b off e).imp_right fun q => ⟨fun e2 => by have := hrl b e2; omega, q.2⟩, fun e => (hA.2 b off e).imp_right fun q => ⟨fun e2 => by have := hrl b e2; omega, q.2⟩, fun e => (hWr.2 b off e).imp_right fun q => ⟨fun e2 => by have := hrl b e2; omega, q.2⟩⟩)
            clear hcop hD hA hWr hrl k0 k1 k2 k3 k4 k5
            have hlit : (X1.alloc (.cells #[.int .i64 o, .int .i64 num, .int .i64 prev, .slice da2 dn2 dc2, .slice aa2 an2 ac2, .slice wa2 wn wc2] 29)).heap[X1.heap.size]? = some (.cells (txCs ⟨o, num, prev, ds, xs, ws⟩ ⟨da2, dn2, dc2, aa2, an2, ac2, wa2, wn, wc2⟩).toArray 29 (0, 0)) := heap_alloc_new X1 _
            have HLT := Lib.hid (SG.lit (size := 6) hlit rfl (by intro u hu; simp [txCs] at hu; rcases hu with rfl | rfl | rfl | rfl | rfl | rfl <;> rfl))
            have HBA := Lib.hid ((Bl.refl X1).alloc (.cells #[.int .i64 o, .int .i64 num, .int .i64 prev, .slice da2 dn2 dc2, .slice aa2 an2 ac2, .slice wa2 wn wc2] 29))
            have HOA := Lib.hid (HOT.out.keep (HX1.out.trans HBA.out))
            have hoa := HOA.out.row
            have hW1 := (HBL.out.trans (HX1.out.trans HBA.out)).size
            clear hlit
            go_wp2_with (at_builtin; refine wpList_appK rfl _ _ _ rfl el_tx W1.heap.size _ _ _ rfl hoa ?cB (some ⟨X1.heap.size, 0, none⟩) 1 1 _ rfl HLT.out ?cM ?cN ?_)
            case cB => exact hW1
            case cM => unfold maxLen; omega
            case cN => omega
            intro v' X2 ho hgr _ hbb
            have HOT2 := Lib.hid (HOA.out.app hW1 (HTX.out.keep HBA.out) (fun b off => ⟨fun e => ((HOFF.out b off).1 e).imp_right fun q => ⟨q.1, Nat.lt_of_lt_of_le q.2 HBA.out.size⟩, fun e => ((HOFF.out b off).2.1 e).imp_right fun q => ⟨q.1, Nat.lt_of_lt_of_le q.2 HBA.out.size⟩, fun e => ((HOFF.out b off).2.2 e).imp_right fun q => ⟨q.1, Nat.lt_of_lt_of_le q.2 HBA.out.size⟩⟩) ho hgr (fun b e => (hbb b e).imp_right (fun q => by simp; omega)))
            have HBX : Hid (Bl W1 X2) := Lib.hid ((HBL.out.trans (HX1.out.trans HBA.out)).ownRow HOA.out.row (Nat.le_refl _) hgr)
            clear ho hgr hbb hoa hW1 HLT HTX HOFF HOA
            go_wp2_with fail
            go_roundw
            case rel => exact ⟨k + 1, _, by omega, by go_num, HBX.out, by rw [HPU2.out]; exact HOT2.out⟩
            case measure => simp [intOf]; omega
          case neg =>
            have d3 : decide ((rn : Int) ≤ (si : Int)) = false := decide_eq_false (by omega)
            have d4 : decide (rn ≤ si) = false := decide_eq_false hrs
            have hsr : si < rn := by omega
            obtain ⟨bx, ox, hax, hcx⟩ := HT.out.at_.cells si hsl
            dsimp only at hax
            subst hax
            obtain ⟨br, orr, hra, hcr⟩ := HR.out.cells si hsr
            subst hra
            have HCX := Lib.hid (hcx si hsl)
            have HCR := Lib.hid (hcr si hsr)
            dsimp only at HCX
            have hi1 : decide (si < an) = true := decide_eq_true hsl
            have hi2 : decide (si < rn) = true := decide_eq_true hsr
            generalize nth xs si = mx at *
            generalize nth row si = mr at *
            clear hcx hcr
            by_cases hgt : mr < mx
            case pos =>
              have HPU2 := Lib.hid (HPU.out (by rw [HNW.out, decide_eq_true hgt, Bool.or_true]) HNM.out)
              have d5 : decide (mr < mx) = true := decide_eq_true hgt
              refine wp_region_allS (by kernel_rfl) (by kernel_rfl) ?_
              have k4 : ∀ q : Ext V.drew, _ := fun q => (HGP.out.keep ((Bl.refl V).drew.trans q.bl)).cell 4 _ rfl
              have ks : ∀ q : Ext V.drew, _ := fun q => (HC.out.keep (HBL.out.trans (HBP.out.trans ((Bl.refl V).drew.trans q.bl)))).cell
              have kx : ∀ q : Ext V.drew, _ := fun q => (HBP.out.trans ((Bl.refl V).drew.trans q.bl)).cell HCX.out
              have kr : ∀ q : Ext V.drew, _ := fun q => (HB1.out.trans (HBP.out.trans ((Bl.refl V).drew.trans q.bl))).cell HCR.out
              repeat (refine wpS_step (fun K hK => ?_); go_simp; first | (refine hK _ ?_; clear hK K) | (apply Exists.intro; refine ⟨fun q => ?_, hK _ ?_⟩; (fail); clear hK K))
              refine wpS_nil ?_
              intro q1
              have HBN := Lib.hid (HBP.out.trans ((Bl.refl V).drew.trans q1.bl))
              have HGN := Lib.hid (HGP.out.keep ((Bl.refl V).drew.trans q1.bl))
              clear k4 ks kx kr
              generalize ExtC.at q1 = Y at *
              have k0 := HGN.out.cell 0 _ rfl
              have k1 := HGN.out.cell 1 _ rfl
              have k2 := HGN.out.cell 2 _ rfl
              have k3 := HGN.out.cell 3 _ rfl
              have k4 := HGN.out.cell 4 _ rfl
              have k5 := HGN.out.cell 5 _ rfl
              go_wp2_with fail
              refine (copied_any o num prev da dn dc ds (some ⟨bx, ox, none⟩) an ac xs wa wn wc ws _ (HT.out.deps.keep HBN.out) (HT.out.at_.keep HBN.out) (HT.out.ws.keep HBN.out) hwn).mono ?_
              rintro e X1 ⟨dv, av, wv, rfl, hcop⟩
              obtain ⟨da2, dn2, dc2, hdv, _⟩ := hcop.d.si
              subst hdv
              obtain ⟨aa2, an2, ac2, hav, _⟩ := hcop.a.si
              subst hav
              obtain ⟨wa2, wc2, hwv⟩ := OWR.form hcop.ow
              subst hwv
              have hwl : ws.length = wn := HT.out.ws.len
              dsimp only at hcop
              rw [hwl] at hcop
              have hD := FI.at hcop.d
              have hA := FI.at hcop.a
              have hWr := OWR.at (by have := hcop.ow; dsimp only at this; rw [hwl] at this; exact this) hwn HT.out.ws.ok
              have HX1 := Lib.hid (HBN.out.trans hcop.bl)
              have hrl : ∀ b, (Value.slice va acc.length vc).ownBlock = some b → b < Y.heap.size := fun b e => (World.ownsRow.lt (HOT.out.keep HBN.out).row b e).2
              have HTX : Hid (TX X1 ⟨da2, dn2, dc2, aa2, an2, ac2, wa2, wn, wc2⟩ ⟨o, num, prev, ds, xs, ws⟩) := Lib.hid ⟨hD.1, hA.1, hWr.1, HT.out.o, HT.out.num, HT.out.prev⟩
              have HOFF : Hid (∀ b off, (da2 = some ⟨b, off, none⟩ → dn2 = 0 ∨ ((Value.slice va acc.length vc).ownBlock ≠ some b ∧ b < X1.heap.size)) ∧ (aa2 = some ⟨b, off, none⟩ → an2 = 0 ∨ ((Value.slice va acc.length vc).ownBlock ≠ some b ∧ b < X1.heap.size)) ∧ (wa2 = some ⟨b, off, none⟩ → wn = 0 ∨ ((Value.slice va acc.length vc).ownBlock ≠ some b ∧ b < X1.heap.size))) := Lib.hid (fun b off =>
                ⟨fun e => (hD.2 b off e).imp_right fun q => ⟨fun e2 => by have := hrl b e2; omega, q.2⟩, fun e => (hA.2 b off e).imp_right fun q => ⟨fun e2 => by have := hrl b e2; omega, q.2⟩, fun e => (hWr.2 b off e).imp_right fun q => ⟨fun e2 => by have := hrl b e2; omega, q.2⟩⟩)
              clear hcop hD hA hWr hrl k0 k1 k2 k3 k4 k5
              have hlit : (X1.alloc (.cells #[.int .i64 o, .int .i64 num, .int .i64 prev, .slice da2 dn2 dc2, .slice aa2 an2 ac2, .slice wa2 wn wc2] 29)).heap[X1.heap.size]? = some (.cells (txCs ⟨o, num, prev, ds, xs, ws⟩ ⟨da2, dn2, dc2, aa2, an2, ac2, wa2, wn, wc2⟩).toArray 29 (0, 0)) := heap_alloc_new X1 _
              have HLT := Lib.hid (SG.lit (size := 6) hlit rfl (by intro u hu; simp [txCs] at hu; rcases hu with rfl | rfl | rfl | rfl | rfl | rfl <;> rfl))
              have HBA := Lib.hid ((Bl.refl X1).alloc (.cells #[.int .i64 o, .int .i64 num, .int .i64 prev, .slice da2 dn2 dc2, .slice aa2 an2 ac2, .slice wa2 wn wc2] 29))
              have HOA := Lib.hid (HOT.out.keep (HX1.out.trans HBA.out))
              have hoa := HOA.out.row
              have hW1 := (HBL.out.trans (HX1.out.trans HBA.out)).size
              clear hlit
              go_wp2_with (at_builtin; refine wpList_appK rfl _ _ _ rfl el_tx W1.heap.size _ _ _ rfl hoa ?cB (some ⟨X1.heap.size, 0, none⟩) 1 1 _ rfl HLT.out ?cM ?cN ?_)
              case cB => exact hW1
              case cM => unfold maxLen; omega
              case cN => omega
              intro v' X2 ho hgr _ hbb
              have HOT2 := Lib.hid (HOA.out.app hW1 (HTX.out.keep HBA.out) (fun b off => ⟨fun e => ((HOFF.out b off).1 e).imp_right fun q => ⟨q.1, Nat.lt_of_lt_of_le q.2 HBA.out.size⟩, fun e => ((HOFF.out b off).2.1 e).imp_right fun q => ⟨q.1, Nat.lt_of_lt_of_le q.2 HBA.out.size⟩, fun e => ((HOFF.out b off).2.2 e).imp_right fun q => ⟨q.1, Nat.lt_of_lt_of_le q.2 HBA.out.size⟩⟩) ho hgr (fun b e => (hbb b e).imp_right (fun q => by simp; omega)))
              have HBX : Hid (Bl W1 X2) := Lib.hid ((HBL.out.trans (HX1.out.trans HBA.out)).ownRow HOA.out.row (Nat.le_refl _) hgr)
              clear ho hgr hbb hoa hW1 HLT HTX HOFF HOA
              go_wp2_with fail
              go_roundw
              case rel => exact ⟨k + 1, _, by omega, by go_num, HBX.out, by rw [HPU2.out]; exact HOT2.out⟩
              case measure => simp [intOf]; omega
            case neg =>
              have HSK2 := Lib.hid (HSK.out (by rw [HNW.out, decide_eq_false hgt, decide_eq_false (show ¬ (rn : Int) ≤ (si : Int) by omega)]; rfl))
              have d5 : decide (mr < mx) = false := decide_eq_false hgt
              refine wp_region_allS (by kernel_rfl) (by kernel_rfl) ?_
              have k4 : ∀ q : Ext V.drew, _ := fun q => (HGP.out.keep ((Bl.refl V).drew.trans q.bl)).cell 4 _ rfl
              have ks : ∀ q : Ext V.drew, _ := fun q => (HC.out.keep (HBL.out.trans (HBP.out.trans ((Bl.refl V).drew.trans q.bl)))).cell
              have kx : ∀ q : Ext V.drew, _ := fun q => (HBP.out.trans ((Bl.refl V).drew.trans q.bl)).cell HCX.out
              have kr : ∀ q : Ext V.drew, _ := fun q => (HB1.out.trans (HBP.out.trans ((Bl.refl V).drew.trans q.bl))).cell HCR.out
              repeat (refine wpS_step (fun K hK => ?_); go_simp; first | (refine hK _ ?_; clear hK K) | (apply Exists.intro; refine ⟨fun q => ?_, hK _ ?_⟩; (fail); clear hK K))
              refine wpS_nil ?_
              intro q1
              have HBN := Lib.hid (HBP.out.trans ((Bl.refl V).drew.trans q1.bl))
              have HGN := Lib.hid (HGP.out.keep ((Bl.refl V).drew.trans q1.bl))
              clear k4 ks kx kr
              generalize ExtC.at q1 = Y at *
              go_wp2_with fail
              go_roundw
              case rel => exact ⟨k + 1, g, by omega, by go_num, HBL.out.trans HBN.out, by rw [HSK2.out]; exact HOT.out.keep HBN.out⟩
              case measure => simp [intOf]; omega
    · have hkn : k = tn := by omega
      subst hkn
      have HU := Lib.hid (accL_all own self row most HOF.out)
      rw [HL.out] at HU
      go_wp2_with fail
      go_ret
      exact ⟨_, g, rfl, by rw [← HU.out]; exact (own_less_ot HOT.out HB.out.size), HB1.out⟩
end Go.Proofs.Ytaokennbpgdngaa
end
