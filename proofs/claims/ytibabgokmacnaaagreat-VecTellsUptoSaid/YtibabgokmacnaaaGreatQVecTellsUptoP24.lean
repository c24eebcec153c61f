import Derived.Test.YtibabgokmacnaaaGreatQVecTellsUptoP1
import Derived.Deep.QuietTactic
import Derived.BigQuiet
import Derived.Test.YtibabgokmacnaaaGreatQVecTellsUptoP11

/- bedrockref3: Leq, Same, Valid. By an AI agent. -/
section
namespace Go.Proofs.YtibabgokmacnaaaGreat
open Go.RowKit

set_option maxHeartbeats 400000 in
theorem rleq_any (a b : Option Addr) (n m ca cb : Nat) (xs ys : List Int) (w : World) (hx : IA w a n xs) (hy : IA w b m ys) :
    Calls Tryz.prog 25 #[.slice a n ca, .slice b m cb] w fun e w' => e = .returned (.bool (leqL xs ys)) ∧ Bl w w' := by
  have hx1 := hx.cap
  have hy1 := hy.cap
  by_cases hl : n = m
  · subst hl
    have HLL := Lib.hid (hx.len.trans hy.len.symm)
    have HX := Lib.hid hx.len
    have h2 : ((n : Int) != (n : Int)) = false := by simp
    go_enter Tryz.func25, Tryz.ntmps25
    go_wp2
    go_loopw [5] (fun i wr => ∃ k : Nat, k ≤ n ∧ i = .int .i64 k ∧ Bl w wr ∧ ∀ j, j < k → nth xs j ≤ nth ys j) (fun i _ => n - (intOf i).toNat)
    case atStart => exact ⟨0, Nat.zero_le _, rfl, Bl.refl _, fun j h => by omega⟩
    case round =>
      obtain ⟨k, hk, rfl, hbl, hle⟩ := hrel
      have HLE := Lib.hid hle; clear hle
      by_cases hlt : k < n
      · obtain ⟨ba, oa, rfl, hca⟩ := hx.cells k hlt
        obtain ⟨bb, ob, rfl, hcb⟩ := hy.cells k hlt
        have ha := hbl.cell (hca k hlt)
        have hb := hbl.cell (hcb k hlt)
        clear hca hcb
        by_cases hgt : nth ys k < nth xs k
        · have HR := Lib.hid (leqL_false HLL.out (by rw [HX.out]; exact hlt) hgt)
          go_wp2
          go_quiet (fail)
          go_wp2
          go_ret
          exact ⟨ret_bool HR.out.symm, hbl.drewN _⟩
        · go_wp2
          go_quiet (fail)
          go_wp2
          go_roundw
          case rel => exact ⟨k + 1, by omega, by go_num, hbl.drewN _, fun j hj => by
            by_cases e : j = k
            · subst e; omega
            · exact HLE.out j (by omega)⟩
          case measure => simp [intOf]; omega
      · have HR := Lib.hid ((leqL_iff HLL.out).2 (fun j hj => HLE.out j (by rw [HX.out] at hj; omega)))
        go_wp2
        go_ret
        exact ⟨ret_bool HR.out.symm, hbl⟩
  · have h2 : ((n : Int) != (m : Int)) = true := by simp; omega
    have HR := Lib.hid (leqL_len (xs := xs) (ys := ys) (by rw [hx.len, hy.len]; exact hl))
    go_enter Tryz.func25, Tryz.ntmps25
    go_wp2
    go_ret
    exact ⟨ret_bool HR.out.symm, Bl.refl _⟩

theorem leq_both (xs ys : List Int) : (leqL xs ys && leqL ys xs) = decide (xs = ys) := by
  by_cases hl : xs.length = ys.length
  · rw [Bool.eq_iff_iff, Bool.and_eq_true, decide_eq_true_eq, leqL_iff hl, leqL_iff hl.symm]
    constructor
    · rintro ⟨h1, h2⟩
      exact getD_ext hl fun j hj => Int.le_antisymm (h1 j hj) (h2 j (by omega))
    · rintro rfl
      exact ⟨fun _ _ => Int.le_refl _, fun _ _ => Int.le_refl _⟩
  · rw [leqL_len hl, decide_eq_false (fun e => hl (by rw [e]))]; rfl

theorem rsame_any (a b : Option Addr) (n m ca cb : Nat) (xs ys : List Int) (w : World) (hx : IA w a n xs) (hy : IA w b m ys) :
    Calls Tryz.prog 17 #[.slice a n ca, .slice b m cb] w fun e w' => e = .returned (.bool (decide (xs = ys))) ∧ Bl w w' := by
  have HB := Lib.hid (leq_both xs ys)
  cases h1 : leqL xs ys
  · have HQ := Lib.hid h1
    go_enter Tryz.func17, Tryz.ntmps17
    go_wp2_with fail
    refine (rleq_any a b n m ca cb xs ys _ hx hy).mono ?_
    rintro e w1 ⟨rfl, hb1⟩
    rw [h1]
    clear h1
    go_wp2_with fail
    go_ret
    exact ⟨ret_bool (by rw [← HB.out, HQ.out]; rfl), hb1⟩
  · have HQ := Lib.hid h1
    go_enter Tryz.func17, Tryz.ntmps17
    go_wp2_with fail
    refine (rleq_any a b n m ca cb xs ys _ hx hy).mono ?_
    rintro e w1 ⟨rfl, hb1⟩
    rw [h1]
    clear h1
    go_wp2_with fail
    refine (rleq_any b a m n cb ca ys xs _ (hy.keep hb1) (hx.keep hb1)).mono ?_
    rintro e w2 ⟨rfl, hb2⟩
    go_wp2_with fail
    go_ret
    exact ⟨ret_bool (by rw [← HB.out, HQ.out]; rfl), hb1.trans hb2⟩
end Go.Proofs.YtibabgokmacnaaaGreat
end

/- bedrockbook.LentVec, StaysVec, copyVecs. By an AI agent. -/
section
namespace Go.Proofs.YtibabgokmacnaaaGreat
open Go.RowKit

theorem el_vec : EL 23 3 1 8 := el_of Tryz.underlying23 (by kernel_rfl) (by decide)
theorem el_intsC : EL 22 3 1 8 := el_of Tryz.underlying22 (by kernel_rfl) (by decide)
theorem copyVecs_any (a : Option Addr) (n c : Nat) (xs : List Int) (w : World) (hx : IA w a n xs) :
    Calls Tryz.prog 172 #[.slice a n c] w fun e w' => ∃ v, e = .returned v ∧ FI w.heap.size w' v xs ∧ Bl w w' := by
  have hcap := hx.cap
  have HL := Lib.hid hx.len
  have HX := Lib.hid hx
  clear hx
  go_enter Tryz.func172, Tryz.ntmps172
  go_wp2_with (at_builtin; refine wpList_appG rfl _ _ _ rfl el_intsC w.heap.size (.slice none 0 0) 0 [] rfl (World.ownsRow_nil _ _ _ _) (Nat.le_refl _) a n c _ rfl (sg_ints HX.out) ?cM ?cN ?_)
  case cM => unfold maxLen; omega
  case cN => omega
  intro v w1 ho hg
  have hb : Bl w w1 := (Bl.refl w).ownRow (World.ownsRow_nil w w.heap.size 3 1) (Nat.le_refl _) hg
  have hoi : OI w.heap.size w1 v xs := by
    unfold OI
    rw [HL.out]
    simpa using ho
  have HB := Lib.hid hb
  have HO := Lib.hid hoi
  clear ho hg hb hoi
  go_wp2_with fail
  go_ret
  exact ⟨_, rfl, ⟨HO.out, by rw [HL.out]; exact hcap, HX.out.wf⟩, HB.out⟩

/-- a slice of n ints, behind which a mark stands in the same block -/
structure LV (B : Nat) (W : World) (g n c : Nat) (xs : List Int) : Prop where
  own : OI B W (.slice (some ⟨g, 0, none⟩) (n + 1) c) (xs ++ [-77])
  len : xs.length = n
  cap : n * 8 ≤ 140737488351232
  wf : ∀ x ∈ xs, -9223372036854775808 ≤ x ∧ x ≤ 9223372036854775807
theorem LV.keep {B : Nat} {W W' : World} {g n c : Nat} {xs : List Int} (h : LV B W g n c xs) (hb : Bl W W') : LV B W' g n c xs := ⟨h.own.keep hb, h.len, h.cap, h.wf⟩
theorem LV.ia {B : Nat} {W : World} {g n c : Nat} {xs : List Int} (h : LV B W g n c xs) : IA W (some ⟨g, 0, none⟩) n xs := by
  refine ⟨h.len, h.cap, fun j0 _ => ⟨g, 0, rfl, fun j hj => ?_⟩, h.wf⟩
  have hl : (xs ++ [-77]).length = n + 1 := by simp [h.len]
  have ho := h.own
  unfold OI at ho
  rw [hl] at ho
  rw [Nat.zero_add, ho.cellAt j (by omega), List.getElem?_map, List.getElem?_append_left (by rw [h.len]; exact hj), List.getElem?_eq_getElem (by rw [h.len]; exact hj), nth_eq (by rw [h.len]; exact hj)]
  rfl
theorem LV.mark {B : Nat} {W : World} {g n c : Nat} {xs : List Int} (h : LV B W g n c xs) : W.cell? ⟨g, n, none⟩ = some (.int .i64 (-77)) ∧ n + 1 ≤ c := by
  have hl : (xs ++ [-77]).length = n + 1 := by simp [h.len]
  have ho := h.own
  unfold OI at ho
  rw [hl] at ho
  refine ⟨?_, ?_⟩
  · rw [ho.cellAt n (by omega), List.getElem?_map, List.getElem?_append_right (by rw [h.len]; exact Nat.le_refl _), h.len, Nat.sub_self]
    rfl
  · obtain ⟨_, ⟨e, _⟩ | ⟨g', cap, cur, e, hB, hg, hn, _⟩⟩ := ho
    · cases e
    · simp only [Value.slice.injEq, Option.some.injEq, Addr.mk.injEq, and_true, true_and] at e
      omega
theorem lentVec_any (a : Option Addr) (n c : Nat) (xs : List Int) (w : World) (hx : IA w a n xs) (hn : n ≤ 1000000) :
    Calls Tryz.prog 8 #[.slice a n c] w fun e w' => ∃ g c', e = .returned (.slice (some ⟨g, 0, none⟩) n c') ∧ LV w.heap.size w' g n c' xs ∧ Bl w w' := by
  have hcap := hx.cap
  have HL := Lib.hid hx.len
  have HX := Lib.hid hx
  clear hx
  go_enter Tryz.func8, Tryz.ntmps8
  go_wp2_with (at_builtin; refine wpList_appG rfl _ _ _ rfl el_vec w.heap.size (.slice none 0 0) 0 [] rfl (World.ownsRow_nil _ _ _ _) (Nat.le_refl _) a n c _ rfl (sg_ints HX.out) ?cM ?cN ?_)
  case cM => unfold maxLen; omega
  case cN => omega
  intro v w1 ho hg
  have hb : Bl w w1 := (Bl.refl w).ownRow (World.ownsRow_nil w w.heap.size 3 1) (Nat.le_refl _) hg
  have hoi : w1.ownsRow w.heap.size 3 1 v n (xs.map (Value.int .i64)) := by simpa using ho
  have hsz := hb.size
  have hlit : (w1.alloc (.cells #[.int .i64 (-77)] 3)).heap[w1.heap.size]? = some (.cells [.int .i64 (-77)].toArray 3 (0, 0)) := heap_alloc_new w1 _
  have HLT := Lib.hid (SG.lit (size := 1) hlit rfl (by intro u hu; simp at hu; subst hu; rfl))
  have hoa := ownsRow_bl hoi ((Bl.refl w1).alloc (.cells #[.int .i64 (-77)] 3))
  have HBA := Lib.hid (hb.alloc (.cells #[.int .i64 (-77)] 3))
  clear ho hg hb hoi hlit
  go_wp2_with (at_builtin; refine wpList_appG rfl _ _ _ rfl el_vec w.heap.size _ _ _ rfl hoa ?cB2 (some ⟨w1.heap.size, 0, none⟩) 1 1 _ rfl HLT.out ?cM2 ?cN2 ?_)
  case cB2 => simp; omega
  case cM2 => unfold maxLen; omega
  case cN2 => omega
  intro v2 w2 ho2 hg2
  have hb2 : Bl w w2 := HBA.out.ownRow hoa (Nat.le_refl _) hg2
  obtain ⟨g, c', rfl⟩ : ∃ g c', v2 = .slice (some ⟨g, 0, none⟩) (n + 1) c' := by
    obtain ⟨_, ⟨_, e⟩ | ⟨g', cap, cur, e, _⟩⟩ := ho2
    · omega
    · exact ⟨g', cap, e⟩
  have hlv : LV w.heap.size w2 g n c' xs := ⟨by
    unfold OI
    rw [List.length_append, HL.out, List.map_append]
    exact ho2, HL.out, hcap, HX.out.wf⟩
  have hmc := hlv.mark.2
  have HLV := Lib.hid hlv
  have HB2 := Lib.hid hb2
  clear ho2 hg2 hoa HLT HBA hlv hb2
  go_wp2_with fail
  go_ret
  exact ⟨_, _, rfl, HLV.out, HB2.out⟩
theorem staysVec_any (B g n c : Nat) (a : Option Addr) (m ca : Nat) (xs : List Int) (w : World) (h : LV B w g n c xs) (hx : IA w a m xs) (hn : n ≤ 1000000) :
    Calls Tryz.prog 29 #[.slice (some ⟨g, 0, none⟩) n c, .slice a m ca] w fun e w' => e = .returned (.bool true) ∧ Bl w w' := by
  have hs := rsame_any (some ⟨g, 0, none⟩) a n m c ca xs xs w h.ia hx
  rw [decide_eq_true (rfl : xs = xs)] at hs
  have HS := Lib.hid hs
  have HM := Lib.hid h.mark
  have hc := h.mark.2
  clear hs
  go_enter Tryz.func29, Tryz.ntmps29
  go_wp2_with fail
  refine HS.out.mono ?_
  rintro e w1 ⟨rfl, hb⟩
  have c0 := hb.cell HM.out.1
  go_wp2_with fail
  go_ret
  exact ⟨rfl, hb⟩
end Go.Proofs.YtibabgokmacnaaaGreat
end
