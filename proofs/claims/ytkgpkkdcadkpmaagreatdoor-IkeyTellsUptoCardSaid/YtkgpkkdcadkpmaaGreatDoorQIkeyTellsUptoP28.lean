import Derived.Test.YtkgpkkdcadkpmaaGreatDoorQIkeyTellsUptoP1
import Derived.Deep.QuietTactic
import Derived.BigQuiet
import Derived.Test.YtkgpkkdcadkpmaaGreatDoorQIkeyTellsUptoP8
import Derived.Test.YtkgpkkdcadkpmaaGreatDoorQIkeyTellsUptoP4
import Derived.Test.YtkgpkkdcadkpmaaGreatDoorQIkeyTellsUptoP3
import Derived.Test.YtkgpkkdcadkpmaaGreatDoorQBookAp

/- bedrockref3: Leq, Same, Valid. By an AI agent. -/
section
namespace Go.Proofs.YtkgpkkdcadkpmaaGreatDoor
open Go.RowKit

set_option maxHeartbeats 400000 in
theorem rleq_any (a b : Option Addr) (n m ca cb : Nat) (xs ys : List Int) (w : World) (hx : IA w a n xs) (hy : IA w b m ys) :
    Calls Tryz.prog 105 #[.slice a n ca, .slice b m cb] w fun e w' => e = .returned (.bool (leqL xs ys)) ∧ Bl w w' := by
  have hx1 := hx.cap
  have hy1 := hy.cap
  by_cases hl : n = m
  · subst hl
    have HLL := Lib.hid (hx.len.trans hy.len.symm)
    have HX := Lib.hid hx.len
    have h2 : ((n : Int) != (n : Int)) = false := by simp
    go_enter Tryz.func105, Tryz.ntmps105
    go_wp2
    go_loopw [5] (fun i wr => ∃ k : Nat, k ≤ n ∧ i = .int .i64 k ∧ Bl w wr ∧ ∀ j, j < k → nth xs j ≤ nth ys j) (fun i _ => n - (intOf i).toNat)
    case atStart => exact ⟨0, Nat.zero_le _, rfl, Bl.refl _, fun j h => by omega⟩
    case round =>
      obtain ⟨k, hk, rfl, hbl, hle⟩ := hrel
      have HLE := Lib.hid hle; clear hle
      by_cases hlt : k < n
      · obtain ⟨ba, oa, rfl, hca⟩ := hx.cells k hlt
        obtain ⟨bb, ob, rfl, hcb⟩ := hy.cells k hlt
        have ha := hbl.cell (hca k hlt)
        have hb := hbl.cell (hcb k hlt)
        clear hca hcb
        by_cases hgt : nth ys k < nth xs k
        · have HR := Lib.hid (leqL_false HLL.out (by rw [HX.out]; exact hlt) hgt)
          go_wp2
          go_quiet (fail)
          go_wp2
          go_ret
          exact ⟨ret_bool HR.out.symm, hbl.drewN _⟩
        · go_wp2
          go_quiet (fail)
          go_wp2
          go_roundw
          case rel => exact ⟨k + 1, by omega, by go_num, hbl.drewN _, fun j hj => by
            by_cases e : j = k
            · subst e; omega
            · exact HLE.out j (by omega)⟩
          case measure => simp [intOf]; omega
      · have HR := Lib.hid ((leqL_iff HLL.out).2 (fun j hj => HLE.out j (by rw [HX.out] at hj; omega)))
        go_wp2
        go_ret
        exact ⟨ret_bool HR.out.symm, hbl⟩
  · have h2 : ((n : Int) != (m : Int)) = true := by simp; omega
    have HR := Lib.hid (leqL_len (xs := xs) (ys := ys) (by rw [hx.len, hy.len]; exact hl))
    go_enter Tryz.func105, Tryz.ntmps105
    go_wp2
    go_ret
    exact ⟨ret_bool HR.out.symm, Bl.refl _⟩

theorem leq_both (xs ys : List Int) : (leqL xs ys && leqL ys xs) = decide (xs = ys) := by
  by_cases hl : xs.length = ys.length
  · rw [Bool.eq_iff_iff, Bool.and_eq_true, decide_eq_true_eq, leqL_iff hl, leqL_iff hl.symm]
    constructor
    · rintro ⟨h1, h2⟩
      exact getD_ext hl fun j hj => Int.le_antisymm (h1 j hj) (h2 j (by omega))
    · rintro rfl
      exact ⟨fun _ _ => Int.le_refl _, fun _ _ => Int.le_refl _⟩
  · rw [leqL_len hl, decide_eq_false (fun e => hl (by rw [e]))]; rfl

theorem rsame_any (a b : Option Addr) (n m ca cb : Nat) (xs ys : List Int) (w : World) (hx : IA w a n xs) (hy : IA w b m ys) :
    Calls Tryz.prog 31 #[.slice a n ca, .slice b m cb] w fun e w' => e = .returned (.bool (decide (xs = ys))) ∧ Bl w w' := by
  have HB := Lib.hid (leq_both xs ys)
  cases h1 : leqL xs ys
  · have HQ := Lib.hid h1
    go_enter Tryz.func31, Tryz.ntmps31
    go_wp2_with fail
    refine (rleq_any a b n m ca cb xs ys _ hx hy).mono ?_
    rintro e w1 ⟨rfl, hb1⟩
    rw [h1]
    clear h1
    go_wp2_with fail
    go_ret
    exact ⟨ret_bool (by rw [← HB.out, HQ.out]; rfl), hb1⟩
  · have HQ := Lib.hid h1
    go_enter Tryz.func31, Tryz.ntmps31
    go_wp2_with fail
    refine (rleq_any a b n m ca cb xs ys _ hx hy).mono ?_
    rintro e w1 ⟨rfl, hb1⟩
    rw [h1]
    clear h1
    go_wp2_with fail
    refine (rleq_any b a m n cb ca ys xs _ (hy.keep hb1) (hx.keep hb1)).mono ?_
    rintro e w2 ⟨rfl, hb2⟩
    go_wp2_with fail
    go_ret
    exact ⟨ret_bool (by rw [← HB.out, HQ.out]; rfl), hb1.trans hb2⟩
end Go.Proofs.YtkgpkkdcadkpmaaGreatDoor
end

/- bedrockbook.LentVec, StaysVec, copyVecs. By an AI agent. -/
section
namespace Go.Proofs.YtkgpkkdcadkpmaaGreatDoor
open Go.RowKit

theorem el_vec : EL 23 3 1 8 := el_of Tryz.underlying23 (by kernel_rfl) (by decide)
theorem el_intsC : EL 22 3 1 8 := el_of Tryz.underlying22 (by kernel_rfl) (by decide)
theorem copyVecs_any (a : Option Addr) (n c : Nat) (xs : List Int) (w : World) (hx : IA w a n xs) :
    Calls Tryz.prog 111 #[.slice a n c] w fun e w' => ∃ v, e = .returned v ∧ FI w.heap.size w' v xs ∧ Bl w w' := by
  have hcap := hx.cap
  have HL := Lib.hid hx.len
  have HX := Lib.hid hx
  clear hx
  go_enter Tryz.func111, Tryz.ntmps111
  go_wp2_with (at_builtin; refine wpList_appG rfl _ _ _ rfl el_intsC w.heap.size (.slice none 0 0) 0 [] rfl (World.ownsRow_nil _ _ _ _) (Nat.le_refl _) a n c _ rfl (sg_ints HX.out) ?cM ?cN ?_)
  case cM => unfold maxLen; omega
  case cN => omega
  intro v w1 ho hg
  have hb : Bl w w1 := (Bl.refl w).ownRow (World.ownsRow_nil w w.heap.size 3 1) (Nat.le_refl _) hg
  have hoi : OI w.heap.size w1 v xs := by
    unfold OI
    rw [HL.out]
    simpa using ho
  have HB := Lib.hid hb
  have HO := Lib.hid hoi
  clear ho hg hb hoi
  go_wp2_with fail
  go_ret
  exact ⟨_, rfl, ⟨HO.out, by rw [HL.out]; exact hcap, HX.out.wf⟩, HB.out⟩

/-- a slice of n ints, behind which a mark stands in the same block -/
structure LV (B : Nat) (W : World) (g n c : Nat) (xs : List Int) : Prop where
  own : OI B W (.slice (some ⟨g, 0, none⟩) (n + 1) c) (xs ++ [-77])
  len : xs.length = n
  cap : n * 8 ≤ 140737488351232
  wf : ∀ x ∈ xs, -9223372036854775808 ≤ x ∧ x ≤ 9223372036854775807
theorem LV.keep {B : Nat} {W W' : World} {g n c : Nat} {xs : List Int} (h : LV B W g n c xs) (hb : Bl W W') : LV B W' g n c xs := ⟨h.own.keep hb, h.len, h.cap, h.wf⟩
theorem LV.ia {B : Nat} {W : World} {g n c : Nat} {xs : List Int} (h : LV B W g n c xs) : IA W (some ⟨g, 0, none⟩) n xs := by
  refine ⟨h.len, h.cap, fun j0 _ => ⟨g, 0, rfl, fun j hj => ?_⟩, h.wf⟩
  have hl : (xs ++ [-77]).length = n + 1 := by simp [h.len]
  have ho := h.own
  unfold OI at ho
  rw [hl] at ho
  rw [Nat.zero_add, ho.cellAt j (by omega), List.getElem?_map, List.getElem?_append_left (by rw [h.len]; exact hj), List.getElem?_eq_getElem (by rw [h.len]; exact hj), nth_eq (by rw [h.len]; exact hj)]
  rfl
theorem LV.mark {B : Nat} {W : World} {g n c : Nat} {xs : List Int} (h : LV B W g n c xs) : W.cell? ⟨g, n, none⟩ = some (.int .i64 (-77)) ∧ n + 1 ≤ c := by
  have hl : (xs ++ [-77]).length = n + 1 := by simp [h.len]
  have ho := h.own
  unfold OI at ho
  rw [hl] at ho
  refine ⟨?_, ?_⟩
  · rw [ho.cellAt n (by omega), List.getElem?_map, List.getElem?_append_right (by rw [h.len]; exact Nat.le_refl _), h.len, Nat.sub_self]
    rfl
  · obtain ⟨_, ⟨e, _⟩ | ⟨g', cap, cur, e, hB, hg, hn, _⟩⟩ := ho
    · cases e
    · simp only [Value.slice.injEq, Option.some.injEq, Addr.mk.injEq, and_true, true_and] at e
      omega
theorem lentVec_any (a : Option Addr) (n c : Nat) (xs : List Int) (w : World) (hx : IA w a n xs) (hn : n ≤ 1000000) :
    Calls Tryz.prog 5 #[.slice a n c] w fun e w' => ∃ g c', e = .returned (.slice (some ⟨g, 0, none⟩) n c') ∧ LV w.heap.size w' g n c' xs ∧ Bl w w' := by
  have hcap := hx.cap
  have HL := Lib.hid hx.len
  have HX := Lib.hid hx
  clear hx
  go_enter Tryz.func5, Tryz.ntmps5
  go_wp2_with (at_builtin; refine wpList_appG rfl _ _ _ rfl el_vec w.heap.size (.slice none 0 0) 0 [] rfl (World.ownsRow_nil _ _ _ _) (Nat.le_refl _) a n c _ rfl (sg_ints HX.out) ?cM ?cN ?_)
  case cM => unfold maxLen; omega
  case cN => omega
  intro v w1 ho hg
  have hb : Bl w w1 := (Bl.refl w).ownRow (World.ownsRow_nil w w.heap.size 3 1) (Nat.le_refl _) hg
  have hoi : w1.ownsRow w.heap.size 3 1 v n (xs.map (Value.int .i64)) := by simpa using ho
  have hsz := hb.size
  have hlit : (w1.alloc (.cells #[.int .i64 (-77)] 3)).heap[w1.heap.size]? = some (.cells [.int .i64 (-77)].toArray 3 (0, 0)) := heap_alloc_new w1 _
  have HLT := Lib.hid (SG.lit (size := 1) hlit rfl (by intro u hu; simp at hu; subst hu; rfl))
  have hoa := ownsRow_bl hoi ((Bl.refl w1).alloc (.cells #[.int .i64 (-77)] 3))
  have HBA := Lib.hid (hb.alloc (.cells #[.int .i64 (-77)] 3))
  clear ho hg hb hoi hlit
  go_wp2_with (at_builtin; refine wpList_appG rfl _ _ _ rfl el_vec w.heap.size _ _ _ rfl hoa ?cB2 (some ⟨w1.heap.size, 0, none⟩) 1 1 _ rfl HLT.out ?cM2 ?cN2 ?_)
  case cB2 => simp; omega
  case cM2 => unfold maxLen; omega
  case cN2 => omega
  intro v2 w2 ho2 hg2
  have hb2 : Bl w w2 := HBA.out.ownRow hoa (Nat.le_refl _) hg2
  obtain ⟨g, c', rfl⟩ : ∃ g c', v2 = .slice (some ⟨g, 0, none⟩) (n + 1) c' := by
    obtain ⟨_, ⟨_, e⟩ | ⟨g', cap, cur, e, _⟩⟩ := ho2
    · omega
    · exact ⟨g', cap, e⟩
  have hlv : LV w.heap.size w2 g n c' xs := ⟨by
    unfold OI
    rw [List.length_append, HL.out, List.map_append]
    exact ho2, HL.out, hcap, HX.out.wf⟩
  have hmc := hlv.mark.2
  have HLV := Lib.hid hlv
  have HB2 := Lib.hid hb2
  clear ho2 hg2 hoa HLT HBA hlv hb2
  go_wp2_with fail
  go_ret
  exact ⟨_, _, rfl, HLV.out, HB2.out⟩
theorem staysVec_any (B g n c : Nat) (a : Option Addr) (m ca : Nat) (xs : List Int) (w : World) (h : LV B w g n c xs) (hx : IA w a m xs) (hn : n ≤ 1000000) :
    Calls Tryz.prog 18 #[.slice (some ⟨g, 0, none⟩) n c, .slice a m ca] w fun e w' => e = .returned (.bool true) ∧ Bl w w' := by
  have hs := rsame_any (some ⟨g, 0, none⟩) a n m c ca xs xs w h.ia hx
  rw [decide_eq_true (rfl : xs = xs)] at hs
  have HS := Lib.hid hs
  have HM := Lib.hid h.mark
  have hc := h.mark.2
  clear hs
  go_enter Tryz.func18, Tryz.ntmps18
  go_wp2_with fail
  refine HS.out.mono ?_
  rintro e w1 ⟨rfl, hb⟩
  have c0 := hb.cell HM.out.1
  go_wp2_with fail
  go_ret
  exact ⟨rfl, hb⟩
end Go.Proofs.YtkgpkkdcadkpmaaGreatDoor
end

/- Regions that draw their order and hold calls that may panic (Ext2's laws, with what holds at a panic; the class of worlds is asked only while something is left). · append in a drawn region whose calls may panic; worlds that hold a box. By an AI agent. -/
section
set_option linter.unusedVariables false
namespace Go.Proofs.YtkgpkkdcadkpmaaGreatDoor
open Go.RowKit

section
variable {P : Program} {ops : Array Oper} {md : Region.Mode} {C : World → Prop} {R : List PanicEntry → World → Prop} {L : List Nat}

def pUpon (P : Program) (R : List PanicEntry → World → Prop) (o : Oper) (a : Act) (K : Act → World → Prop) : Result Next → Prop
  | .ok (.value u) w' => K (a.put o.dst u) w'
  | .ok .skip w' => K (a.put o.dst undef) w'
  | .ok (.enter f args) w' => Calls P f args w' (fun e w'' => (∃ v, e = .returned v ∧ K (a.put o.dst v) w'') ∨ (∃ c, e = .panicked c ∧ R c w''))
  | _ => False
def pOper (P : Program) (R : List PanicEntry → World → Prop) (o : Oper) (a : Act) (w : World) (K : Act → World → Prop) : Prop := pUpon P R o a K ((execOp a.eval o).run P w)
def pOp (P : Program) (R : List PanicEntry → World → Prop) (ops : Array Oper) (i : Nat) (K : Act → World → Prop) (a : Act) (w : World) : Prop :=
  match ops[i]? with
  | none => K a w
  | some o => if Region.wanted o (yielded ops a.tmps) then pOper P R o a w K else K (a.put o.dst undef) w

theorem pUpon_mono {o : Oper} {a : Act} {K K' : Act → World → Prop} (h : ∀ a w, K a w → K' a w) {r : Result Next} (hh : pUpon P R o a K r) : pUpon P R o a K' r := by
  cases r with
  | ok n w' =>
    cases n <;> simp only [pUpon] at hh ⊢
    case value u => exact h _ _ hh
    case skip => exact h _ _ hh
    case enter f args =>
      refine hh.mono fun e w'' hk => ?_
      rcases hk with ⟨v, he, hk⟩ | hk
      · exact .inl ⟨v, he, h _ _ hk⟩
      · exact .inr hk
  | halt x w' => simp only [pUpon] at hh
theorem pOp_mono {i : Nat} {a : Act} {w : World} {K K' : Act → World → Prop} (h : ∀ a w, K a w → K' a w) (hh : pOp P R ops i K a w) : pOp P R ops i K' a w := by
  unfold pOp at *
  split
  · exact h _ _ (by simpa [*] using hh)
  · rename_i o ho
    simp only [ho] at hh
    split
    · rename_i hw; simp only [hw, if_true] at hh; exact pUpon_mono h hh
    · rename_i hw; simp only [hw] at hh; exact h _ _ hh
theorem put_defers (a : Act) (d : Option Nat) (v : Value) : (a.put d v).defers = a.defers := by cases d <;> rfl
theorem wpOp_of_pOp {i : Nat} {a : Act} {w : World} {K : Act → World → Prop} {Q : Exit → Act → World → Prop} (hR : ∀ c w, R c w → Q (.panic c) a w) (hh : pOp P R ops i K a w) : wpOp P ops Q i (fun a' w' => K a' w' ∧ a'.defers = a.defers) a w := by
  unfold pOp at hh
  unfold wpOp
  split
  · rename_i ho; simp only [ho] at hh; exact ⟨hh, rfl⟩
  · rename_i o ho
    simp only [ho] at hh
    split
    · rename_i hw
      simp only [hw, if_true] at hh
      refine .inl ?_
      unfold pOper at hh
      unfold Oper.wp
      generalize (execOp a.eval o).run P w = r at *
      cases r with
      | ok n w' =>
        cases n <;> simp only [pUpon] at hh <;> simp only [Oper.upon]
        case value u => exact ⟨hh, put_defers _ _ _⟩
        case skip => exact ⟨hh, put_defers _ _ _⟩
        case enter f args =>
          refine hh.mono fun e w'' hk => ?_
          rcases hk with ⟨v, rfl, hk⟩ | ⟨c, rfl, hk⟩
          · exact ⟨hk, put_defers _ _ _⟩
          · exact hR _ _ hk
      | halt x w' => simp only [pUpon] at hh
    · rename_i hw; simp only [hw] at hh; exact ⟨hh, put_defers _ _ _⟩

/-- whatever order is picked from here on, and whatever is laid behind meanwhile -/
def wpAnyP (P : Program) (R : List PanicEntry → World → Prop) (md : Region.Mode) (ops : Array Oper) (C : World → Prop) (L : List Nat) (Q : Act → World → Prop) : Nat → Array Bool → Act → World → Prop
  | 0, listed, a, w => Region.ready md ops listed = [] ∧ ∀ w', Bl w w' → Q a w'
  | fuel + 1, listed, a, w =>
    (Region.ready md ops listed = [] → ∀ w', Bl w w' → Q a w') ∧
    ∀ i ∈ Region.ready md ops listed, ∀ w', Bl w w' → pOp P R ops i (fun a'' w'' => (i ∉ L → C w'') ∧ wpAnyP P R md ops C L Q fuel (listed.setIfInBounds i true) a'' w'') a w'

theorem wpAnyP_ext {Q : Act → World → Prop} : ∀ {fuel : Nat} {listed : Array Bool} {a : Act} {w w' : World}, Bl w w' → wpAnyP P R md ops C L Q fuel listed a w → wpAnyP P R md ops C L Q fuel listed a w'
  | 0, _, _, _, _, hb, h => ⟨h.1, fun w'' h2 => h.2 w'' (hb.trans h2)⟩
  | _ + 1, _, _, _, _, hb, h => ⟨fun h0 w'' h2 => h.1 h0 w'' (hb.trans h2), fun i hi w'' h2 => h.2 i hi w'' (hb.trans h2)⟩
theorem wpAny_of_P {Q : Act → World → Prop} {Q' : Exit → Act → World → Prop} (ds : Act) (hQ : ∀ a w, Q a w → Q' .normal a w) (hR : ∀ c a w, a.defers = ds.defers → R c w → Q' (.panic c) a w) : ∀ (fuel : Nat) (listed : Array Bool) (a : Act) (w : World), a.defers = ds.defers →
    wpAnyP P R md ops C L Q fuel listed a w → wpAny P md ops Q' fuel listed a w
  | 0, _, _, _, _, h => ⟨h.1, hQ _ _ (h.2 _ (Bl.refl _))⟩
  | fuel + 1, _, _, _, hd, h => ⟨fun h0 => hQ _ _ (h.1 h0 _ (Bl.refl _)), fun i hi => wpOp_mono (fun _ _ k => wpAny_of_P ds hQ hR fuel _ _ _ (k.2.trans hd) k.1.2) (wpOp_of_pOp (fun c w k => hR c _ w hd k) (h.2 i hi _ (Bl.refl _)))⟩

theorem YE.pOp {i : Nat} {o : Oper} {v : Value} {a : Act} {w : World} (hi : ops[i]? = some o) (hy : YE P ops C o v a) (hw0 : C w) {K : Act → World → Prop} (h : ∀ w', Bl w w' → K (a.put o.dst v) w') : Go.Proofs.YtkgpkkdcadkpmaaGreatDoor.pOp P R ops i K a w := by
  unfold Go.Proofs.YtkgpkkdcadkpmaaGreatDoor.pOp
  simp only [hi]
  rcases hy with ⟨hw, hv⟩ | ⟨hw, rfl⟩
  · simp only [hw, if_true]
    have h3 := hv w hw0
    unfold Oper.quietAt at h3
    unfold pOper
    generalize (execOp a.eval o).run P w = r at *
    cases r with
    | ok n w' =>
      cases n <;> simp only [Oper.quietUpon] at h3 <;> simp only [pUpon]
      case value u =>
        obtain ⟨e1, e2⟩ := h3
        rw [e1, e2]; exact h _ (Bl.refl _)
      case skip =>
        obtain ⟨e1, e2⟩ := h3
        rw [e1, ← e2]; exact h _ (Bl.refl _)
      case enter f args =>
        obtain ⟨e1, hc⟩ := h3
        rw [e1]
        exact hc.mono fun e w'' ⟨he, hb⟩ => .inl ⟨v, he, h _ hb⟩
    | halt x w' => simp only [Oper.quietUpon] at h3
  · simp only [hw, Bool.false_eq_true, if_false]; exact h _ (Bl.refl _)

theorem pOp_put {j : Nat} {oi oj : Oper} {v : Value} (hj : ops[j]? = some oj) (hap : oi.apart ops oj = true)
    (hsi : ∀ cs b, oi.op ≠ .select cs b) (hsj : ∀ cs b, oj.op ≠ .select cs b) {K : Act → World → Prop} {a : Act} {w : World}
    (hy : YE P ops C oi v a) (h : pOp P R ops j K (a.put oi.dst v) w) :
    pOp P R ops j (fun a' w' => YE P ops C oi v a' ∧ K (a'.put oi.dst v) w') a w := by
  obtain ⟨h1, h2, h3⟩ := Oper.apart_spec hap
  have keep : ∀ (a : Act), YE P ops C oi v a → ∀ u, YE P ops C oi v (a.put oj.dst u) := fun a hy u =>
    hy.of_same (execOp_put oi hsi a oj.dst u h3) (wanted_put oi a oj.dst u h3)
  unfold Go.Proofs.YtkgpkkdcadkpmaaGreatDoor.pOp at *
  simp only [hj] at *
  rw [wanted_put oj a oi.dst v h1] at h
  split
  · rename_i hw
    simp only [hw, if_true] at h
    unfold pOper at *
    rw [execOp_put oj hsj a oi.dst v h1] at h
    generalize (execOp a.eval oj).run P w = r at *
    cases r with
    | ok n w' =>
      cases n <;> simp only [pUpon] at h ⊢
      case value u => exact ⟨keep a hy u, by rw [← Act.put_comm a v u h2]; exact h⟩
      case skip => exact ⟨keep a hy _, by rw [← Act.put_comm a v undef h2]; exact h⟩
      case enter f args =>
        refine h.mono fun e w'' hk => ?_
        rcases hk with ⟨u, he, hk⟩ | hk
        · exact .inl ⟨u, he, keep a hy u, by rw [← Act.put_comm a v u h2]; exact hk⟩
        · exact .inr hk
    | halt x w' => simp only [pUpon] at h
  · rename_i hw
    simp only [hw] at h
    exact ⟨keep a hy _, by rw [← Act.put_comm a v undef h2]; exact h⟩


theorem wpAnyP_one {Q : Act → World → Prop} {i fuel : Nat} {listed : Array Bool} {a : Act} {w : World} (hr : Region.ready md ops listed = [i])
    (h : ∀ w', Bl w w' → pOp P R ops i (fun a'' w'' => (i ∉ L → C w'') ∧ wpAnyP P R md ops C L Q fuel (listed.setIfInBounds i true) a'' w'') a w') : wpAnyP P R md ops C L Q (fuel + 1) listed a w :=
  ⟨fun h0 => (by rw [hr] at h0; cases h0), fun j hj => by
    rw [hr, List.mem_singleton] at hj; subst hj; exact h⟩
theorem wpAnyP_done {Q : Act → World → Prop} {fuel : Nat} {listed : Array Bool} {a : Act} {w : World} (hr : Region.ready md ops listed = []) (h : ∀ w', Bl w w' → Q a w') : wpAnyP P R md ops C L Q fuel listed a w := by
  cases fuel with
  | zero => exact ⟨hr, h⟩
  | succ fuel => exact ⟨fun _ => h, fun i hi => by rw [hr] at hi; cases hi⟩
end
end Go.Proofs.YtkgpkkdcadkpmaaGreatDoor

set_option linter.unusedVariables false
set_option linter.unusedSimpArgs false
namespace Go.Proofs.YtkgpkkdcadkpmaaGreatDoor
open Go.RowKit
attribute [local go_sem] eOp eOper eUpon pOp pOper pUpon

section
variable {P : Program} {ops : Array Oper} {md : Region.Mode} {C : World → Prop} {R : List PanicEntry → World → Prop} {L : List Nat}
/-- does the j-th stand behind the i-th, through whatever others? -/
def behindT (md : Region.Mode) (ops : Array Oper) (i : Nat) : Nat → Nat → Bool
  | 0, _ => false
  | f + 1, j => match ops[j]? with
    | none => false
    | some o => o.after.any fun e => Region.binds md e && (e.on == i || behindT md ops i f e.on)
/-- what is listed has all that it stands behind listed -/
def Clo (md : Region.Mode) (ops : Array Oper) (listed : Array Bool) : Prop := ∀ j o, ops[j]? = some o → listed.getD j false = true → ∀ e ∈ o.after, Region.binds md e = true → listed.getD e.on false = true
theorem Clo.behind {md : Region.Mode} {ops : Array Oper} {listed : Array Bool} {i : Nat} (h : Clo md ops listed) : ∀ f j, listed.getD j false = true → behindT md ops i f j = true → listed.getD i false = true
  | 0, _, _, hb => by cases hb
  | f + 1, j, hj, hb => by
    unfold behindT at hb
    split at hb
    · cases hb
    · rename_i o ho
      obtain ⟨e, he, hb⟩ := Array.any_eq_true'.1 hb
      simp only [Bool.and_eq_true, Bool.or_eq_true, beq_iff_eq] at hb
      have h1 := h j o ho hj e he hb.1
      rcases hb.2 with h2 | h2
      · rw [← h2]; exact h1
      · exact Clo.behind h f e.on h1 h2
theorem ready_behind {md : Region.Mode} {ops : Array Oper} {listed : Array Bool} {i j : Nat} (h : Clo md ops listed) (hj : j ∈ Region.ready md ops listed) {f : Nat} (hb : behindT md ops i f j = true) : listed.getD i false = true := by
  obtain ⟨_, o, ho, hall⟩ := mem_ready.1 hj
  cases f with
  | zero => cases hb
  | succ f =>
    unfold behindT at hb
    rw [ho] at hb
    obtain ⟨e, he, hb⟩ := Array.any_eq_true'.1 hb
    simp only [Bool.and_eq_true, Bool.or_eq_true, beq_iff_eq] at hb
    have h1 := hall e he hb.1
    rcases hb.2 with h2 | h2
    · rw [← h2]; exact h1
    · exact h.behind f e.on h1 h2
theorem Clo.set {md : Region.Mode} {ops : Array Oper} {listed : Array Bool} {j : Nat} (h : Clo md ops listed) (hj : j ∈ Region.ready md ops listed) : Clo md ops (listed.setIfInBounds j true) := by
  intro k o hk hl e he hb
  by_cases hkj : k = j
  · subst hkj
    obtain ⟨_, o', ho', hall⟩ := mem_ready.1 hj
    rw [hk] at ho'
    obtain rfl := Option.some.inj ho'
    exact getD_set_true (hall e he hb)
  · rw [getD_set_ne false (Ne.symm hkj)] at hl
    exact getD_set_true (h k o hk hl e he hb)
theorem Clo.none (md : Region.Mode) (ops : Array Oper) (n : Nat) : Clo md ops (Array.replicate n false) := by
  intro j o _ hl
  exfalso
  rcases Nat.lt_or_ge j n with h | h
  · simp [h] at hl
  · simp [h] at hl
theorem wpAnyP_firstT (hcl : ∀ w w', C w → Bl w w' → C w') {Q : Act → World → Prop} {i : Nat} {oi : Oper} {v : Value} (hi : ops[i]? = some oi) (hsel : ∀ (j : Nat) (o : Oper) cs b, ops[j]? = some o → o.op ≠ .select cs b) :
    (L.all fun j => behindT md ops i ops.size j) = true → ∀ (fuel : Nat) (listed : Array Bool) (a : Act) (w : World), Clo md ops listed → C w →
      (∀ j oj, ops[j]? = some oj → j ≠ i → listed.getD j true = false → (∀ e ∈ oj.after, Region.binds md e = true → e.on ≠ i) → oi.apart ops oj = true) →
      i ∈ Region.ready md ops listed → YE P ops C oi v a →
      wpAnyP P R md ops C L Q fuel (listed.setIfInBounds i true) (a.put oi.dst v) w → wpAnyP P R md ops C L Q (fuel + 1) listed a w := by
  intro hL fuel
  induction fuel with
  | zero =>
    intro listed a w hclo hb _ hr hy H
    refine ⟨fun h => (by rw [h] at hr; cases hr), fun j hj w' hb' => ?_⟩
    by_cases hji : j = i
    · subst hji; exact hy.pOp hi (hcl _ _ hb hb') fun w'' hb'' => ⟨fun _ => hcl _ _ hb (hb'.trans hb''), wpAnyP_ext (hb'.trans hb'') H⟩
    · have := ready_mono hj hji
      rw [H.1] at this
      cases this
  | succ fuel ih =>
    intro listed a w hclo hb hfree hr hy H
    refine ⟨fun h => (by rw [h] at hr; cases hr), fun j hj w' hb' => ?_⟩
    by_cases hji : j = i
    · subst hji; exact hy.pOp hi (hcl _ _ hb hb') fun w'' hb'' => ⟨fun _ => hcl _ _ hb (hb'.trans hb''), wpAnyP_ext (hb'.trans hb'') H⟩
    · have h1 := H.2 j (ready_mono hj hji) w' hb'
      obtain ⟨hjun, oj, hoj, hall⟩ := mem_ready.1 hj
      have hnot : ∀ e ∈ oj.after, Region.binds md e = true → e.on ≠ i := fun e he hb heq => by
        have h1 := hall e he hb
        have h0 := (mem_ready.1 hr).1
        rw [heq] at h1
        rcases Nat.lt_or_ge i listed.size with h' | h'
        · simp [h'] at h0 h1; rw [h0] at h1; cases h1
        · simp [Array.getElem?_eq_none h'] at h1
      have hri : i ∈ Region.ready md ops (listed.setIfInBounds j true) := ready_mono hr (Ne.symm hji)
      have h2 := pOp_put hoj (hfree j oj hoj hji hjun hnot) (fun cs b => hsel i oi cs b hi) (fun cs b => hsel j oj cs b hoj) hy h1
      have hfree' : ∀ k ok, ops[k]? = some ok → k ≠ i → (listed.setIfInBounds j true).getD k true = false →
          (∀ e ∈ ok.after, Region.binds md e = true → e.on ≠ i) → oi.apart ops ok = true := fun k ok hk hki hun hno => by
        refine hfree k ok hk hki ?_ hno
        by_cases hjk : j = k
        · subst hjk; exact hjun
        · rw [getD_set_ne true hjk] at hun; exact hun
      refine pOp_mono (fun a' w'' h3 => ?_) h2
      have hjL : j ∉ L := fun hm => by
        have h0 := ready_behind hclo hj (List.all_eq_true.1 hL j hm)
        have h2 := (mem_ready.1 hr).1
        rcases Nat.lt_or_ge i listed.size with h' | h'
        · simp [h'] at h0 h2; rw [h2] at h0; cases h0
        · simp [Array.getElem?_eq_none h'] at h0
      have hC : C w'' := h3.2.1 hjL
      refine ⟨fun _ => hC, ih (listed.setIfInBounds j true) a' w'' (hclo.set hj) hC hfree' hri h3.1 ?_⟩
      rw [Array.setIfInBounds_comm _ _ hji]
      exact h3.2.2

theorem wpAnyP_idxT (hcl : ∀ w w', C w → Bl w w' → C w') {Q : Act → World → Prop} (hs : Region.noSelect ops = true) (m : Nat) (w : World) (hw : C w) : ∀ (is : List Nat) (listed : Array Bool) (a : Act), Clo md ops listed → (is.all fun i => L.all fun j => behindT md ops i ops.size j) = true →
    preB md ops is listed = true → wpI P ops C (fun a' => wpAnyP P R md ops C L Q m (setAll is listed) a' w) is a → wpAnyP P R md ops C L Q (is.length + m) listed a w
  | [], _, _, _, _, _, h => by rw [List.length_nil, Nat.zero_add]; exact h
  | i :: is, listed, a, hclo, hbe, hB, h => by
    simp only [preB, Bool.and_eq_true] at hB
    simp only [List.all_cons, Bool.and_eq_true] at hbe
    obtain ⟨⟨hr, hf⟩, hB'⟩ := hB
    obtain ⟨o, h0, h⟩ := h
    rw [List.length_cons, show is.length + 1 + m = (is.length + m) + 1 by omega]
    have key : ∀ v, YE P ops C o v a → wpI P ops C (fun a' => wpAnyP P R md ops C L Q m (setAll (i :: is) listed) a' w) is (a.put o.dst v) → wpAnyP P R md ops C L Q (is.length + m + 1) listed a w := fun v hy hK =>
      wpAnyP_firstT hcl h0 (Region.noSelect_spec hs) hbe.1 (is.length + m) listed a w hclo hw (Region.free_spec h0 hf) (by simpa using hr) hy
        (wpAnyP_idxT hcl hs m w hw is _ _ (hclo.set (by simpa using hr)) hbe.2 hB' hK)
    split at h
    · rename_i hw
      obtain ⟨v, hv, hK⟩ := h
      exact key v (.inl ⟨hw, fun w hb => hv ⟨w, hb⟩⟩) hK
    · rename_i hw
      exact key undef (.inr ⟨by simpa using hw, rfl⟩) h
/-- a region of which the named operations only tell or call and may be taken first; the others may panic; C need not hold behind those of L -/
theorem wp_region_panicsT {id : Nat} {Q : Exit → Act → World → Prop} {a : Act} {w : World} {l : List Oper} (is : List Nat) (m : Nat) (C : World → Prop) (hcl : ∀ w w', C w → Bl w w' → C w') (hw : C w.drew) (L : List Nat) (R : List PanicEntry → World → Prop) (hR : ∀ c t w, R c w → Q (.panic c) { a with tmps := t } w)
    (hm : P.follows .mixedOrders = true) (hn : l.length = is.length + m)
    (hs : Region.noSelect l.toArray = true) (hL : (is.all fun i => L.all fun j => behindT .any l.toArray i l.toArray.size j) = true) (hB : preB .any l.toArray is (Array.replicate l.length false) = true)
    (h : wpI P l.toArray C (fun a' => wpAnyP P R .any l.toArray C L (fun a w => Q .normal a w) m (setAll is (Array.replicate l.length false)) a' w.drew) is a) :
    (Code.region id l.toArray true).wp P Q a w := by
  have hR' : ∀ c a' w, a'.defers = a.defers → R c w → Q (.panic c) a' w := fun c a' w hd hr => by
    have := hR c a'.tmps w hr
    obtain ⟨t, d⟩ := a'
    dsimp only at hd this
    subst hd
    exact this
  refine wp_region_any hm (wpAny_of_P (C := C) (L := L) (R := R) (Q := fun a w => Q .normal a w) a (fun _ _ h => h) hR' _ _ _ _ rfl ?_)
  have hk := wpAnyP_idxT (md := .any) (L := L) (R := R) hcl (Q := fun a w => Q .normal a w) hs m w.drew hw is (Array.replicate l.length false) a (Clo.none _ _ _) hL hB h
  have e : is.length + m = l.toArray.size := by simp; omega
  rw [e] at hk
  simpa using hk
end
section
variable {ops : Array Oper}
end
/-- worlds that hold a box -/
def HasBox (g : Nat) (cs : List Value) (W' : World) : Prop := AC W' g cs
theorem HasBox.keep {g : Nat} {cs : List Value} (w w' : World) (h : HasBox g cs w) (k : Bl w w') : HasBox g cs w' := AC.keep h k
end Go.Proofs.YtkgpkkdcadkpmaaGreatDoor
end

/- bedrockbook.Book.Vecs: one more vector is kept. By an AI agent. -/
section
set_option linter.unusedVariables false
namespace Go.Proofs.YtkgpkkdcadkpmaaGreatDoor
open Go.RowKit
attribute [local go_sem] eOp eOper eUpon pOp pOper pUpon

theorem own_mono {W : World} {B B' n z : Nat} {E : TypeId} {v : Value} {cs : List Value} (h : W.ownsRow B E z v n cs) (hb : B' ≤ B) : W.ownsRow B' E z v n cs := by
  obtain ⟨h1, h2 | ⟨g, cap, cur, hv, hB, r⟩⟩ := h
  · exact ⟨h1, .inl h2⟩
  · exact ⟨h1, .inr ⟨g, cap, cur, hv, Nat.le_trans hb hB, r⟩⟩
theorem row_shape {W : World} {B n z : Nat} {E : TypeId} {v : Value} {cs : List Value} (h : W.ownsRow B E z v n cs) : ∃ a c, v = .slice a n c := by
  obtain ⟨_, ⟨rfl, h2⟩ | ⟨g, cap, cur, rfl, _⟩⟩ := h
  · subst h2; exact ⟨none, 0, rfl⟩
  · exact ⟨_, _, rfl⟩
/-- what Vecs leaves -/
structure VP (B : Nat) (w W : World) (g n : Nat) (vv wv : Value) (vcs ucs : List Value) (v : Value) (ys : List Int) (vv' wv' u : Value) : Prop where
  box : AC W g (bookCs vv' wv')
  rv : W.ownsRow B 22 1 vv' (n + 1) (vcs ++ [v])
  ru : W.ownsRow B 22 1 wv' (n + 1) (ucs ++ [u])
  fi : FI w.heap.size W u ys
  fr : Fr (fun b => b = g ∨ vv.ownBlock = some b ∨ wv.ownBlock = some b) w W
  bv : ∀ b, vv'.ownBlock = some b → vv.ownBlock = some b ∨ w.heap.size ≤ b
  bu : ∀ b, wv'.ownBlock = some b → wv.ownBlock = some b ∨ w.heap.size ≤ b
  av : u.ownBlock = none ∨ u.ownBlock ≠ vv'.ownBlock
  au : u.ownBlock = none ∨ u.ownBlock ≠ wv'.ownBlock
  avu : wv'.ownBlock = none ∨ wv'.ownBlock ≠ vv'.ownBlock
theorem grown_set (w : World) (g j : Nat) (u : Value) : w.grownBy (w.setCell ⟨g, j, none⟩ u) (some g) := ⟨rfl, rfl, rfl, by simp, fun k hk hne => Below.heap_setCell _ _ _ _ (fun e => hne (by rw [e]))⟩
theorem AC.setb {w : World} {g : Nat} {cs : List Value} (h : AC w g cs) (j : Nat) (v : Value) : AC (w.setCell ⟨g, j, none⟩ v) g (cs.set j v) := by
  obtain ⟨t, h⟩ := h
  exact ⟨t, by rw [heap_setCell_same w g j _ t v h]; simp⟩
theorem pOp_appK {ops : Array Oper} {R : List PanicEntry → World → Prop} {i : Nat} {o : Oper} {a : Act} {w : World} {K : Act → World → Prop} (ho' : ops[i]? = some o) (hgd : o.guard = none) (s x : Operand) (T : TypeId)
    (ho : o.op = .call { callee := .builtin .append, args := #[s, x], argTypes := #[T, T] }) {E : TypeId} {size bytes : Nat} (hT : EL T E size bytes) (B : Nat) (v : Value) (n : Nat) (xs : List Value) (hs : a.eval s = v) (hown : w.ownsRow B E size v n xs) (hB : B ≤ w.heap.size)
    (ad : Option Addr) (m c : Nat) (news : List Value) (hx : a.eval x = .slice ad m c) (hsc : SG w size ad m news) (h63 : n + m ≤ maxLen) (hbytes : (n + m) * bytes ≤ 140737488355328)
    (h : ∀ v' w', w'.ownsRow B E size v' (n + m) (xs ++ news) → w.grownBy w' v.ownBlock → (∀ b, v'.ownBlock = some b → v.ownBlock = some b ∨ w.heap.size ≤ b) → K (a.put o.dst v') w') : pOp Tryz.prog R ops i K a w := by
  obtain ⟨v', w', hr, h2, h3, h4, h5⟩ := run_appK hT o.type v n xs hown ad m c news hsc h63 hbytes hB
  unfold pOp
  simp only [ho']
  rw [if_pos (by simp [Region.wanted, hgd])]
  unfold pOper execOp
  simp only [ho, resolve, invoke, builtin, Sem.run_bind, Sem.run_pure, Result.andThen_ok, List.map_toArray, List.map_cons, List.map_nil, hs, hx, hr, pUpon]
  exact h v' w' h2 h3 h5
set_option maxHeartbeats 1000000 in
theorem vecs_any (B g n : Nat) (vv wv : Value) (vcs ucs : List Value) (a : Option Addr) (nv c : Nat) (ys : List Int) (w : World) (hn : n < 250) (hB : B ≤ w.heap.size) (hBg : B ≤ g) (hbox : AC w g (bookCs vv wv))
    (hv : w.ownsRow B 22 1 vv n vcs) (hu : w.ownsRow B 22 1 wv n ucs) (hgv : vv.ownBlock ≠ some g) (hgu : wv.ownBlock ≠ some g) (hvu : wv.ownBlock = none ∨ wv.ownBlock ≠ vv.ownBlock) (hx : IA w a nv ys)
    (hxg : ∀ b off, a = some ⟨b, off, none⟩ → ¬ (b = g ∨ vv.ownBlock = some b ∨ wv.ownBlock = some b)) :
    Calls Tryz.prog 37 #[.pointer (some ⟨g, 0, none⟩), .slice a nv c] w fun e w' => e = .returned (.tuple #[]) ∧ ∃ vv' wv' u, VP B w w' g n vv wv vcs ucs (.slice a nv c) ys vv' wv' u := by
  obtain ⟨va, cv, rfl⟩ := row_shape hv
  have HBX := Lib.hid hbox
  have HU := Lib.hid hu
  have HV := Lib.hid hv
  have HX := Lib.hid hx
  have HXG := Lib.hid hxg
  have HGV := Lib.hid hgv
  have HGU := Lib.hid hgu
  have HVU := Lib.hid hvu
  have hgl := hbox.lt
  clear hu hv hx hxg hgv hgu hvu hbox
  have c4 := HBX.out.cell 4 _ rfl
  have hn1 : decide ((n : Int) < 250) = true := decide_eq_true (by omega)
  have hn2 : decide (n < 250) = true := decide_eq_true hn
  go_enter Tryz.func37, Tryz.ntmps37
  have hbA := (Bl.refl w).alloc (.cells #[.slice a nv c] 22)
  have hlit : (w.alloc (.cells #[.slice a nv c] 22)).heap[w.heap.size]? = some (.cells [.slice a nv c].toArray 22 (0, 0)) := heap_alloc_new w _
  have HLT := Lib.hid (SG.lit (size := 1) hlit rfl (by intro u hu; simp at hu; subst hu; rfl))
  have hva := ownsRow_bl HV.out hbA
  have HBA := Lib.hid hbA
  clear hlit hbA
  go_wp2_with (at_builtin; refine wpList_appK rfl _ _ _ rfl el_rows B _ _ _ rfl hva ?cB (some ⟨w.heap.size, 0, none⟩) 1 1 _ rfl HLT.out ?cM ?cN ?_)
  case cB => simp; omega
  case cM => unfold maxLen; omega
  case cN => omega
  intro vv' w1 ho hg _ hb
  obtain ⟨va', cv', rfl⟩ := row_shape ho
  have hfr : Fr (fun b => b = g ∨ (Value.slice va n cv).ownBlock = some b ∨ wv.ownBlock = some b) w w1 := ((Fr.refl _ w).bl HBA.out).grown hg (fun i e => .inr (.inl e))
  have hbx : AC w1 g (bookCs (.slice va n cv) wv) := by
    have h1 := HBX.out.keep HBA.out
    obtain ⟨t, h2⟩ := h1
    exact ⟨t, by rw [hg.block g (lt_of_heap h2) (fun e => HGV.out e.symm)]; exact h2⟩
  have hu1 : w1.ownsRow B 22 1 wv n ucs := World.ownsRow.kept (ownsRow_bl HU.out HBA.out) hg HVU.out
  have c4' := hbx.cell 4 _ rfl
  have f4 := hbx.frozen 4
  have HFR := Lib.hid hfr
  have HB1 := Lib.hid hbx
  have HU1 := Lib.hid hu1
  have HO := Lib.hid ho
  have HBV := Lib.hid hb
  have HSZ := Lib.hid (show w.heap.size < w1.heap.size from by have := hg.size; simp at this; omega)
  clear c4 ho hg hb hfr hbx hu1 hva hn1 hn2 hBg hgl
  go_upto_region 2 with fail
  have HFR2 := Lib.hid (HFR.out.grown (grown_set w1 g 4 (.slice va' (n + 1) cv')) (fun i e => .inl (Option.some.inj e).symm))
  have HB2 := Lib.hid (show AC (w1.setCell ⟨g, 4, none⟩ (.slice va' (n + 1) cv')) g (bookCs (.slice va' (n + 1) cv') wv) from HB1.out.setb 4 _)
  have hvg : (Value.slice va' (n + 1) cv').ownBlock ≠ some g := fun e => by
    rcases HBV.out g e with q | q
    · exact HGV.out q
    · have := HBX.out.lt; have := HBA.out.size; omega
  have HVG := Lib.hid hvg
  have HO2 := Lib.hid (World.ownsRow.kept HO.out (grown_set w1 g 4 (.slice va' (n + 1) cv')) (.inr hvg))
  have HU2 := Lib.hid (World.ownsRow.kept HU1.out (grown_set w1 g 4 (.slice va' (n + 1) cv')) (.inr HGU.out))
  have HX2 := Lib.hid (HFR2.out.ia HX.out HXG.out)
  have hsz2 : w.heap.size < (w1.setCell ⟨g, 4, none⟩ (.slice va' (n + 1) cv')).heap.size := by simp; exact HSZ.out
  have HSZ2 := Lib.hid hsz2
  clear hvg hsz2 f4 c4' HFR HB1 HO HU1 HLT
  generalize w1.setCell _ _ = w2 at *
  obtain ⟨ua, cu, hwv⟩ := row_shape HU2.out
  subst hwv
  refine wp_region_panicsT [0, 1, 2, 3, 4, 5] 6 (HasBox g (bookCs (.slice va' (n + 1) cv') (.slice ua n cu))) HasBox.keep (HB2.out.keep ((Bl.refl w2).drew)) [11] (fun c W' => False) ?hR (by kernel_rfl) rfl (by kernel_rfl) (by kernel_rfl) (by kernel_rfl) ?_
  case hR => intro c tt W' h; exact h.elim
  have HBZ := Lib.hid ((Bl.refl w2).drew)
  generalize w2.drew = Z at *
  have HBXZ := Lib.hid (HB2.out.keep HBZ.out)
  haveI : Nonempty (ExtC (HasBox g (bookCs (.slice va' (n + 1) cv') (.slice ua n cu)))) := ⟨⟨Z, HBXZ.out⟩⟩
  have d5 : ∀ q : ExtC (HasBox g (bookCs (.slice va' (n + 1) cv') (.slice ua n cu))), _ := fun q => AC.cell q.ok 5 _ rfl
  repeat (refine wpI_step rfl (fun K hK => ?_); go_simp; first | (refine hK _ ?_; clear hK K) | (apply Exists.intro; refine ⟨fun q => ?_, hK _ ?_⟩; fail; clear hK K))
  refine wpI_nil ?_
  clear d5 this
  refine wpAnyP_one (i := 6) (by kernel_rfl) ?_
  intro Y1 hy1
  have HY1 := Lib.hid (HBZ.out.trans hy1)
  clear hy1
  go_simp
  refine (copyVecs_any a nv c ys Y1 (HX2.out.keep HY1.out)).mono ?_
  rintro e Y2 ⟨u, rfl, hfi, hb2⟩
  have HY2 := Lib.hid (HY1.out.trans hb2)
  have HFI := Lib.hid hfi
  have hszA := HY1.out.size
  have hfo := hfi.own
  obtain ⟨a5, c5, hu5, _⟩ := hfo.shape
  rw [HX.out.len] at hu5
  subst hu5
  clear hb2 hfi hfo
  go_simp
  refine ⟨HB2.out.keep HY2.out, ?_⟩
  refine wpAnyP_one (i := 7) (by kernel_rfl) ?_
  intro Y3 hy3
  go_simp
  have hbl := hy3.alloc (.cells #[.slice a5 nv c5] 22)
  have hlit : (Y3.alloc (.cells #[.slice a5 nv c5] 22)).heap[Y3.heap.size]? = some (.cells [.slice a5 nv c5].toArray 22 (0, 0)) := heap_alloc_new Y3 _
  have HLT := Lib.hid (SG.lit (size := 1) hlit rfl (by intro u hu; simp at hu; subst hu; rfl))
  have HY3 := Lib.hid (HY2.out.trans hbl)
  have HFI3 := Lib.hid (HFI.out.keep hbl)
  refine ⟨HB2.out.keep HY3.out, ?_⟩
  clear hlit hbl hy3 HFI HY2
  generalize Y3.alloc _ = Y4 at *
  generalize Y3.heap.size = gl at *
  refine wpAnyP_one (i := 8) (by kernel_rfl) ?_
  intro Y5 hy5
  have HY5 := Lib.hid (HY3.out.trans hy5)
  have HFI5 := Lib.hid (HFI3.out.keep hy5)
  have HL5 := Lib.hid (HLT.out.keep hy5)
  have HU5 := Lib.hid (ownsRow_bl HU2.out HY5.out)
  have HB5 := Lib.hid (HB2.out.keep HY5.out)
  have HO5 := Lib.hid (ownsRow_bl HO2.out HY5.out)
  have hsz5 := HY5.out.size
  clear hy5 HFI3 HLT HY3
  refine pOp_appK rfl rfl _ _ _ rfl el_rows B (.slice ua n cu) n ucs rfl HU5.out (by have := HSZ2.out; omega) (some ⟨gl, 0, none⟩) 1 1 _ rfl HL5.out (by unfold maxLen; omega) (by omega) ?_
  intro wv' Y6 ho6 hg6 hb6
  have hul : ∀ b, (Value.slice ua n cu).ownBlock = some b → b < w.heap.size := fun b e => (World.ownsRow.lt HU.out b e).2
  have hvu' : (Value.slice va' (n + 1) cv').ownBlock = none ∨ (Value.slice va' (n + 1) cv').ownBlock ≠ (Value.slice ua n cu).ownBlock := by
    cases e : (Value.slice va' (n + 1) cv').ownBlock with
    | none => exact .inl rfl
    | some b =>
      refine .inr (fun e2 => ?_)
      rcases HBV.out b e with q | q
      · rcases HVU.out with r | r
        · rw [r] at e2; cases e2
        · exact r (e2.symm.trans q.symm)
      · have := hul b e2.symm; omega
  have hbx6 : AC Y6 g (bookCs (.slice va' (n + 1) cv') (.slice ua n cu)) := by
    obtain ⟨t, h2⟩ := HB5.out
    exact ⟨t, by rw [hg6.block g (lt_of_heap h2) (fun e => HGU.out e.symm)]; exact h2⟩
  have hfo6 : OI Y1.heap.size Y6 (.slice a5 nv c5) ys := World.ownsRow.kept HFI5.out.own hg6 (by
    cases e : (Value.slice a5 nv c5).ownBlock with
    | none => exact .inl rfl
    | some b => exact .inr (fun e2 => by have := hul b e2.symm; have := (World.ownsRow.lt HFI5.out.own b e).1; have := HSZ2.out; omega))
  have HFI6 : Hid (FI w.heap.size Y6 (.slice a5 nv c5) ys) := Lib.hid ⟨own_mono hfo6 (by have := HSZ2.out; omega), HFI5.out.cap, HFI5.out.wf⟩
  have HO6 := Lib.hid (World.ownsRow.kept HO5.out hg6 hvu')
  have HB6 := Lib.hid hbx6
  have HW6 := Lib.hid ho6
  have HFR6 := Lib.hid ((HFR2.out.bl HY5.out).grown hg6 (fun i e => .inr (.inr e)))
  have HBU := Lib.hid (fun b (e : wv'.ownBlock = some b) => (hb6 b e).imp_right (fun q => Nat.le_trans (Nat.le_of_lt HSZ2.out) (Nat.le_trans hsz5 q)))
  have hau : ∀ b, (Value.slice a5 nv c5).ownBlock = some b → w2.heap.size ≤ b ∧ b < Y5.heap.size := fun b e => by
    have h1 := World.ownsRow.lt HFI5.out.own b e
    exact ⟨Nat.le_trans hszA h1.1, h1.2⟩
  have HAU : Hid ((Value.slice a5 nv c5).ownBlock = none ∨ (Value.slice a5 nv c5).ownBlock ≠ wv'.ownBlock) := Lib.hid (by
    cases e : (Value.slice a5 nv c5).ownBlock with
    | none => exact .inl rfl
    | some b =>
      refine .inr (fun e2 => ?_)
      have h1 := hau b e
      rcases hb6 b e2.symm with q | q
      · have := hul b q; have := HSZ2.out; omega
      · omega)
  have HAV : Hid ((Value.slice a5 nv c5).ownBlock = none ∨ (Value.slice a5 nv c5).ownBlock ≠ (Value.slice va' (n + 1) cv').ownBlock) := Lib.hid (by
    cases e : (Value.slice a5 nv c5).ownBlock with
    | none => exact .inl rfl
    | some b =>
      refine .inr (fun e2 => ?_)
      have h1 := hau b e
      have := (World.ownsRow.lt HO2.out b e2.symm).2
      omega)
  have HAVU : Hid (wv'.ownBlock = none ∨ wv'.ownBlock ≠ (Value.slice va' (n + 1) cv').ownBlock) := Lib.hid (by
    cases e : wv'.ownBlock with
    | none => exact .inl rfl
    | some b =>
      refine .inr (fun e2 => ?_)
      rcases hb6 b e with q | q
      · rcases hvu' with r | r
        · rw [r] at e2; cases e2
        · exact r (e2.symm.trans q.symm)
      · have := (World.ownsRow.lt HO2.out b e2.symm).2; omega)
  have hwg : wv'.ownBlock ≠ some g := fun e => by
    rcases hb6 g e with q | q
    · exact HGU.out q
    · have := HBX.out.lt; have := HSZ2.out; omega
  have HWG := Lib.hid hwg
  refine ⟨fun _ => hbx6, ?_⟩
  simp only [Act.put, List.setIfInBounds_toArray]
  obtain ⟨wa, wc, hws⟩ := row_shape ho6
  subst hws
  clear ho6 hg6 hb6 hul hvu' hbx6 hfo6 hau hwg HB5 HO5 HU5 HFI5 HL5 HY5 hsz5 HFR2 HO2 HU2 HX2 HB2
  refine wpAnyP_one (i := 9) (by kernel_rfl) ?_
  intro Y7 hy7
  go_simp
  refine ⟨HB6.out.keep hy7, ?_⟩
  refine wpAnyP_one (i := 10) (by kernel_rfl) ?_
  intro Y8 hy8
  go_simp
  refine ⟨HB6.out.keep (hy7.trans hy8), ?_⟩
  refine wpAnyP_one (i := 11) (by kernel_rfl) ?_
  intro Y9 hy9
  have HY9 := Lib.hid ((hy7.trans hy8).trans hy9)
  clear hy7 hy8 hy9
  have HB9 := Lib.hid (HB6.out.keep HY9.out)
  have c5' := HB9.out.cell 5 _ rfl
  have f5' := HB9.out.frozen 5
  have HB10 := Lib.hid (show AC (Y9.setCell ⟨g, 5, none⟩ (.slice wa (n + 1) wc)) g (bookCs (.slice va' (n + 1) cv') (.slice wa (n + 1) wc)) from HB9.out.setb 5 _)
  have hgs := grown_set Y9 g 5 (.slice wa (n + 1) wc)
  have HO10 := Lib.hid (World.ownsRow.kept (ownsRow_bl HO6.out HY9.out) hgs (.inr HVG.out))
  have HW10 := Lib.hid (World.ownsRow.kept (ownsRow_bl HW6.out HY9.out) hgs (.inr HWG.out))
  have hug : (Value.slice a5 nv c5).ownBlock ≠ some g := fun e => by
    have h1 := (World.ownsRow.lt HFI6.out.own g e).1
    have h2 := HBX.out.lt
    omega
  have HF10 : Hid (FI w.heap.size (Y9.setCell ⟨g, 5, none⟩ (.slice wa (n + 1) wc)) (.slice a5 nv c5) ys) := Lib.hid ⟨World.ownsRow.kept (ownsRow_bl HFI6.out.own HY9.out) hgs (.inr hug), HFI6.out.cap, HFI6.out.wf⟩
  have HFR10 := Lib.hid ((HFR6.out.bl HY9.out).grown hgs (fun i e => .inl (Option.some.inj e).symm))
  clear hgs hug HO6 HW6 HFI6 HFR6 HB6 HB9 HY9
  go_simp
  clear c5' f5'
  generalize World.setCell _ _ _ = Y10 at *
  refine wpAnyP_done (by kernel_rfl) ?_
  intro Y11 hy11
  have HY := Lib.hid hy11
  clear hy11
  go_wp2_with fail
  go_end0
  exact ⟨rfl, _, _, _, HB10.out.keep HY.out, ownsRow_bl HO10.out HY.out, ownsRow_bl HW10.out HY.out, HF10.out.keep HY.out, HFR10.out.bl HY.out, fun b e => (HBV.out b e).imp_right (fun q => by omega), HBU.out, HAV.out, HAU.out, HAVU.out⟩
end Go.Proofs.YtkgpkkdcadkpmaaGreatDoor
end

/- bedrockbook.Book.Vec, and the state of a book that is still written on. By an AI agent. -/
section
set_option linter.unusedVariables false
namespace Go.Proofs.YtkgpkkdcadkpmaaGreatDoor
open Go.RowKit

/-- a book of vectors that is still written on -/
structure BO (B : Nat) (W : World) (g n : Nat) (vv wv : Value) (vs us : Nat → Value) (xs : Nat → List Int) : Prop where
  few : n ≤ 250
  base : B ≤ g
  box : AC W g (bookCs vv wv)
  rv : W.ownsRow B 22 1 vv n ((List.range n).map vs)
  ru : W.ownsRow B 22 1 wv n ((List.range n).map us)
  fv : ∀ j, j < n → FI B W (vs j) (xs j)
  fu : ∀ j, j < n → FI B W (us j) (xs j)
  small : ∀ j, j < n → (xs j).length ≤ 50000
  gv : vv.ownBlock ≠ some g
  gu : wv.ownBlock ≠ some g
  vu : wv.ownBlock = none ∨ wv.ownBlock ≠ vv.ownBlock
  avg : ∀ j, j < n → ∀ b, (vs j).ownBlock = some b → ¬ (b = g ∨ vv.ownBlock = some b ∨ wv.ownBlock = some b)
  aug : ∀ j, j < n → ∀ b, (us j).ownBlock = some b → ¬ (b = g ∨ vv.ownBlock = some b ∨ wv.ownBlock = some b)
  avv : ∀ i j, i < n → j < n → i ≠ j → (vs i).ownBlock = none ∨ (vs i).ownBlock ≠ (vs j).ownBlock
theorem BO.keep {B : Nat} {W W' : World} {g n : Nat} {vv wv : Value} {vs us : Nat → Value} {xs : Nat → List Int} (h : BO B W g n vv wv vs us xs) (hb : Bl W W') : BO B W' g n vv wv vs us xs :=
  ⟨h.few, h.base, h.box.keep hb, ownsRow_bl h.rv hb, ownsRow_bl h.ru hb, fun j hj => (h.fv j hj).keep hb, fun j hj => (h.fu j hj).keep hb, h.small, h.gv, h.gu, h.vu, h.avg, h.aug, h.avv⟩
theorem BO.new {B : Nat} {W : World} {g : Nat} (hB : B ≤ g) (h : AC W g (bookCs (.slice none 0 0) (.slice none 0 0))) : BO B W g 0 (.slice none 0 0) (.slice none 0 0) (fun _ => undef) (fun _ => undef) (fun _ => []) :=
  ⟨by omega, hB, h, World.ownsRow_nil _ _ _ _, World.ownsRow_nil _ _ _ _, fun j hj => absurd hj (Nat.not_lt_zero _), fun j hj => absurd hj (Nat.not_lt_zero _), fun j hj => absurd hj (Nat.not_lt_zero _), (fun e => by cases e), (fun e => by cases e), .inl rfl, fun j hj => absurd hj (Nat.not_lt_zero _), fun j hj => absurd hj (Nat.not_lt_zero _), fun i j hi => absurd hi (Nat.not_lt_zero _)⟩
theorem BO.bk {B : Nat} {W : World} {g n : Nat} {vv wv : Value} {vs us : Nat → Value} {xs : Nat → List Int} (h : BO B W g n vv wv vs us xs) : ∃ va ua cv cu, BK B W g va ua n cv cu vs us xs := by
  obtain ⟨va, cv, rfl, hva⟩ := row_la h.rv
  obtain ⟨ua, cu, rfl, hua⟩ := row_la h.ru
  refine ⟨va, ua, cv, cu, h.box, h.few, hva, hua, fun j hj => (h.fv j hj).own, h.small, fun j hj => ⟨(h.fv j hj).si, (h.fu j hj).si⟩, h.avv, ?_, fun b off e => ?_⟩
  · rintro ⟨j, hj, e⟩
    exact h.avg j hj g e (.inl rfl)
  · rintro ⟨j, hj, e2⟩
    subst e
    exact h.avg j hj b e2 (.inr (.inl rfl))
theorem BO.step {B : Nat} {w W : World} {g n : Nat} {vv wv vv' wv' v u : Value} {vs us : Nat → Value} {xs : Nat → List Int} {ys : List Int} (h : BO B w g n vv wv vs us xs) (hn : n < 250) (hB : B ≤ w.heap.size) (hv : FI B w v ys) (hl : ys.length ≤ 50000)
    (hav : ∀ b, v.ownBlock = some b → ¬ (b = g ∨ vv.ownBlock = some b ∨ wv.ownBlock = some b)) (hvs : ∀ j, j < n → v.ownBlock = none ∨ v.ownBlock ≠ (vs j).ownBlock)
    (p : VP B w W g n vv wv ((List.range n).map vs) ((List.range n).map us) v ys vv' wv' u) :
    BO B W g (n + 1) vv' wv' (fun j => if j = n then v else vs j) (fun j => if j = n then u else us j) (fun j => if j = n then ys else xs j) := by
  have hgl := h.box.lt
  have row : ∀ (f : Nat → Value) (x : Value), (List.range (n + 1)).map (fun j => if j = n then x else f j) = (List.range n).map f ++ [x] := fun f x => by
    rw [List.range_succ, List.map_append]
    congr 1
    · exact List.map_congr_left (fun j hj => if_neg (by have := List.mem_range.1 hj; omega))
    · simp
  have old : ∀ b, b < w.heap.size → ¬ (b = g ∨ vv.ownBlock = some b ∨ wv.ownBlock = some b) → ¬ (b = g ∨ vv'.ownBlock = some b ∨ wv'.ownBlock = some b) := fun b hb hs hq => by
    rcases hq with q | q | q
    · exact hs (.inl q)
    · rcases p.bv b q with r | r
      · exact hs (.inr (.inl r))
      · omega
    · rcases p.bu b q with r | r
      · exact hs (.inr (.inr r))
      · omega
  refine ⟨by omega, h.base, p.box, by rw [row]; exact p.rv, by rw [row]; exact p.ru, fun j hj => ?_, fun j hj => ?_, fun j hj => ?_, fun e => ?_, fun e => ?_, p.avu, fun j hj b e => ?_, fun j hj b e => ?_, fun i j hi hj hij => ?_⟩
  · by_cases e : j = n
    · subst e; rw [if_pos rfl, if_pos rfl]; exact hv.fr p.fr hav
    · rw [if_neg e, if_neg e]; exact (h.fv j (by omega)).fr p.fr (h.avg j (by omega))
  · by_cases e : j = n
    · subst e; rw [if_pos rfl, if_pos rfl]; exact ⟨own_mono p.fi.own hB, p.fi.cap, p.fi.wf⟩
    · rw [if_neg e, if_neg e]; exact (h.fu j (by omega)).fr p.fr (h.aug j (by omega))
  · by_cases e : j = n
    · subst e; rw [if_pos rfl]; exact hl
    · rw [if_neg e]; exact h.small j (by omega)
  · rcases p.bv g e with q | q
    · exact h.gv q
    · omega
  · rcases p.bu g e with q | q
    · exact h.gu q
    · omega
  · by_cases e1 : j = n
    · subst e1; rw [if_pos rfl] at e
      exact old b (World.ownsRow.lt hv.own b e).2 (hav b e)
    · rw [if_neg e1] at e
      exact old b (World.ownsRow.lt (h.fv j (by omega)).own b e).2 (h.avg j (by omega) b e)
  · by_cases e1 : j = n
    · subst e1; rw [if_pos rfl] at e
      have hb := (World.ownsRow.lt p.fi.own b e).1
      rintro (q | q | q)
      · omega
      · rcases p.av with r | r
        · rw [r] at e; cases e
        · exact r (e.trans q.symm)
      · rcases p.au with r | r
        · rw [r] at e; cases e
        · exact r (e.trans q.symm)
    · rw [if_neg e1] at e
      exact old b (World.ownsRow.lt (h.fu j (by omega)).own b e).2 (h.aug j (by omega) b e)
  · by_cases e1 : i = n
    · subst e1
      rw [if_pos rfl, if_neg (by omega)]
      exact hvs j (by omega)
    · rw [if_neg e1]
      by_cases e2 : j = n
      · subst e2
        rw [if_pos rfl]
        rcases hvs i (by omega) with q | q
        · cases hq : (vs i).ownBlock with
          | none => exact .inl rfl
          | some b => exact .inr (by rw [q]; exact fun h => by cases h)
        · exact .inr (fun h => q h.symm)
      · rw [if_neg e2]
        exact h.avv i j (by omega) (by omega) hij
theorem bookVec_any (B g n : Nat) (vv wv : Value) (vcs ucs : List Value) (a : Option Addr) (nv c : Nat) (ys : List Int) (w : World) (hn : n < 250) (hB : B ≤ w.heap.size) (hBg : B ≤ g) (hbox : AC w g (bookCs vv wv))
    (hv : w.ownsRow B 22 1 vv n vcs) (hu : w.ownsRow B 22 1 wv n ucs) (hgv : vv.ownBlock ≠ some g) (hgu : wv.ownBlock ≠ some g) (hvu : wv.ownBlock = none ∨ wv.ownBlock ≠ vv.ownBlock) (hx : IA w a nv ys)
    (hxg : ∀ b off, a = some ⟨b, off, none⟩ → ¬ (b = g ∨ vv.ownBlock = some b ∨ wv.ownBlock = some b)) :
    Calls Tryz.prog 19 #[.pointer (some ⟨g, 0, none⟩), .slice a nv c] w fun e w' => e = .returned (.tuple #[]) ∧ ∃ vv' wv' u, VP B w w' g n vv wv vcs ucs (.slice a nv c) ys vv' wv' u := by
  have HC := Lib.hid (vecs_any B g n vv wv vcs ucs a nv c ys w hn hB hBg hbox hv hu hgv hgu hvu hx hxg)
  clear hn hB hBg hbox hv hu hgv hgu hvu hx hxg
  go_enter Tryz.func19, Tryz.ntmps19
  go_wp2_with fail
  refine HC.out.mono ?_
  rintro e w1 ⟨rfl, vv', wv', u, hp⟩
  have HP := Lib.hid hp
  clear hp
  go_wp2_with fail
  go_end0
  exact ⟨rfl, vv', wv', u, HP.out⟩
/-- a book that is full keeps nothing more -/
theorem vecs_full (g : Nat) (va : Option Addr) (cv : Nat) (wv v : Value) (w : World) (hbox : AC w g (bookCs (.slice va 250 cv) wv)) :
    Calls Tryz.prog 37 #[.pointer (some ⟨g, 0, none⟩), v] w fun e w' => e = .returned (.tuple #[]) ∧ w = w' := by
  have c4 := hbox.cell 4 _ rfl
  clear hbox
  go_enter Tryz.func37, Tryz.ntmps37
  go_wp2_with fail
  go_end0
  exact ⟨rfl, rfl⟩
theorem bookVec_full (g : Nat) (va : Option Addr) (cv : Nat) (wv v : Value) (w : World) (hbox : AC w g (bookCs (.slice va 250 cv) wv)) :
    Calls Tryz.prog 19 #[.pointer (some ⟨g, 0, none⟩), v] w fun e w' => e = .returned (.tuple #[]) ∧ w = w' := by
  have HC := Lib.hid (vecs_full g va cv wv v w hbox)
  clear hbox
  go_enter Tryz.func19, Tryz.ntmps19
  go_wp2_with fail
  refine HC.out.mono ?_
  rintro e w1 ⟨rfl, rfl⟩
  go_wp2_with fail
  go_end0
  exact ⟨rfl, rfl⟩
end Go.Proofs.YtkgpkkdcadkpmaaGreatDoor
end

/- A book of vectors, with the vectors that are still to be put on it. By an AI agent. -/
section
set_option linter.unusedVariables false
namespace Go.Proofs.YtkgpkkdcadkpmaaGreatDoor
open Go.RowKit

theorem Fr.mono {S S' : Nat → Prop} {w w' : World} (h : Fr S w w') (hs : ∀ b, S b → S' b) : Fr S' w w' := ⟨h.os, h.tape, h.output, h.size, fun k hk q => h.block k hk (fun q2 => q (hs k q2))⟩
/-- behind Fr nothing has turned that the world w0 had, where all that may turn lies behind it -/
theorem Bl.fr {w0 w w' : World} {S : Nat → Prop} (h : Bl w0 w) (k : Fr S w w') (hs : ∀ b, S b → w0.heap.size ≤ b) : Bl w0 w' := Below.trans h (k.below h.size hs)
/-- the blocks that a call of Vec may turn -/
def BS (g : Nat) (vv wv : Value) (b : Nat) : Prop := b = g ∨ vv.ownBlock = some b ∨ wv.ownBlock = some b
structure BPx (B : Nat) (W : World) (g n : Nat) (vv wv : Value) (vs us : Nat → Value) (xs : Nat → List Int) (ps : List (Value × List Int)) (T : Nat → Prop) : Prop where
  bo : BO B W g n vv wv vs us xs
  fi : ∀ p ∈ ps, FI B W p.1 p.2 ∧ p.2.length ≤ 50000
  ap : ∀ p ∈ ps, ∀ b, p.1.ownBlock = some b → ¬ BS g vv wv b
  av : ∀ p ∈ ps, ∀ j, j < n → p.1.ownBlock = none ∨ p.1.ownBlock ≠ (vs j).ownBlock
  pw : ps.Pairwise (fun p q => p.1.ownBlock = none ∨ p.1.ownBlock ≠ q.1.ownBlock)
  t : ∀ b, T b → b < W.heap.size ∧ ¬ BS g vv wv b
def BP (B : Nat) (W : World) (g : Nat) (ps : List (Value × List Int)) (T : Nat → Prop) : Prop := ∃ n vv wv vs us xs, BPx B W g n vv wv vs us xs ps T
theorem BP.keep {B : Nat} {W W' : World} {g : Nat} {ps : List (Value × List Int)} {T : Nat → Prop} (h : BP B W g ps T) (hb : Bl W W') : BP B W' g ps T := by
  obtain ⟨n, vv, wv, vs, us, xs, h⟩ := h
  exact ⟨n, vv, wv, vs, us, xs, h.bo.keep hb, fun p hp => ⟨(h.fi p hp).1.keep hb, (h.fi p hp).2⟩, h.ap, h.av, h.pw, fun b hb' => ⟨Nat.lt_of_lt_of_le (h.t b hb').1 hb.size, (h.t b hb').2⟩⟩
theorem BPx.sub {B : Nat} {W : World} {g n : Nat} {vv wv : Value} {vs us : Nat → Value} {xs : Nat → List Int} {ps : List (Value × List Int)} {T : Nat → Prop} (h : BPx B W g n vv wv vs us xs ps T) {b : Nat} (hb : BS g vv wv b) : b < W.heap.size := by
  rcases hb with rfl | q | q
  · exact h.bo.box.lt
  · exact (World.ownsRow.lt h.bo.rv b q).2
  · exact (World.ownsRow.lt h.bo.ru b q).2
/-- one more vector is to be kept: the call has just made it -/
theorem BP.push {B : Nat} {W W' : World} {g : Nat} {ps : List (Value × List Int)} {T : Nat → Prop} (h : BP B W g ps T) (hb : Bl W W') (hB : B ≤ W.heap.size) {v : Value} {ys : List Int} (hv : FI W.heap.size W' v ys) (hl : ys.length ≤ 50000) : BP B W' g (ps ++ [(v, ys)]) T := by
  have h0 := h
  obtain ⟨n, vv, wv, vs, us, xs, h⟩ := h
  refine ⟨n, vv, wv, vs, us, xs, h.bo.keep hb, fun p hp => ?_, fun p hp b e => ?_, fun p hp j hj => ?_, ?_, fun b hb' => ⟨Nat.lt_of_lt_of_le (h.t b hb').1 hb.size, (h.t b hb').2⟩⟩
  · rcases List.mem_append.1 hp with q | q
    · exact ⟨(h.fi p q).1.keep hb, (h.fi p q).2⟩
    · rw [List.mem_singleton] at q; subst q
      exact ⟨⟨own_mono hv.own hB, hv.cap, hv.wf⟩, hl⟩
  · rcases List.mem_append.1 hp with q | q
    · exact h.ap p q b e
    · rw [List.mem_singleton] at q; subst q
      have h1 := (World.ownsRow.lt hv.own b e).1
      exact fun q => by have := h.sub q; omega
  · rcases List.mem_append.1 hp with q | q
    · exact h.av p q j hj
    · rw [List.mem_singleton] at q; subst q
      cases e : v.ownBlock with
      | none => exact .inl rfl
      | some b =>
        refine .inr (fun e2 => ?_)
        have h1 := (World.ownsRow.lt hv.own b e).1
        have h2 := (World.ownsRow.lt (h.bo.fv j hj).own b e2.symm).2
        omega
  · refine List.pairwise_append.2 ⟨h.pw, List.pairwise_singleton _ _, fun p hp q hq => ?_⟩
    rw [List.mem_singleton] at hq; subst hq
    cases e : p.1.ownBlock with
    | none => exact .inl rfl
    | some b =>
      refine .inr (fun e2 => ?_)
      have h1 := (World.ownsRow.lt hv.own b e2.symm).1
      have h2 := (World.ownsRow.lt (h.fi p hp).1.own b e).2
      omega
theorem BP.new {B : Nat} {W : World} {g : Nat} {T : Nat → Prop} (hB : B ≤ g) (h : AC W g (bookCs (.slice none 0 0) (.slice none 0 0))) (ht : ∀ b, T b → b < W.heap.size ∧ b ≠ g) : BP B W g [] T := by
  refine ⟨0, _, _, _, _, _, ⟨BO.new hB h, fun p hp => ?_, fun p hp => ?_, fun p hp => ?_, List.Pairwise.nil, fun b hb => ⟨(ht b hb).1, ?_⟩⟩⟩
  · cases hp
  · cases hp
  · cases hp
  · rintro (q | q | q)
    · exact (ht b hb).2 q
    · cases q
    · cases q
theorem bp_vec (B g : Nat) (v : Value) (ys : List Int) (ps : List (Value × List Int)) (T : Nat → Prop) (w : World) (hB : B ≤ w.heap.size) (h : BP B w g ((v, ys) :: ps) T) :
    Calls Tryz.prog 19 #[.pointer (some ⟨g, 0, none⟩), v] w fun e w' => e = .returned (.tuple #[]) ∧ BP B w' g ps T ∧ Fr (fun b => ¬ T b) w w' := by
  obtain ⟨n, vv, wv, vs, us, xs, h⟩ := h
  have hv := (h.fi _ (List.mem_cons_self ..)).1
  have hvl := (h.fi _ (List.mem_cons_self ..)).2
  have hva := h.ap _ (List.mem_cons_self ..)
  have hpw := List.pairwise_cons.1 h.pw
  by_cases hn : n < 250
  · obtain ⟨a, m, c, rfl, hia⟩ := hv.si
    refine (bookVec_any B g n vv wv _ _ a m c ys w hn hB h.bo.base h.bo.box h.bo.rv h.bo.ru h.bo.gv h.bo.gu h.bo.vu hia (fun b off e => by subst e; exact hva b rfl)).mono ?_
    rintro e w' ⟨rfl, vv', wv', u, p⟩
    have old : ∀ b, b < w.heap.size → ¬ BS g vv wv b → ¬ BS g vv' wv' b := fun b hb hs hq => by
      rcases hq with q | q | q
      · exact hs (.inl q)
      · rcases p.bv b q with r | r
        · exact hs (.inr (.inl r))
        · omega
      · rcases p.bu b q with r | r
        · exact hs (.inr (.inr r))
        · omega
    refine ⟨rfl, ⟨n + 1, vv', wv', _, _, _, h.bo.step hn hB hv hvl hva (h.av _ (List.mem_cons_self ..)) p, fun q hq => ?_, fun q hq b e => ?_, fun q hq j hj => ?_, hpw.2, fun b hb => ?_⟩, p.fr.mono (fun b hb ht => (h.t b ht).2 hb)⟩
    · exact ⟨(h.fi q (List.mem_cons_of_mem _ hq)).1.fr p.fr (h.ap q (List.mem_cons_of_mem _ hq)), (h.fi q (List.mem_cons_of_mem _ hq)).2⟩
    · exact old b (World.ownsRow.lt (h.fi q (List.mem_cons_of_mem _ hq)).1.own b e).2 (h.ap q (List.mem_cons_of_mem _ hq) b e)
    · by_cases e : j = n
      · subst e
        rw [if_pos rfl]
        rcases hpw.1 q hq with r | r
        · cases hq2 : q.1.ownBlock with
          | none => exact .inl rfl
          | some b => exact .inr (by rw [r]; exact fun h => by cases h)
        · exact .inr (fun h => r h.symm)
      · rw [if_neg e]
        exact h.av q (List.mem_cons_of_mem _ hq) j (by omega)
    · exact ⟨Nat.lt_of_lt_of_le (h.t b hb).1 p.fr.size, old b (h.t b hb).1 (h.t b hb).2⟩
  · obtain rfl : n = 250 := by have := h.bo.few; omega
    obtain ⟨va, cv, rfl, _⟩ := row_la h.bo.rv
    refine (bookVec_full g va cv wv v w h.bo.box).mono ?_
    rintro e w' ⟨rfl, rfl⟩
    exact ⟨rfl, ⟨250, _, wv, vs, us, xs, h.bo, fun q hq => h.fi q (List.mem_cons_of_mem _ hq), fun q hq => h.ap q (List.mem_cons_of_mem _ hq), fun q hq => h.av q (List.mem_cons_of_mem _ hq), hpw.2, h.t⟩, Fr.refl _ _⟩
theorem bp_apart (B g : Nat) (T : Nat → Prop) (w : World) (hB : B ≤ w.heap.size) (h : BP B w g [] T) :
    Calls Tryz.prog 20 #[.pointer (some ⟨g, 0, none⟩)] w fun e w' => e = .returned (.bool true) ∧ Fr (fun b => B ≤ b) w w' := by
  obtain ⟨n, vv, wv, vs, us, xs, h⟩ := h
  obtain ⟨va, ua, cv, cu, hk⟩ := h.bo.bk
  refine (apart_any B g va ua n cv cu vs us xs w hB (Lib.hid hk)).mono ?_
  rintro e w' ⟨rfl, hf⟩
  refine ⟨rfl, hf.mono (fun b hb => ?_)⟩
  obtain ⟨j, hj, e⟩ := hb
  exact (World.ownsRow.lt (h.bo.fv j hj).own b e).1
end Go.Proofs.YtkgpkkdcadkpmaaGreatDoor
end

/- a vector put on the book, by name of the world before. By an AI agent. -/
section
set_option linter.unusedVariables false
namespace Go.Proofs.YtkgpkkdcadkpmaaGreatDoor
open Go.RowKit

theorem BP.si {B : Nat} {W : World} {g : Nat} {ps : List (Value × List Int)} {T : Nat → Prop} (h : BP B W g ps T) {v : Value} {zs : List Int} (hp : (v, zs) ∈ ps) : SI W v zs := by
  obtain ⟨n, vv, wv, vs, us, xs, h⟩ := h
  exact (h.fi _ hp).1.si
theorem bp_vecS (w : World) (v : Value) (zs : List Int) (ps : List (Value × List Int)) (W : World) (hb : Bl w W) (h : BP w.heap.size W w.heap.size ((v, zs) :: ps) (fun b => b < w.heap.size)) :
    Calls Tryz.prog 19 #[.pointer (some ⟨w.heap.size, 0, none⟩), v] W fun e W' => e = .returned (.tuple #[]) ∧ BP w.heap.size W' w.heap.size ps (fun b => b < w.heap.size) ∧ Bl w W' := by
  refine (bp_vec _ _ v zs ps _ W hb.size h).mono ?_
  rintro e W' ⟨rfl, hp, hf⟩
  exact ⟨rfl, hp, hb.fr hf (fun b q => Nat.le_of_not_lt q)⟩
end Go.Proofs.YtkgpkkdcadkpmaaGreatDoor
end
