/- texts in quotes: plain definitions; unlike bytes have unlike texts. · raw.Quote. By an AI agent. -/
import Derived.Test.YtgdlcoicejgdkaaDoorBase
import Derived.Test.YtgdlcoicejgdkaaDoorExt2
import Derived.Deep.DeepCutAuto
import Derived.Outline
import Derived.Deep.AppendLies
import Derived.StillTailTactics
namespace Go.Proofs.YtgdlcoicejgdkaaDoor
open Go.RowKit

def hexB (k : UInt8) : UInt8 := if k.toNat < 10 then 48 + k else 87 + k
/-- one byte's text -/
def quoC (c : UInt8) : List UInt8 :=
  if c.toNat = 34 ∨ c.toNat = 92 then [92, c]
  else if 32 ≤ c.toNat ∧ c.toNat ≤ 126 then [c]
  else [92, 120, hexB (c / 16), hexB (c % 16)]
def quoL (l : List UInt8) : List UInt8 := 34 :: (l.flatMap quoC ++ [34])

def clash (a b : UInt8) : Bool := a == b || !((quoC a).isPrefixOf (quoC b) || (quoC b).isPrefixOf (quoC a))
theorem clash_fin : ∀ a b : Fin 256, clash (UInt8.ofNat a.val) (UInt8.ofNat b.val) = true := by decide +kernel
theorem clash_all (a b : UInt8) : clash a b = true := by
  have h := clash_fin ⟨a.toNat, a.toNat_lt⟩ ⟨b.toNat, b.toNat_lt⟩
  simpa using h
theorem first_fin : ∀ a : Fin 256, (quoC (UInt8.ofNat a.val)).headD 0 ≠ 34 ∧ quoC (UInt8.ofNat a.val) ≠ [] := by decide +kernel
theorem first_all (a : UInt8) : (quoC a).headD 0 ≠ 34 ∧ quoC a ≠ [] := by
  have h := first_fin ⟨a.toNat, a.toNat_lt⟩
  simpa using h
theorem flat_inj : ∀ (l m : List UInt8), l.flatMap quoC ++ [34] = m.flatMap quoC ++ [34] → l = m
  | [], [], _ => rfl
  | [], b :: m, h => by
    exfalso
    obtain ⟨h1, h2⟩ := first_all b
    cases e : quoC b with
    | nil => exact h2 e
    | cons x t => rw [e] at h1; (simp [e] at h) <;> exact h1 h.1.symm
  | a :: l, [], h => by
    exfalso
    obtain ⟨h1, h2⟩ := first_all a
    cases e : quoC a with
    | nil => exact h2 e
    | cons x t => rw [e] at h1; (simp [e] at h) <;> exact h1 h.1
  | a :: l, b :: m, h => by
    rw [List.flatMap_cons, List.flatMap_cons, List.append_assoc, List.append_assoc] at h
    have p1 : quoC a <+: (quoC a ++ (l.flatMap quoC ++ [34])) := List.prefix_append _ _
    have p2 : quoC b <+: (quoC a ++ (l.flatMap quoC ++ [34])) := by rw [h]; exact List.prefix_append _ _
    have hc := clash_all a b
    have hab : a = b := by
      rcases List.prefix_or_prefix_of_prefix p1 p2 with p | p
      · have := List.isPrefixOf_iff_prefix.2 p
        simpa [clash, this] using hc
      · have := List.isPrefixOf_iff_prefix.2 p
        simpa [clash, this] using hc
    subst hab
    have := flat_inj l m (List.append_cancel_left h)
    rw [this]
theorem quoL_inj {l m : List UInt8} (h : quoL l = quoL m) : l = m := flat_inj l m (by simpa [quoL] using h)
theorem quoC_len (c : UInt8) : (quoC c).length ≤ 4 := by unfold quoC; (repeat' split) <;> simp
theorem flat_len (l : List UInt8) : (l.flatMap quoC).length ≤ 4 * l.length := by
  induction l with
  | nil => simp
  | cons a l ih => rw [List.flatMap_cons, List.length_append, List.length_cons]; have := quoC_len a; omega
theorem quoL_len (l : List UInt8) : (quoL l).length ≤ 4 * l.length + 2 := by
  have := flat_len l
  show (34 :: (l.flatMap quoC ++ [34])).length ≤ _
  rw [List.length_cons, List.length_append, List.length_singleton]
  omega
end Go.Proofs.YtgdlcoicejgdkaaDoor

namespace Go.Proofs.YtgdlcoicejgdkaaDoor
open Go.RowKit
attribute [local go_sem] eOp eOper eUpon

/-- behind 'append(v, x, y ..)' -/
theorem OB.pushL {B : Nat} {w0 w w1 : World} {v v' : Value} {xs : List Int} {ys : List Int} {o : Obj} (hb : Below B w0 w) (hB : B ≤ w.heap.size) (hown : OB B w v xs)
    (hown' : w1.ownsRow B 5 1 v' (xs.length + ys.length) (xs.map (Value.int .u8) ++ ys.map (Value.int .u8))) (hg : (w.alloc o).grownBy w1 v.ownBlock) : OB B w1 v' (xs ++ ys) ∧ Below B w0 w1 :=
  ⟨by simpa [OB] using hown', (hb.alloc hB o).grown hg (by simp; omega) (fun j hj => (World.ownsRow.lt hown j hj).1)⟩
theorem OB.pushL' {B : Nat} {w0 w w1 : World} {v v' : Value} {xs : List Int} {ys : List Int} (hb : Below B w0 w) (hB : B ≤ w.heap.size) (hown : OB B w v xs)
    (hown' : w1.ownsRow B 5 1 v' (xs.length + ys.length) (xs.map (Value.int .u8) ++ ys.map (Value.int .u8))) (hg : w.grownBy w1 v.ownBlock) : OB B w1 v' (xs ++ ys) ∧ Below B w0 w1 :=
  ⟨by simpa [OB] using hown', hb.grown hg hB (fun j hj => (World.ownsRow.lt hown j hj).1)⟩
theorem OB.keep {B : Nat} {w w' : World} {v : Value} {xs : List Int} (h : OB B w v xs) (hb : Bl w w') : OB B w' v xs := ownsRow_bl h hb
/-- bytes as numbers -/
def numsB (l : List UInt8) : List Int := l.map fun b => (b.toNat : Int)
theorem numsB_append (l m : List UInt8) : numsB (l ++ m) = numsB l ++ numsB m := by simp [numsB]
theorem numsB_len (l : List UInt8) : (numsB l).length = l.length := by simp [numsB]
theorem str_numsB (l : List UInt8) : strOfNums (numsB l) = ⟨l.toArray⟩ := by
  apply ByteArray.ext
  apply Array.toList_inj.1
  show ((numsB l).map fun n => UInt8.ofNat n.toNat) = l
  simp [numsB, Function.comp_def]
theorem hex_fin : ∀ k : Fin 16, ((ByteArray.mk #[48, 49, 50, 51, 52, 53, 54, 55, 56, 57, 97, 98, 99, 100, 101, 102]).data.toList[k.val]?).map (·.toNat) = some (hexB (UInt8.ofNat k.val)).toNat := by decide
theorem hex_nib (k : Nat) (h : k < 16) (hk : k < (ByteArray.mk #[48, 49, 50, 51, 52, 53, 54, 55, 56, 57, 97, 98, 99, 100, 101, 102]).size) : ((ByteArray.mk #[48, 49, 50, 51, 52, 53, 54, 55, 56, 57, 97, 98, 99, 100, 101, 102])[k]).toNat = (hexB (UInt8.ofNat k)).toNat := by
  have hf := hex_fin ⟨k, h⟩
  have h' : k < (ByteArray.mk #[48, 49, 50, 51, 52, 53, 54, 55, 56, 57, 97, 98, 99, 100, 101, 102]).data.toList.length := h
  rw [List.getElem?_eq_getElem h'] at hf
  exact Option.some.inj hf
theorem quo_take {s : ByteArray} {k : Nat} (h : k < s.size) : (s.data.toList.take (k + 1)).flatMap quoC = (s.data.toList.take k).flatMap quoC ++ quoC s[k] := by
  have h' : k < s.data.toList.length := by simpa using h
  rw [List.take_succ_eq_append_getElem h', List.flatMap_append]
  simp
  rfl

theorem quo_esc {c : UInt8} (h : c.toNat = 34 ∨ c.toNat = 92) : numsB (quoC c) = [92, (c.toNat : Int)] := by
  unfold quoC; rw [if_pos h]; rfl
theorem quo_plain {c : UInt8} (h : ¬ (c.toNat = 34 ∨ c.toNat = 92)) (k : 32 ≤ c.toNat ∧ c.toNat ≤ 126) : numsB (quoC c) = [(c.toNat : Int)] := by
  unfold quoC; rw [if_neg h, if_pos k]; rfl
theorem quo_hex {c : UInt8} (h : ¬ (c.toNat = 34 ∨ c.toNat = 92)) (k : ¬ (32 ≤ c.toNat ∧ c.toNat ≤ 126)) : numsB (quoC c) = [92, 120, ((hexB (UInt8.ofNat (c.toNat / 16))).toNat : Int), ((hexB (UInt8.ofNat (c.toNat % 16))).toNat : Int)] := by
  unfold quoC
  rw [if_neg h, if_neg k]
  have e1 : c / 16 = UInt8.ofNat (c.toNat / 16) := by
    apply UInt8.toNat_inj.1
    have := UInt8.toNat_lt c
    rw [UInt8.toNat_div, UInt8.toNat_ofNat']
    simp; omega
  have e2 : c % 16 = UInt8.ofNat (c.toNat % 16) := by
    apply UInt8.toNat_inj.1
    rw [UInt8.toNat_mod, UInt8.toNat_ofNat']
    simp; omega
  rw [e1, e2]; rfl
theorem quo_len_take (l : List UInt8) (k : Nat) (h : k ≤ l.length) : ((l.take k).flatMap quoC).length ≤ 4 * k := by
  have := flat_len (l.take k)
  rw [List.length_take] at this
  omega

theorem and15 : ∀ c : Fin 256, bits .and .u8 (c.val : Int) 15 = ((c.val % 16 : Nat) : Int) := by decide +kernel
theorem hex_hi (c : Nat) (h : c < 256) (N : Nat) (hN : (hexB (UInt8.ofNat (c / 16))).toNat = N) (h' : ((c : Int) / 16).toNat < 16) : ((ByteArray.mk #[48, 49, 50, 51, 52, 53, 54, 55, 56, 57, 97, 98, 99, 100, 101, 102])[((c : Int) / 16).toNat]'h').toNat = N := by
  have e : ((c : Int) / 16).toNat = c / 16 := by omega
  have := hex_nib (c / 16) (by omega) (by rw [← e]; exact h')
  rw [← hN, ← this]
  congr 1
theorem hex_lo (c : Nat) (N : Nat) (hN : (hexB (UInt8.ofNat (c % 16))).toNat = N) (h' : ((c : Int) % 16).toNat < 16) : ((ByteArray.mk #[48, 49, 50, 51, 52, 53, 54, 55, 56, 57, 97, 98, 99, 100, 101, 102])[((c : Int) % 16).toNat]'h').toNat = N := by
  have e : ((c : Int) % 16).toNat = c % 16 := by omega
  have := hex_nib (c % 16) (by omega) (by rw [← e]; exact h')
  rw [← hN, ← this]
  congr 1

set_option maxHeartbeats 1600000 in
set_option maxRecDepth 100000 in
theorem quote_any (s : ByteArray) (w : World) (hs : s.size ≤ 1000000) :
    Calls Tryd.prog 98 #[.string s] w fun e w' => e = .returned (.string ⟨(quoL s.data.toList).toArray⟩) ∧ Bl w w' := by
  obtain ⟨i0, hi, hz0, hz1, hz2⟩ := info_parts info_byte
  have hob : OB w.heap.size (w.alloc (.cells #[.int .u8 34] 5)) (.slice (some ⟨w.heap.size, 0, none⟩) 1 1) [34] :=
    ⟨by simp, .inr ⟨w.heap.size, 1, #[.int .u8 34], rfl, Nat.le_refl _, heap_alloc_new w _, by decide, by decide, rfl, rfl⟩⟩
  have hbl0 := (Bl.refl w).alloc (.cells #[.int .u8 34] 5)
  go_enter Tryd.func98, Tryd.ntmps98
  go_wp2
  go_loopw [3, 9] (fun v i wr => ∃ (k : Nat) (xs : List Int), k ≤ s.size ∧ i = .int .i64 k ∧ Bl w wr ∧ OB w.heap.size wr v xs ∧ xs = numsB (34 :: (s.data.toList.take k).flatMap quoC)) (fun _ i _ => s.size - (intOf i).toNat)
  case atStart => exact ⟨0, _, Nat.zero_le _, rfl, hbl0, hob, by simp [numsB]⟩
  case round =>
    clear hob hbl0
    obtain ⟨k, xs, hk, rfl, hbl, hown, hx⟩ := hrel
    have hxl : xs.length ≤ 4000001 := by
      rw [hx, numsB_len, List.length_cons]
      have := quo_len_take s.data.toList k (by simpa using hk)
      omega
    have HX := Lib.hid hx
    clear hx
    have hsz := hbl.size
    by_cases hlt : k < s.size
    · have HT := Lib.hid (quo_take hlt)
      have hc8 : s[k].toNat < 256 := UInt8.toNat_lt s[k]
      by_cases h34 : s[k].toNat = 34
      · have HQ : Hid (numsB (quoC s[k]) = [92, 34]) := Lib.hid (by rw [quo_esc (.inl h34), h34]; rfl)
        have q1 : (s[k].toNat : Int) = 34 := by omega
        clear h34 hc8
        go_wp2_with (at_builtin; refine wpList_append_own _ rfl _ _ 51 rfl (w.heap.size) 5 i0 (.int .u8 0) 1 1 Tryd.underlying51 hi hz0 hz1 hz2 rfl (by decide) _ _ _ rfl (World.ownsRow.alloc hown _) ⟨wr.heap.size, 0, none⟩ 2 2 (([92, 34] : List Int).map (Value.int .u8)) rfl rfl ?c1 ?c2 ?c3 ?c4 ?c5 ?_)
        case c1 => exact World.news_of_block (heap_alloc_new _ _)
        case c2 => intro u hu; simp at hu; rcases hu with rfl | rfl <;> rfl
        case c3 => unfold maxLen; omega
        case c4 => omega
        case c5 => simp; omega
        intro v' w3 hown' hgrow _
        obtain ⟨R1, R2⟩ := OB.pushL (ys := [92, 34]) hbl hsz hown hown' hgrow
        clear hown hown' hgrow
        go_wp2
        go_roundw
        case rel => exact ⟨k + 1, _, by omega, by go_num, R2, R1, by rw [HX.out, HT.out, ← List.cons_append, numsB_append, HQ.out]⟩
        case measure => simp [intOf]; omega
      by_cases h92 : s[k].toNat = 92
      · have HQ : Hid (numsB (quoC s[k]) = [92, 92]) := Lib.hid (by rw [quo_esc (.inr h92), h92]; rfl)
        have q1 : (s[k].toNat : Int) = 92 := by omega
        clear h34 h92 hc8
        go_wp2_with (at_builtin; refine wpList_append_own _ rfl _ _ 51 rfl (w.heap.size) 5 i0 (.int .u8 0) 1 1 Tryd.underlying51 hi hz0 hz1 hz2 rfl (by decide) _ _ _ rfl (World.ownsRow.alloc hown _) ⟨wr.heap.size, 0, none⟩ 2 2 (([92, 92] : List Int).map (Value.int .u8)) rfl rfl ?c1 ?c2 ?c3 ?c4 ?c5 ?_)
        case c1 => exact World.news_of_block (heap_alloc_new _ _)
        case c2 => intro u hu; simp at hu; rcases hu with rfl | rfl <;> rfl
        case c3 => unfold maxLen; omega
        case c4 => omega
        case c5 => simp; omega
        intro v' w3 hown' hgrow _
        obtain ⟨R1, R2⟩ := OB.pushL (ys := [92, 92]) hbl hsz hown hown' hgrow
        clear hown hown' hgrow
        go_wp2
        go_roundw
        case rel => exact ⟨k + 1, _, by omega, by go_num, R2, R1, by rw [HX.out, HT.out, ← List.cons_append, numsB_append, HQ.out]⟩
        case measure => simp [intOf]; omega
      have hA : ¬ (s[k].toNat = 34 ∨ s[k].toNat = 92) := by omega
      have q1 : ((s[k].toNat : Int) == 34) = false := by simp; omega
      have q2 : ((s[k].toNat : Int) == 92) = false := by simp; omega
      by_cases hB : 32 ≤ s[k].toNat ∧ s[k].toNat ≤ 126
      · have HQ := Lib.hid (quo_plain hA hB)
        have q3 : (32 : Int) ≤ (s[k].toNat : Int) := by omega
        have q4 : (s[k].toNat : Int) ≤ 126 := by omega
        clear hA h34 h92 hB
        go_wp2_with (at_builtin; refine wpList_append_own _ rfl _ _ 51 rfl (w.heap.size) 5 i0 (.int .u8 0) 1 1 Tryd.underlying51 hi hz0 hz1 hz2 rfl (by decide) _ _ _ rfl (World.ownsRow.alloc hown _) ⟨wr.heap.size, 0, none⟩ 1 1 (([(s[k].toNat : Int)] : List Int).map (Value.int .u8)) rfl rfl ?c1 ?c2 ?c3 ?c4 ?c5 ?_)
        case c1 => exact World.news_of_block (heap_alloc_new _ _)
        case c2 => intro u hu; simp at hu; rcases hu with rfl <;> rfl
        case c3 => unfold maxLen; omega
        case c4 => omega
        case c5 => simp; omega
        intro v' w3 hown' hgrow _
        obtain ⟨R1, R2⟩ := OB.pushL (ys := [(s[k].toNat : Int)]) hbl hsz hown hown' hgrow
        clear hown hown' hgrow
        go_wp2
        go_roundw
        case rel => exact ⟨k + 1, _, by omega, by go_num, R2, R1, by rw [HX.out, HT.out, ← List.cons_append, numsB_append, HQ.out]⟩
        case measure => simp [intOf]; omega
      have HQ := Lib.hid (quo_hex hA hB)
      have hB2 : s[k].toNat < 32 ∨ 126 < s[k].toNat := by omega
      have hn1 : (0 : Int) ≤ (s[k].toNat : Int) / 16 := by omega
      have hn2 : (s[k].toNat : Int) / 16 < 16 := by omega
      have hn3 : (0 : Int) ≤ (s[k].toNat : Int) % 16 := by omega
      have hn4 : (s[k].toNat : Int) % 16 < 16 := by omega
      have hna : bits .and .u8 (s[k].toNat : Int) 15 = (s[k].toNat : Int) % 16 := by
        have := and15 ⟨s[k].toNat, hc8⟩
        simp only at this
        rw [this]; omega
      obtain ⟨N1, hN1⟩ : ∃ N, (hexB (UInt8.ofNat (s[k].toNat / 16))).toNat = N := ⟨_, rfl⟩
      obtain ⟨N2, hN2⟩ : ∃ N, (hexB (UInt8.ofNat (s[k].toNat % 16))).toNat = N := ⟨_, rfl⟩
      rw [hN1, hN2] at HQ
      have hx1 := hex_hi s[k].toNat hc8 N1 hN1
      have hx2 := hex_lo s[k].toNat N2 hN2
      clear hA h34 h92 hB hN1 hN2 hc8
      rcases hB2 with hB2 | hB2
      all_goals
        go_wp2_with fail
        have hbd := hbl.drew
        replace hown := hown.keep ((Bl.refl wr).drew)
        refine wp_region_extC (Bl w) (fun _ _ h k => h.trans k) hbd 7 3 (by kernel_rfl) rfl (by kernel_rfl) (by kernel_rfl) ?_
        generalize wr.drew = wd at *
        simp only [List.take_succ_cons, List.take_zero]
        repeat (refine wpE_step (fun K hK => ?_); go_simp; refine hK _ ?_; clear hK K)
        refine wpE_nil ?_
        refine wpAnyE_one (i := 7) (by kernel_rfl) ?_
        intro W1 hb1
        go_simp
        have hb2 := hb1.alloc (.cells #[.int .u8 92, .int .u8 120, .int .u8 N1, .int .u8 N2] 5)
        have hnew := heap_alloc_new W1 (.cells #[.int .u8 92, .int .u8 120, .int .u8 N1, .int .u8 N2] 5)
        refine ⟨hbd.trans hb2, ?_⟩
        generalize W1.alloc (.cells #[.int .u8 92, .int .u8 120, .int .u8 N1, .int .u8 N2] 5) = W2 at *
        generalize W1.heap.size = g at *
        refine wpAnyE_one (i := 8) (by kernel_rfl) ?_
        intro W3 hb3
        have hown3 := hown.keep (hb2.trans hb3)
        have hb4 := hbd.trans (hb2.trans hb3)
        have hsz3 := hb4.size
        refine eOp_append rfl rfl _ _ 51 rfl (w.heap.size) 5 i0 (.int .u8 0) 1 1 Tryd.underlying51 hi hz0 hz1 hz2 rfl (by decide) _ _ _ rfl hown3 ⟨g, 0, none⟩ 4 4 (([92, 120, (N1 : Int), (N2 : Int)] : List Int).map (Value.int .u8)) rfl rfl ?c1 ?c2 ?c3 ?c4 ?c5 ?_
        case c1 => exact World.news_of_block (hb3.heap hnew)
        case c2 => intro u hu; simp at hu; rcases hu with rfl | rfl | rfl | rfl <;> rfl
        case c3 => unfold maxLen; omega
        case c4 => omega
        case c5 => exact hsz3
        intro v' w3 hown' hgrow _
        have hgrow : W3.grownBy w3 u3.ownBlock := hgrow
        obtain ⟨R1, R2⟩ := OB.pushL' (ys := [92, 120, (N1 : Int), (N2 : Int)]) hb4 hsz3 hown3 hown' hgrow
        clear hown hown' hgrow hown3 hb4 hsz3
        refine ⟨R2, ?_⟩
        simp only [Act.put, List.setIfInBounds_toArray]
        refine wpAnyE_one (i := 9) (by kernel_rfl) ?_
        intro W5 hb5
        go_simp
        have R3 := R2.trans (Below.mono hb5 R2.size)
        have R4 := R1.keep hb5
        refine ⟨R3, ?_⟩
        refine wpAnyE_done (by kernel_rfl) ?_
        intro W6 hb6
        replace R3 := R3.trans (Below.mono hb6 R3.size)
        replace R4 := R4.keep hb6
        clear hb6 hb5 R1 R2 hb2 hb3 hb1
        go_wp2
        go_roundw
        case rel => exact ⟨k + 1, _, by omega, by go_num, R3, R4, by rw [HX.out, HT.out, ← List.cons_append, numsB_append, HQ.out]⟩
        case measure => simp [intOf]; omega
    · have HE := Lib.hid (show s.data.toList.take k = s.data.toList from List.take_of_length_le (by simp; omega))
      go_wp2_with (at_builtin; refine wpList_append_own _ rfl _ _ 51 rfl (w.heap.size) 5 i0 (.int .u8 0) 1 1 Tryd.underlying51 hi hz0 hz1 hz2 rfl (by decide) _ _ _ rfl (World.ownsRow.alloc hown _) ⟨wr.heap.size, 0, none⟩ 1 1 (([34] : List Int).map (Value.int .u8)) rfl rfl ?c1 ?c2 ?c3 ?c4 ?c5 ?_)
      case c1 => exact World.news_of_block (heap_alloc_new _ _)
      case c2 => intro u hu; simp at hu; rcases hu with rfl <;> rfl
      case c3 => unfold maxLen; omega
      case c4 => omega
      case c5 => simp; omega
      intro v' w3 hown' hgrow _
      obtain ⟨R1, R2⟩ := OB.pushL (ys := [34]) hbl hsz hown hown' hgrow
      clear hown hown' hgrow
      have hne : ∃ g cap, v' = .slice (some ⟨g, 0, none⟩) (xs.length + 1) cap := by
        obtain ⟨h1, ⟨rfl, h2⟩ | ⟨g, cap, cur, rfl, _⟩⟩ := R1
        · simp at h2
        · exact ⟨g, cap, by simp⟩
      obtain ⟨g, cap, rfl⟩ := hne
      have hst := OB.string R1 (by simp)
      go_wp2
      go_ret
      refine ⟨?_, R2⟩
      rw [HX.out, HE.out]
      show Ending.returned (.string (strOfNums (numsB (34 :: s.data.toList.flatMap quoC) ++ [34]))) = _
      rw [show ([34] : List Int) = numsB [34] from rfl, ← numsB_append, str_numsB]
      rfl
end Go.Proofs.YtgdlcoicejgdkaaDoor
