import Derived.Test.YtaplefelfiefaaaGreatQArchiveTellsUptoP1
import Derived.Deep.Cut
import Derived.Test.YtaplefelfiefaaaGreatQArchiveTellsUptoP13
import Derived.Test.YtaplefelfiefaaaGreatQArchiveTellsUptoP9
import Derived.Test.YtaplefelfiefaaaGreatQArchiveTellsUptoP2
import Derived.Laws.IdiomStrings
import Derived.Deep.AppendSrc

/- bedrockref1.Get, bedrockref1.Put. By an AI agent. -/
section
namespace Go.Proofs.YtaplefelfiefaaaGreat
open Go.RowKit

end Go.Proofs.YtaplefelfiefaaaGreat

namespace Go.Proofs.YtaplefelfiefaaaGreat
open Go.RowKit

set_option maxHeartbeats 1600000 in
set_option maxRecDepth 100000 in
theorem refPut_any (v : Nat) (n : Nat) (w : World) (hn : 1 ≤ n) (hn1 : n ≤ 7) (hv63 : v < 9223372036854775808) (hvn : v / 2 ^ (8 * n) = 0) :
    Calls Tryz.prog 24 #[.int .i64 v, .int .i64 n] w fun e w' => e = .returned (.tuple #[.string (strOfNums (putN v n n)), .int .i64 0]) ∧ Bl w w' := by
  obtain ⟨i0, hi, hz0, hz1, hz2⟩ := info_parts info_byte
  have HV := Lib.hid hvn; clear hvn
  go_enter Tryz.func24, Tryz.ntmps24
  go_wp2_with (at_make; refine wpList_make_full _ rfl _ _ 75 rfl w.heap.size 5 i0 (.int .u8 0) 1 Tryz.underlying75 hi hz0 hz1 .i64 .i64 _ _ n rfl rfl rfl rfl ?b1 ?b2 ?b3 ?_)
  case b1 => rw [hz2]; omega
  case b2 => unfold maxLen; omega
  case b3 => exact Nat.le_refl _
  intro w1 hown hgrow
  have hb : Bl w w1 := Below.grown (Bl.refl w) hgrow (Nat.le_refl _) (by simp)
  have hob : OB w.heap.size w1 (.slice (some ⟨w.heap.size, 0, none⟩) n n) (putN v n 0) := by
    rw [OB, putN_len, putN_zero]
    have e : (madeCells #[Value.int .u8 0] n).toList = List.map (Value.int .u8) (List.replicate n 0) := by
      rw [List.map_replicate]
      exact toList_madeCells_one _ _
    rw [e] at hown
    exact hown
  clear hown hgrow
  go_wp2_with fail
  go_loopw [0, 7] (fun v' i wr => ∃ (k : Nat) (u : Nat), k ≤ n ∧ i = .int .i64 ((n : Int) - 1 - k) ∧ v' = .int .i64 u ∧ u = v / 2 ^ (8 * k) ∧ Bl w wr ∧ OB w.heap.size wr (.slice (some ⟨w.heap.size, 0, none⟩) n n) (putN v n k)) (fun _ i _ => (intOf i + 1).toNat)
  case atStart => exact ⟨0, v, Nat.zero_le _, by go_num, rfl, by simp, hb, hob⟩
  case round =>
    clear hb hob
    obtain ⟨k, u, hk, rfl, rfl, hu, hb, hob⟩ := hrel
    have hu63 : u < 9223372036854775808 := by
      rw [hu]; exact Nat.lt_of_le_of_lt (Nat.div_le_self _ _) hv63
    by_cases hlt : k < n
    · have hc := hob.cell (putN_len v n k) (n - 1 - k) (by omega)
      have hfz := hob.frozen (putN_len v n k) (n - 1 - k)
      generalize nth (putN v n k) (n - 1 - k) = old at hc
      have HOB := Lib.hid hob; clear hob
      have HU := Lib.hid hu; clear hu
      have ei : (n : Int) - 1 - (k : Int) = ((n - 1 - k : Nat) : Int) := by omega
      rw [ei]
      have et : ((u : Int)).tmod 256 = ((u % 256 : Nat) : Int) := by
        rw [Int.tmod_eq_emod_of_nonneg (by omega)]; omega
      have ed : wrap64 ((u : Int).tdiv 256) = ((u / 256 : Nat) : Int) := by
        rw [Int.tdiv_eq_ediv_of_nonneg (by omega)]; unfold wrap64; omega
      go_wp2_with fail
      go_roundw
      case rel =>
        refine ⟨k + 1, u / 256, by omega, by go_num, rfl, ?_, hb.setCell (Nat.le_refl _) _, ?_⟩
        · rw [HU.out, Nat.div_div_eq_div_mul, show 8 * (k + 1) = 8 * k + 8 by omega, Nat.pow_add]
        · have h1 := HOB.out.set (putN_len v n k) (n - 1 - k) ((u : Int) % 256)
          have e : (u : Int) % 256 = byteAt v n (n - 1 - k) := by
            unfold byteAt
            rw [show n - 1 - (n - 1 - k) = k by omega, HU.out]
            rfl
          have h2 := putN_set v n k hlt
          rw [← e] at h2
          rw [h2] at h1
          exact h1
      case measure => simp [intOf] <;> omega
    · have hkn : k = n := by omega
      subst hkn
      have hs := hob.string (putN_len v k k)
      clear hob
      obtain rfl : u = 0 := by rw [hu]; exact HV.out
      clear hu
      rw [show (k : Int) - 1 - (k : Int) = -1 by omega]
      go_wp2_with fail
      go_ret2
      exact ⟨rfl, hb⟩

end Go.Proofs.YtaplefelfiefaaaGreat
end

/- bedrockref1.Put for the numbers of an archive, in the words of its bytes. By an AI agent. -/
section
set_option linter.unusedVariables false
namespace Go.Proofs.YtaplefelfiefaaaGreat
open Go.RowKit

theorem rput2 (v : Nat) (w : World) (hv : v < 65536) : Calls Tryz.prog 24 #[.int .i64 v, .int .i64 2] w fun e w' => e = .returned (.tuple #[.string (strL (numB v 2)), .int .i64 0]) ∧ Bl w w' := by
  have := refPut_any v 2 w (by decide) (by decide) (by omega) (by omega)
  rwa [show strOfNums (putN (v : Int) 2 2) = strL (numB v 2) from rfl] at this
theorem rput4 (v : Nat) (w : World) (hv : v < 4294967296) : Calls Tryz.prog 24 #[.int .i64 v, .int .i64 4] w fun e w' => e = .returned (.tuple #[.string (strL (numB v 4)), .int .i64 0]) ∧ Bl w w' := by
  have := refPut_any v 4 w (by decide) (by decide) (by omega) (by omega)
  rwa [show strOfNums (putN (v : Int) 4 4) = strL (numB v 4) from rfl] at this
end Go.Proofs.YtaplefelfiefaaaGreat
end

/- A row of bytes that the call has made, whose mark may stand behind its last cell ('[]byte(s)'), and what is appended to it. By an AI agent. -/
section
set_option linter.unusedVariables false
set_option linter.unusedSimpArgs false
namespace Go.Proofs.YtaplefelfiefaaaGreat
open Go.RowKit
attribute [local go_sem] eOp eOper eUpon

def cellsB (l : List UInt8) : List Value := l.map fun b => Value.int .u8 b.toNat
theorem cellsB_len (l : List UInt8) : (cellsB l).length = l.length := by simp [cellsB]
theorem cellsB_app (l m : List UInt8) : cellsB (l ++ m) = cellsB l ++ cellsB m := by simp [cellsB]
/-- bytes that lie in a block of the call's own, of which no cell is frozen -/
def BY (B : Nat) (w : World) (v : Value) (l : List UInt8) : Prop :=
  ∃ g cap, v = .slice (some ⟨g, 0, none⟩) l.length cap ∧ B ≤ g ∧ g < w.heap.size ∧ l.length ≤ cap ∧ (∀ j, j < cap → (w.cell? ⟨g, j, none⟩).isSome = true ∧ w.frozen? ⟨g, j, none⟩ = false) ∧ ∀ j u, (cellsB l)[j]? = some u → w.cell? ⟨g, j, none⟩ = some u
theorem BY.keep {B : Nat} {w w' : World} {v : Value} {l : List UInt8} (h : BY B w v l) (b : Bl w w') : BY B w' v l := by
  obtain ⟨g, cap, hv, hB, hg, hc, h1, h2⟩ := h
  have hb := b.block g hg
  refine ⟨g, cap, hv, hB, Nat.lt_of_lt_of_le hg b.size, hc, fun j hj => ?_, fun j u hu => ?_⟩
  · rw [World.cell?_of_block (w := w) (a := ⟨g, j, none⟩) hb, World.frozen?_of_block (w := w) (a := ⟨g, j, none⟩) hb]
    exact h1 j hj
  · rw [World.cell?_of_block (w := w) (a := ⟨g, j, none⟩) hb]
    exact h2 j u hu
theorem BY.mono {B B' : Nat} {w : World} {v : Value} {l : List UInt8} (h : BY B w v l) (hB : B' ≤ B) : BY B' w v l := by
  obtain ⟨g, cap, hv, h0, r⟩ := h
  exact ⟨g, cap, hv, Nat.le_trans hB h0, r⟩
theorem BY.own {B : Nat} {w : World} {v : Value} {l : List UInt8} (h : BY B w v l) : ∀ k, v.ownBlock = some k → B ≤ k := by
  obtain ⟨g, cap, rfl, h0, r⟩ := h
  intro k hk
  simp [Value.ownBlock] at hk
  omega
theorem BY.form {B : Nat} {w : World} {v : Value} {l : List UInt8} (h : BY B w v l) : ∃ g cap, v = .slice (some ⟨g, 0, none⟩) l.length cap := by
  obtain ⟨g, cap, rfl, r⟩ := h
  exact ⟨g, cap, rfl⟩
/-- '[]byte(s)' -/
theorem BY.conv (w : World) (s : ByteArray) : ∃ v' w', (convert 9 75 (.string s)).run Tryz.prog w = .ok v' w' ∧ BY w.heap.size w' v' s.data.toList ∧ Bl w w' := by
  have h := run_bytes_of_string (P := Tryz.prog) w 9 75 5 s Tryz.underlying9 Tryz.underlying75 Tryz.underlying5
  have hge : s.size ≤ grownCap w s.size 0 5 := grownCap_ge _ _ _ _
  generalize grownCap w s.size 0 5 = cap at *
  have hsz : (bytesRow s cap).size = cap := by
    have e : s.data.size = s.size := rfl
    simp only [bytesRow, Array.size_append, Array.size_map, Array.size_replicate]
    omega
  have hl : s.data.toList.length = s.size := rfl
  refine ⟨_, _, h, ⟨w.heap.size, cap, by rw [hl], Nat.le_refl _, by rw [show w.heap.size = w.drew.heap.size from rfl]; simp, by omega, fun j hj => ⟨?_, ?_⟩, fun j u hu => ?_⟩, ((Bl.refl w).drew).alloc _⟩
  · rw [show w.heap.size = w.drew.heap.size from rfl, World.cell?_alloc_mark]
    rw [Array.getElem?_eq_getElem (by rw [hsz]; exact hj)]; rfl
  · rw [show w.heap.size = w.drew.heap.size from rfl, World.frozen?_alloc_mark, hsz]
    simp; omega
  · rw [show w.heap.size = w.drew.heap.size from rfl, World.cell?_alloc_mark]
    have hj : j < s.data.size := by
      have := (List.getElem?_eq_some_iff.1 hu).1
      simpa [cellsB] using this
    rw [bytesRow_at s cap j hj]
    simp [cellsB, Array.getElem?_eq_getElem hj] at hu
    rw [← hu]
/-- 'string(b)' -/
theorem BY.str {B : Nat} {w : World} {v : Value} {l : List UInt8} (h : BY B w v l) : (convert 75 9 v).run Tryz.prog w = .ok (.string (strL l)) w := by
  obtain ⟨g, cap, rfl, _, _, _, _, h2⟩ := h
  exact run_convert_bytes_back (P := Tryz.prog) w 75 9 5 ⟨g, 0, none⟩ cap l Tryz.underlying75 Tryz.underlying5 Tryz.underlying9 (fun j hj => by
    rw [Addr.add_lit, Nat.zero_add]
    exact h2 j _ (by simp [cellsB, hj]))
theorem below_setCells_self (g : Nat) : ∀ (vs : List Value) (o : Nat) (w : World), Below g w (w.setCells g o vs)
  | [], _, w => Below.refl _ _
  | v :: r, o, w => (Below.setCell (Below.refl g w) (p := ⟨g, o, none⟩) (Nat.le_refl _) v).trans (below_setCells_self g r (o + 1) _)
theorem heap_setCells_ne (g : Nat) : ∀ (vs : List Value) (o : Nat) (w : World) (k : Nat), k ≠ g → (w.setCells g o vs).heap[k]? = w.heap[k]?
  | [], _, w, _, _ => rfl
  | v :: r, o, w, k, h => by
    rw [World.setCells, heap_setCells_ne g r (o + 1) _ k h]
    exact Below.heap_setCell w ⟨g, o, none⟩ v k h
theorem isSome_setCells_own (b : Nat) : ∀ (vs : List Value) (o : Nat) (w : World) (x : Addr), (w.cell? x).isSome = true → ((w.setCells b o vs).cell? x).isSome = true
  | [], _, _, _, h => h
  | v :: r, o, w, x, h => by
    rw [World.setCells]
    refine isSome_setCells_own b r (o + 1) _ x ?_
    by_cases e : (⟨b, o, none⟩ : Addr) = x
    · subst e
      obtain ⟨u, hu⟩ := Option.isSome_iff_exists.1 h
      rw [World.cell?_setCell_same _ _ _ hu]; rfl
    · rw [World.cell?_setCell_other _ _ _ _ e]; exact h
/-- 'append(b, ..)' -/
theorem BY.app {B : Nat} {w : World} {v : Value} {l : List UInt8} (h : BY B w v l) (tx ty : TypeId) (x : Value) (m : List UInt8) (hs : Src Tryz.prog 1 tx x m.length (cellsB m) w) (hB : B ≤ w.heap.size) (hz : l.length + m.length ≤ 40000000) :
    ∃ v' w', (Builtin.append_ #[75, tx] ty #[v, x]).run Tryz.prog w = .ok v' w' ∧ BY B w' v' (l ++ m) ∧ w.grownBy w' v.ownBlock := by
  obtain ⟨i, hi, hz0, hz1, hz2⟩ := info_parts info_byte
  obtain ⟨g, cap, rfl, hg, hgl, hc, h1, h2⟩ := h
  have hml := cellsB_len m
  have hll := cellsB_len l
  by_cases hroom : l.length + m.length ≤ cap
  · have hr := run_append_room_src (P := Tryz.prog) w 75 tx ty 5 i Tryz.underlying75 hi g 0 l.length cap x m.length (cellsB m) (by rw [hz1]; exact hs) hroom
      (fun j hj => by rw [hz1]; exact (h1 _ (by omega)).1) (fun j hj => by rw [hz1]; exact (h1 _ (by omega)).2)
    rw [hz1, Nat.zero_add, Nat.mul_one] at hr
    refine ⟨_, _, hr, ⟨g, cap, by rw [List.length_append], hg, ?_, by rw [List.length_append]; exact hroom, fun j hj => ?_, fun j u hu => ?_⟩, ?_⟩
    · have := (below_setCells_self g (cellsB m) l.length w).size
      omega
    · rw [World.frozen?_setCells]
      exact ⟨isSome_setCells_own g _ _ w _ (h1 j hj).1, (h1 j hj).2⟩
    · rw [cellsB_app] at hu
      by_cases hj : j < l.length
      · rw [List.getElem?_append_left (by omega)] at hu
        rw [World.cell?_setCells_out g _ _ w _ (fun _ _ => .inl hj)]
        exact h2 j u hu
      · rw [List.getElem?_append_right (by omega), hll] at hu
        obtain ⟨hjm, hu'⟩ := List.getElem?_eq_some_iff.1 hu
        have := World.cell?_setCells_in g (cellsB m) l.length w (fun k hk => (h1 _ (by omega)).1) (j - l.length) hjm
        rw [show l.length + (j - l.length) = j by omega] at this
        rw [this, hu']
    · exact ⟨(below_setCells_self g (cellsB m) l.length w).os, (below_setCells_self g (cellsB m) l.length w).tape, (below_setCells_self g (cellsB m) l.length w).output, (below_setCells_self g (cellsB m) l.length w).size, fun k hk hne => heap_setCells_ne g _ _ w k (fun e => hne (by simp [Value.ownBlock, e]))⟩
  · have hold : (Builtin.firstCells i.size l.length (.slice (some ⟨g, 0, none⟩) l.length cap)).run Tryz.prog w.drew = .ok (cellsB l).toArray w.drew := by
      rw [hz1]
      exact run_firstCells_some w.drew 1 l.length ⟨g, 0, none⟩ l.length cap (cellsB l) (by rw [hll, Nat.mul_one]) (fun j u hu => by rw [Addr.add_lit, Nat.zero_add]; exact h2 j u hu)
    have hr := run_append_grow_src (P := Tryz.prog) w 75 tx ty 5 i _ Tryz.underlying75 hi hz0 (some ⟨g, 0, none⟩) l.length cap (cellsB l) hold x m.length (cellsB m) (by rw [hz1]; exact hs) (by omega) (by omega) (by rw [hz2]; exact growslice_fits (by omega) (by omega))
    have hge := grownCap_ge w (l.length + m.length) cap 5
    generalize grownCap w (l.length + m.length) cap 5 = cap' at *
    have hz3 : (Value.int IntKind.u8 0).cells.size = 1 := rfl
    have hsz : ((cellsB l ++ cellsB m).toArray ++ Builtin.zeroCells (Value.int .u8 0).cells (cap' - (l.length + m.length))).size = cap' := by
      simp only [Array.size_append, List.size_toArray, size_zeroCells, hz3, List.length_append, hll, hml]
      omega
    refine ⟨_, _, hr, ⟨w.heap.size, cap', by rw [List.length_append], hB, by rw [show w.heap.size = w.drew.heap.size from rfl]; simp, by rw [List.length_append]; omega, fun j hj => ⟨?_, ?_⟩, fun j u hu => ?_⟩, ⟨rfl, rfl, rfl, by simp, fun k hk _ => Below.heap_alloc w.drew _ k hk⟩⟩
    · rw [show w.heap.size = w.drew.heap.size from rfl, World.cell?_alloc_mark]
      rw [Array.getElem?_eq_getElem (by rw [hsz]; exact hj)]; rfl
    · rw [show w.heap.size = w.drew.heap.size from rfl, World.frozen?_alloc_mark]
      simp
    · rw [show w.heap.size = w.drew.heap.size from rfl, World.cell?_alloc_mark]
      rw [cellsB_app] at hu
      obtain ⟨hj, hu'⟩ := List.getElem?_eq_some_iff.1 hu
      rw [Array.getElem?_append_left (by simpa using hj)]
      simpa using hu
section
variable {ops : Array Oper}
theorem wpList_appBY {rest : List Oper} {o : Oper} {a : Act} {w : World} {Q : Exit → Act → World → Prop} (hgd : o.guard = none) (s x : Operand) (tx : TypeId)
    (ho : o.op = .call { callee := .builtin .append, args := #[s, x], argTypes := #[75, tx] }) (B : Nat) (v : Value) (l : List UInt8) (hs : a.eval s = v) (hown : BY B w v l) (hB : B ≤ w.heap.size)
    (X : Value) (m : List UInt8) (hx : a.eval x = X) (hsc : Src Tryz.prog 1 tx X m.length (cellsB m) w) (hz : l.length + m.length ≤ 40000000)
    (h : ∀ v' w', BY B w' v' (l ++ m) → w.grownBy w' v.ownBlock → wpList Tryz.prog ops Q rest (a.put o.dst v') w') : wpList Tryz.prog ops Q (o :: rest) a w := by
  obtain ⟨v', w', hr, h2, h3⟩ := hown.app tx o.type X m hsc hB hz
  refine wpList_plain hgd fun _ hK => ?_
  unfold Oper.wp execOp
  simp only [ho, resolve, invoke, builtin, Sem.run_bind, Sem.run_pure, Result.andThen_ok, List.map_toArray, List.map_cons, List.map_nil, hs, hx, hr]
  exact hK _ _ (h v' w' h2 h3)
end
/-- a literal of one byte -/
theorem src_byte (w : World) (c : UInt8) : Src Tryz.prog 1 75 (.slice (some ⟨w.heap.size, 0, none⟩) 1 1) [c].length (cellsB [c]) (w.alloc (.cells #[.int .u8 c.toNat] 5)) :=
  Src.ofSlice _ Tryz.underlying75 ⟨w.heap.size, 0, none⟩ 1 1 (cellsB [c]) rfl (fun j u hu => by
    rw [Addr.add_lit, Nat.zero_add, cell_of_row _ w.heap.size j _ _ _ (heap_alloc_new w _)]
    simpa [cellsB] using hu) (by simp [cellsB, Value.oneCell'])
theorem src_str (w : World) (s : ByteArray) : Src Tryz.prog 1 9 (.string s) s.data.toList.length (cellsB s.data.toList) w :=
  Src.ofString w Tryz.underlying9 s
/-- what has grown is still the call's own -/
theorem BY.grow {B : Nat} {w0 w w' : World} {v : Value} {l : List UInt8} (h : BY B w v l) (hb : Bl w0 w) (hB : w0.heap.size ≤ B) (hg : w.grownBy w' v.ownBlock) : Bl w0 w' :=
  Below.grown hb hg hb.size (fun k hk => Nat.le_trans hB (h.own k hk))
end Go.Proofs.YtaplefelfiefaaaGreat
end
