import Derived.Test.YtaelghbjbopilaaGreatQProtoRepliesUptoP1
import Derived.Test.YtaelghbjbopilaaGreatQProtoRepliesUptoP35
import Derived.Test.YtaelghbjbopilaaGreatQProtoRepliesUptoP21
import Derived.Test.YtaelghbjbopilaaGreatQProtoRepliesUptoP25

/- bedrockbook.name: the name of a mark. By an AI agent. -/
section
set_option linter.unusedVariables false
namespace Go.Proofs.YtaelghbjbopilaaGreat
open Go.RowKit

def nameN (i k : Nat) : List Int := [109, 65 + ((i % 26 : Nat) : Int), 65 + ((i / 26 % 26 : Nat) : Int), 48 + ((k % 10 : Nat) : Int), 48 + ((k / 10 % 10 : Nat) : Int), 48 + ((k / 100 % 10 : Nat) : Int)]
def nameB (i k : Nat) : ByteArray := strOfNums (nameN i k)
theorem nameB_size (i k : Nat) : (nameB i k).size = 6 := by
  unfold nameB
  rw [strOfNums_size]
  rfl
theorem name_any (i k : Nat) (w : World) (hi : i < 250) (hk : k < 100000) :
    Calls Tryz.prog 187 #[.int .i64 i, .int .i64 k] w fun e w' => e = .returned (.string (nameB i k)) ∧ Bl w w' := by
  have t1 : Int.tmod (i : Int) 26 = ((i % 26 : Nat) : Int) := by rw [Int.tmod_eq_emod_of_nonneg (by omega)]; omega
  have t2 : Int.tdiv (i : Int) 26 = ((i / 26 : Nat) : Int) := by rw [Int.tdiv_eq_ediv_of_nonneg (by omega)]; omega
  have t3 : Int.tmod ((i / 26 : Nat) : Int) 26 = ((i / 26 % 26 : Nat) : Int) := by rw [Int.tmod_eq_emod_of_nonneg (by omega)]; omega
  have t4 : Int.tmod (k : Int) 10 = ((k % 10 : Nat) : Int) := by rw [Int.tmod_eq_emod_of_nonneg (by omega)]; omega
  have t5 : Int.tdiv (k : Int) 10 = ((k / 10 : Nat) : Int) := by rw [Int.tdiv_eq_ediv_of_nonneg (by omega)]; omega
  have t6 : Int.tmod ((k / 10 : Nat) : Int) 10 = ((k / 10 % 10 : Nat) : Int) := by rw [Int.tmod_eq_emod_of_nonneg (by omega)]; omega
  have t7 : Int.tdiv (k : Int) 100 = ((k / 100 : Nat) : Int) := by rw [Int.tdiv_eq_ediv_of_nonneg (by omega)]; omega
  have t8 : Int.tmod ((k / 100 : Nat) : Int) 10 = ((k / 100 % 10 : Nat) : Int) := by rw [Int.tmod_eq_emod_of_nonneg (by omega)]; omega
  have b1 : i % 26 < 26 := Nat.mod_lt _ (by decide)
  have b2 : i / 26 % 26 < 26 := Nat.mod_lt _ (by decide)
  have b3 : k % 10 < 10 := Nat.mod_lt _ (by decide)
  have b4 : k / 10 % 10 < 10 := Nat.mod_lt _ (by decide)
  have b5 : k / 100 % 10 < 10 := Nat.mod_lt _ (by decide)
  have d1 : i / 26 < 250 := by omega
  have d2 : k / 10 < 100000 := by omega
  have d3 : k / 100 < 100000 := by omega
  have HN : Hid (nameB i k = strOfNums (nameN i k)) := Lib.hid rfl
  unfold nameN at HN
  generalize i % 26 = n1 at *
  generalize i / 26 % 26 = n2 at *
  generalize k % 10 = n3 at *
  generalize k / 10 % 10 = n4 at *
  generalize k / 100 % 10 = n5 at *
  generalize i / 26 = m1 at *
  generalize k / 10 = m2 at *
  generalize k / 100 = m3 at *
  have w1 : IntKind.u8.wrap (65 + (n1 : Int)) = 65 + (n1 : Int) := by rw [IntKind.wrap_u8]; omega
  have w2 : IntKind.u8.wrap (65 + (n2 : Int)) = 65 + (n2 : Int) := by rw [IntKind.wrap_u8]; omega
  have w3 : IntKind.u8.wrap (48 + (n3 : Int)) = 48 + (n3 : Int) := by rw [IntKind.wrap_u8]; omega
  have w4 : IntKind.u8.wrap (48 + (n4 : Int)) = 48 + (n4 : Int) := by rw [IntKind.wrap_u8]; omega
  have w5 : IntKind.u8.wrap (48 + (n5 : Int)) = 48 + (n5 : Int) := by rw [IntKind.wrap_u8]; omega
  have hab : OB w.heap.size (w.alloc (.cells #[.int .u8 109, .int .u8 (65 + (n1 : Int)), .int .u8 (65 + (n2 : Int)), .int .u8 (48 + (n3 : Int)), .int .u8 (48 + (n4 : Int)), .int .u8 (48 + (n5 : Int))] 5)) (.slice (some ⟨w.heap.size, 0, none⟩) 6 6) [109, 65 + (n1 : Int), 65 + (n2 : Int), 48 + (n3 : Int), 48 + (n4 : Int), 48 + (n5 : Int)] :=
    ⟨by simp, .inr ⟨w.heap.size, 6, #[.int .u8 109, .int .u8 (65 + (n1 : Int)), .int .u8 (65 + (n2 : Int)), .int .u8 (48 + (n3 : Int)), .int .u8 (48 + (n4 : Int)), .int .u8 (48 + (n5 : Int))], rfl, Nat.le_refl _, heap_alloc_new w _, Nat.le_refl _, by decide, by simp, by simp⟩⟩
  have hst := hab.string rfl
  have hbl := (Bl.refl w).alloc (.cells #[.int .u8 109, .int .u8 (65 + (n1 : Int)), .int .u8 (65 + (n2 : Int)), .int .u8 (48 + (n3 : Int)), .int .u8 (48 + (n4 : Int)), .int .u8 (48 + (n5 : Int))] 5)
  clear hab
  go_enter Tryz.func187, Tryz.ntmps187
  go_wp2_with fail
  go_ret
  exact ⟨by rw [HN.out]; rfl, hbl⟩
end Go.Proofs.YtaelghbjbopilaaGreat
end

/- bedrockbook over Pairs: what they read as, their marks, their copies. By an AI agent. -/
section
namespace Go.Proofs.YtaelghbjbopilaaGreat
open Go.RowKit

/-- an own row reads as what its cells are -/
theorem PP.own {B : Nat} {w : World} {a : Option Addr} {n c : Nat} {ps : List (ByteArray × ValL)} (h : w.ownsRow B 52 5 (.slice a n c) n (cellsP ps)) (hl : ps.length = n) (hn : n ≤ 1000000) (hok : ∀ p ∈ ps, PaOk p) : PP w a n ps := by
  refine ⟨hl, by omega, fun j0 hj0 => ?_, hok⟩
  obtain ⟨h1, ⟨e, h2⟩ | ⟨g, cap, cur, e, hB, hg, hnc, hm, hs, ht⟩⟩ := h
  · cases e; omega
  · simp only [Value.slice.injEq, true_and] at e
    obtain ⟨rfl, rfl⟩ := e
    refine ⟨g, 0, rfl, fun j hj => ?_⟩
    have ho : w.ownsRow B 52 5 (.slice (some ⟨g, 0, none⟩) n c) n (cellsP ps) := ⟨h1, .inr ⟨g, c, cur, rfl, hB, hg, hnc, hm, hs, ht⟩⟩
    have key : ∀ r, r < 5 → w.cell? ⟨g, 0 + j * 5 + r, none⟩ = (pairCs (nthQ ps j))[r]? := fun r hr => by
      rw [Nat.zero_add, ho.cellAt (j * 5 + r) (by omega)]
      exact cellsP_get ps j (by omega) r hr
    exact ⟨key 0 (by omega), key 1 (by omega), key 2 (by omega), key 3 (by omega), key 4 (by omega)⟩
theorem PP.sg5 {w : World} {a : Option Addr} {n : Nat} {ps : List (ByteArray × ValL)} (h : PP w a n ps) : SG w 5 a n (cellsP ps) := by
  refine ⟨by rw [cellsP_len, h.len], fun ad e j u hu => ?_, fun e => ?_, fun u hu => ?_⟩
  · have hjl : j < n * 5 := by
      have := (List.getElem?_eq_some_iff.1 hu).1
      rwa [cellsP_len, h.len] at this
    have hi : j / 5 < n := by omega
    obtain ⟨b, off, e', hc⟩ := h.cells (j / 5) hi
    rw [e] at e'
    obtain rfl := Option.some.inj e'
    have hg := cellsP_get ps (j / 5) (by rw [h.len]; exact hi) (j % 5) (by omega)
    rw [show j / 5 * 5 + j % 5 = j by omega, hu] at hg
    have hcc := hc (j / 5) hi
    rw [Addr.add_lit, show off + j = off + j / 5 * 5 + j % 5 by omega]
    have hr : j % 5 < 5 := by omega
    generalize j % 5 = r at hg hr
    match r, hr with
    | 0, _ => rw [Nat.add_zero, hcc.c0]; exact hg.symm
    | 1, _ => rw [hcc.c1]; exact hg.symm
    | 2, _ => rw [hcc.c2]; exact hg.symm
    | 3, _ => rw [hcc.c3]; exact hg.symm
    | 4, _ => rw [hcc.c4]; exact hg.symm
  · subst e
    by_cases hn : 0 < n
    · obtain ⟨b, off, e', _⟩ := h.cells 0 hn
      cases e'
    · omega
  · obtain ⟨p, _, hp⟩ := List.mem_flatMap.1 hu
    simp only [pairCs, List.mem_cons, List.not_mem_nil, or_false] at hp
    rcases hp with rfl | rfl | rfl | rfl | rfl <;> rfl
theorem PP.fr {S : Nat → Prop} {w w' : World} (h : Fr S w w') {a : Option Addr} {n : Nat} {ps : List (ByteArray × ValL)} (hp : PP w a n ps) (hs : ∀ b off, a = some ⟨b, off, none⟩ → 0 < n → ¬ S b) : PP w' a n ps := by
  refine ⟨hp.len, hp.cap, fun j0 hj0 => ?_, hp.ok⟩
  obtain ⟨b, off, e, hc⟩ := hp.cells j0 hj0
  have hS := hs b off e (by omega)
  exact ⟨b, off, e, fun j hj => ⟨h.cell (hc j hj).c0 hS, h.cell (hc j hj).c1 hS, h.cell (hc j hj).c2 hS, h.cell (hc j hj).c3 hS, h.cell (hc j hj).c4 hS⟩⟩
/-- the marks -/
def markP (i f n : Nat) : List (ByteArray × ValL) := (List.range n).map fun k => (nameB i (f + k), ⟨false, 0, 0, ⟨#[]⟩⟩)
def mkP : MK := ⟨5, fun i k => pairCs (nameB i k, ⟨false, 0, 0, ⟨#[]⟩⟩), fun _ _ => rfl, by decide⟩
theorem markP_len (i f n : Nat) : (markP i f n).length = n := by simp [markP]
theorem markP_cells (i f n : Nat) : cellsP (markP i f n) = mkP.row i f n := by
  unfold cellsP markP MK.row
  rw [List.flatMap_map]
  rfl
theorem markP_ok (i f n : Nat) : ∀ p ∈ markP i f n, PaOk p := by
  intro p hp
  simp only [markP, List.mem_map, List.mem_range] at hp
  obtain ⟨k, _, rfl⟩ := hp
  exact ⟨by rw [nameB_size]; decide, (show ValL.Ok ⟨false, 0, 0, ⟨#[]⟩⟩ from ⟨by decide, by decide, by decide⟩)⟩
theorem bookSamePs_anyY (a : Option Addr) (n ca : Nat) (ps : List (ByteArray × ValL)) (b : Option Addr) (cb : Nat) (w : World) (hx : PP w a n ps) (hy : PP w b n ps) :
    Calls Tryz.prog 136 #[.slice a n ca, .slice b n cb] w fun e w' => e = .returned (.bool true) ∧ Bl w w' := by
  exact bookSamePs_self a b n ca cb ps w hx hy

set_option maxHeartbeats 1000000 in
theorem markPairs_any (i f n : Nat) (w : World) (hi250 : i < 250) (hf : f + n ≤ 100000) :
    Calls Tryz.prog 156 #[.int .i64 i, .int .i64 f, .int .i64 n] w fun e w' => ∃ v, e = .returned v ∧ w'.ownsRow w.heap.size 52 5 v n (mkP.row i f n) ∧ Bl w w' := by
  have hfi : (f : Int) + (n : Int) ≤ 100000 := by omega
  have hsf := store_fl
  go_enter Tryz.func156, Tryz.ntmps156
  go_wp2_with fail
  go_loopw [7, 8] (fun v c wr => ∃ k : Nat, k ≤ n ∧ c = .int .i64 ((f + k : Nat) : Int) ∧ Bl w wr ∧ wr.ownsRow w.heap.size 52 5 v k (mkP.row i f k)) (fun _ c _ => f + n - (intOf c).toNat)
  case atStart => exact ⟨0, Nat.zero_le _, rfl, Bl.refl _, World.ownsRow_nil _ _ _ _⟩
  case round =>
    obtain ⟨k, hk, rfl, hbl, hown⟩ := hrel
    have hbs := hbl.size
    obtain ⟨c, hc⟩ : ∃ c, f + k = c := ⟨_, rfl⟩
    rw [hc]
    by_cases hlt : k < n
    · have hlt2 : (c : Int) < (f : Int) + (n : Int) := by omega
      have hlt3 : c < f + n := by omega
      have hcb : c < 100000 := by omega
      have HC := Lib.hid hc
      clear hc
      go_wp2_with fail
      refine (name_any i c wr hi250 hcb).mono ?_
      rintro e W1 ⟨rfl, hb1⟩
      obtain ⟨nm, hnm⟩ : ∃ x, nameB i c = x := ⟨_, rfl⟩
      have HNM := Lib.hid hnm
      rw [hnm]
      have hbA := hb1.alloc (.cells #[.string nm, .bool false, .float .f64 0, .int .i64 0, .string ⟨#[]⟩] 52)
      have howA := ownsRow_bl hown hbA
      have hsz := hbA.size
      have HBA := Lib.hid (hbl.trans hbA)
      have HOA := Lib.hid howA
      clear hnm hb1 hown howA hbA hbl
      go_wp2_with (at_builtin; refine wpList_appG rfl _ _ _ rfl el_pair w.heap.size _ _ _ rfl HOA.out ?c1 _ 1 1 [.string nm, .bool false, .float .f64 0, .int .i64 0, .string ⟨#[]⟩] rfl (SG.lit (heap_alloc_new _ _) rfl (by simp [Value.oneCell'])) ?c2 ?c3 ?_)
      case c1 => omega
      case c2 => unfold maxLen; omega
      case c3 => omega
      intro v' w1 hown' hgrow
      have HB1 := Lib.hid (HBA.out.ownRow HOA.out (Nat.le_refl _) hgrow)
      have HO1 := Lib.hid (show w1.ownsRow w.heap.size 52 5 v' (k + 1) (mkP.row i f (k + 1)) by
        rw [mkP.row_succ, HC.out]
        show w1.ownsRow w.heap.size 52 5 v' (k + 1) (mkP.row i f k ++ pairCs (nameB i c, ⟨false, 0, 0, ⟨#[]⟩⟩))
        rw [HNM.out]
        exact hown')
      clear hown' hgrow HBA HOA
      go_wp2_with fail
      go_roundw
      case rel => exact ⟨k + 1, by omega, by have := HC.out; go_num, HB1.out, HO1.out⟩
      case measure => simp [intOf]; omega
    · have hge : ¬ ((c : Int) < (f : Int) + (n : Int)) := by omega
      have e1 : k = n := by omega
      subst e1
      go_wp2_with fail
      go_ret
      exact ⟨_, rfl, hown, hbl⟩
end Go.Proofs.YtaelghbjbopilaaGreat
end
