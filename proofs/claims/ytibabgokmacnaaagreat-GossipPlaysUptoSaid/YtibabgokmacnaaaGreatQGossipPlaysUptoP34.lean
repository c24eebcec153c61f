import Derived.Test.YtibabgokmacnaaaGreatQGossipPlaysUptoP12
import Derived.Test.YtibabgokmacnaaaGreatQGossipPlaysUptoP10
import Derived.Test.YtibabgokmacnaaaGreatQGossipPlaysUptoP3
import Derived.Test.YtibabgokmacnaaaGreatQGossipPlaysUptoP33

/- gossip.Put. By an AI agent. -/
section
namespace Go.Proofs.YtibabgokmacnaaaGreat
open Go.RowKit

theorem flat_len (l : List (List Int)) (hv : ∀ r ∈ l, validL r = true) : (l.flatMap putL).length ≤ 49 * l.length := by
  induction l with
  | nil => simp
  | cons a l ih =>
    have h1 := ih fun r hr => hv r (by simp [hr])
    have h2 := putL_small (hv a (by simp))
    rw [List.flatMap_cons, List.length_append, List.length_cons]; omega
theorem flat_small (rows : List (List Int)) (k : Nat) (hv : ∀ r ∈ rows, validL r = true) : rows.length ≤ 8 → ((rows.take k).flatMap putL).length ≤ 392 := fun h8 => by
  have h1 := flat_len (rows.take k) fun r hr => hv r (List.mem_of_mem_take hr)
  have h2 : (rows.take k).length ≤ rows.length := by simp; omega
  omega

set_option maxHeartbeats 1600000 in
set_option maxRecDepth 100000 in
theorem rowsPut_any (B g : Nat) (rows : List (List Int)) (w : World) (hr : RG B w g rows) (h1 : 1 ≤ rows.length) (hn8 : rows.length ≤ 8) (hv : ∀ r ∈ rows, validL r = true) :
    Calls Tryz.prog 36 #[.pointer (some ⟨g, 0, none⟩)] w fun e w' => ∃ s : ByteArray, e = .returned (.string s) ∧ SB s ((strOfNums [(rows.length : Int)]).data.toList ++ rows.flatMap putL) ∧ Bl w w' := by
  obtain ⟨v, hc, _, hor⟩ := hr
  obtain ⟨a0, cap, rfl⟩ := hor.slice
  have hcc := hc.cell
  have q0 : decide (rows.length = 0) = false := decide_eq_false (by omega)
  go_enter Tryz.func36, Tryz.ntmps36
  go_wp2_with fail
  refine (none_any g _ _ _ _ hc).mono ?_
  rintro e w1 ⟨rfl, rfl⟩
  rw [q0]
  have hcv : (convert 92 9 (.slice (some ⟨w.heap.size, 0, none⟩) 1 1)).run Tryz.prog (w.alloc (.cells #[.int .u8 rows.length] 5)) = .ok (.string (strOfNums [(rows.length : Int)])) (w.alloc (.cells #[.int .u8 rows.length] 5)) :=
    AR.string (xs := [(rows.length : Int)]) ⟨_, heap_alloc_new w _⟩ 0 1 1 rfl
  have hca := fun o => ((Bl.refl w).alloc o).cell hcc
  go_wp2_with fail
  go_loopw [3, 23] (fun s i wr => ∃ (k : Nat) (b : ByteArray), k ≤ rows.length ∧ i = .int .i64 k ∧ s = .string b ∧ SB b ((strOfNums [(rows.length : Int)]).data.toList ++ (rows.take k).flatMap putL) ∧ Bl w wr) (fun _ i _ => rows.length - (intOf i).toNat)
  case atStart => exact ⟨0, _, Nat.zero_le _, rfl, rfl, by simp [SB], (Bl.refl w).alloc _⟩
  case round =>
    obtain ⟨k, b, hkl, rfl, rfl, hsb, hb⟩ := hrel
    have HSB := Lib.hid hsb; clear hsb
    by_cases hlt : k < rows.length
    · obtain ⟨vs, hown, hvl, hrr⟩ := hor
      obtain ⟨h0, cap', e1, _, hcell, _⟩ := OR.cellAt hown hlt
      obtain ⟨ai, ni, ci, hvk, hIk⟩ := (hrr k).si
      rw [hvk] at hcell
      have e2 : a0 = some ⟨h0, 0, none⟩ := by simp at e1; exact e1.1
      subst e2
      have hcell := hb.cell hcell
      have hIk := hIk.keep hb
      have hvk2 : validL (nthR rows k) = true := hv _ (by simp [nthR, List.getD, hlt])
      clear hrr hvl hown e1 hvk
      have z1 : (putL (nthR rows k)).length ≤ 49 := putL_small hvk2
      have z2 : b.size ≤ 393 := by
        have h3 := HSB.out.size
        have h4 := flat_small rows k hv hn8
        rw [h3, List.length_append]
        have h5 : (strOfNums [(rows.length : Int)]).data.toList.length = 1 := by simp [strOfNums]
        omega
      go_wp2_with fail
      refine (vput_yes ai ni ci (nthR rows k) _ hIk hvk2).mono ?_
      rintro e w2 ⟨rfl, hb2⟩
      go_wp2_with fail
      go_roundw
      case rel => exact ⟨k + 1, _, by omega, by go_num, rfl, by
        rw [take_nthR hlt, List.flatMap_append, ← List.append_assoc]
        have h2 := SB.append HSB.out (SB.mk (putL (nthR rows k)))
        simpa using h2, hb.trans hb2⟩
      case measure => simp [intOf]; omega
    · obtain rfl : k = rows.length := by omega
      go_wp2_with fail
      go_ret
      refine ⟨_, rfl, ?_, hb⟩
      have h2 := HSB.out
      rw [List.take_length] at h2
      exact h2
end Go.Proofs.YtibabgokmacnaaaGreat
end

/- rows in bytes: plain definitions and laws; vec.Get in these words. By an AI agent. -/
section
set_option linter.unusedVariables false
namespace Go.Proofs.YtibabgokmacnaaaGreat
open Go.RowKit

/-- so many vectors of n numbers each -/
def rdVs (n : Nat) : Nat → List UInt8 → Option (List (List Int) × List UInt8)
  | 0, l => some ([], l)
  | k + 1, l => (rdV l).bind fun p => if p.1.length = n then (rdVs n k p.2).map fun q => (p.1 :: q.1, q.2) else none
theorem rdVs_back (n : Nat) : ∀ (k : Nat) (l m : List UInt8) (rows : List (List Int)), rdVs n k l = some (rows, m) → l = rows.flatMap putL ++ m ∧ rows.length = k ∧ ∀ r ∈ rows, validL r = true ∧ r.length = n
  | 0, l, m, rows, h => by
    simp only [rdVs, Option.some.injEq, Prod.mk.injEq] at h
    obtain ⟨rfl, rfl⟩ := h
    exact ⟨rfl, rfl, fun r h => by simp at h⟩
  | k + 1, l, m, rows, h => by
    unfold rdVs at h
    obtain ⟨p, h1, h⟩ := Option.bind_eq_some_iff.1 h
    split at h
    · rename_i hn
      obtain ⟨q, h2, h⟩ := Option.map_eq_some_iff.1 h
      simp only [Prod.mk.injEq] at h
      obtain ⟨rfl, rfl⟩ := h
      obtain ⟨e1, hv⟩ := rdV_back (xs := p.1) (m := p.2) h1
      obtain ⟨e2, e3, h3⟩ := rdVs_back n k p.2 q.2 q.1 h2
      refine ⟨by rw [List.flatMap_cons, List.append_assoc, ← e2, ← e1], by simp [e3], fun r hr => ?_⟩
      rcases List.mem_cons.1 hr with rfl | hr
      · exact ⟨hv, hn⟩
      · exact h3 r hr
    · cases h
/-- rows -/
def rdRows : List UInt8 → Option (List (List Int))
  | [] => none
  | d :: m => if 1 ≤ d.toNat ∧ d.toNat ≤ 8 then (rdVs d.toNat d.toNat m).bind fun q => if q.2 = [] then some q.1 else none else none
theorem rdRows_cons (d : UInt8) (m : List UInt8) : rdRows (d :: m) = if 1 ≤ d.toNat ∧ d.toNat ≤ 8 then (rdVs d.toNat d.toNat m).bind fun q => if q.2 = [] then some q.1 else none else none := rfl
def putRows (rows : List (List Int)) : List UInt8 := UInt8.ofNat rows.length :: rows.flatMap putL
theorem rdRows_back {l : List UInt8} {rows : List (List Int)} (h : rdRows l = some rows) : putRows rows = l ∧ 1 ≤ rows.length ∧ rows.length ≤ 8 ∧ ∀ r ∈ rows, validL r = true ∧ r.length = rows.length := by
  cases l with
  | nil => cases h
  | cons d t =>
    rw [rdRows_cons] at h
    split at h
    · rename_i hc
      obtain ⟨q, h1, h⟩ := Option.bind_eq_some_iff.1 h
      split at h
      · rename_i he
        simp only [Option.some.injEq] at h
        subst h
        obtain ⟨e1, e2, h3⟩ := rdVs_back _ _ t q.2 q.1 h1
        rw [he, List.append_nil] at e1
        refine ⟨?_, by omega, by omega, fun r hr => by rw [e2]; exact h3 r hr⟩
        unfold putRows
        rw [e2, ← e1]
        simp
      · cases h
    · cases h

end Go.Proofs.YtibabgokmacnaaaGreat
end
