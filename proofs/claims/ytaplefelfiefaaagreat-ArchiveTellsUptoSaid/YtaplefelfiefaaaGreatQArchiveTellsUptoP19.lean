import Derived.Test.YtaplefelfiefaaaGreatQArchiveTellsUptoP14
import Derived.Test.YtaplefelfiefaaaGreatQArchiveTellsUptoP18
import Derived.Test.YtaplefelfiefaaaGreatQArchiveTellsUptoP1
import Derived.Deep.Cut
import Derived.Test.YtaplefelfiefaaaGreatQArchiveTellsUptoP2

/- What bedrockref24.Read comes to: plain laws of its desk. By an AI agent. -/
section
set_option linter.unusedVariables false
set_option linter.unusedSimpArgs false
namespace Go.Proofs.YtaplefelfiefaaaGreat
open Go.RowKit

theorem dkTake_rd {n : Nat} {l t m : List UInt8} (h : rdTake n l = some (t, m)) : dkTake n l false = (t, m, false) := by
  unfold rdTake at h
  unfold dkTake
  split at h
  · rename_i hn
    simp only [Option.some.injEq, Prod.mk.injEq] at h
    rw [if_pos ⟨rfl, hn⟩, h.1, h.2]
  · cases h
theorem dkTake_num {n : Nat} {l m : List UInt8} {x : Int} (h : rdNum n l = some (x, m)) : dkTake n l false = (l.take n, m, false) ∧ dkNum n l false = x := by
  unfold rdNum at h
  unfold dkTake dkNum
  split at h
  · rename_i hn
    simp only [Option.some.injEq, Prod.mk.injEq] at h
    rw [if_pos ⟨rfl, hn⟩, if_pos ⟨rfl, hn⟩, h.1, h.2]
    exact ⟨rfl, rfl⟩
  · cases h
theorem dkTake_is (n : Nat) (l : List UInt8) (bad : Bool) : (bad = false ∧ n ≤ l.length ∧ dkTake n l bad = (l.take n, l.drop n, false)) ∨ dkTake n l bad = ([], l, true) := by
  unfold dkTake
  by_cases h : bad = false ∧ n ≤ l.length
  · rw [if_pos h]; exact .inl ⟨h.1, h.2, rfl⟩
  · rw [if_neg h]; exact .inr rfl
theorem dkNum_ge (n : Nat) (l : List UInt8) (bad : Bool) : 0 ≤ dkNum n l bad := by
  unfold dkNum
  split
  · exact (getN_bound _).1
  · exact Int.le_refl 0
theorem dkNum_lt1 (l : List UInt8) (bad : Bool) : dkNum 1 l bad < 256 := by
  unfold dkNum
  split
  · rename_i h
    have := (getN_bound (l.take 1)).2
    rwa [List.length_take, Nat.min_eq_left h.2, show (256 : Int) ^ 1 = 256 from rfl] at this
  · decide
theorem dkNum_lt4 (l : List UInt8) (bad : Bool) : dkNum 4 l bad < 4294967296 := by
  unfold dkNum
  split
  · rename_i h
    have := (getN_bound (l.take 4)).2
    rwa [List.length_take, Nat.min_eq_left h.2, show (256 : Int) ^ 4 = 4294967296 from rfl] at this
  · decide
theorem dkTake_len {n : Nat} {l t m : List UInt8} {bad b : Bool} (h : dkTake n l bad = (t, m, b)) : m.length ≤ l.length ∧ t.length ≤ l.length ∧ t.length ≤ n ∧ (b = false → bad = false ∧ n + m.length = l.length) := by
  rcases dkTake_is n l bad with ⟨h1, h2, h3⟩ | h3
  · rw [h3] at h
    simp only [Prod.mk.injEq] at h
    obtain ⟨rfl, rfl, rfl⟩ := h
    rw [List.length_take, List.length_drop]
    exact ⟨by omega, by omega, by omega, fun _ => ⟨h1, by omega⟩⟩
  · rw [h3] at h
    simp only [Prod.mk.injEq] at h
    obtain ⟨rfl, rfl, rfl⟩ := h
    exact ⟨Nat.le_refl _, Nat.zero_le _, Nat.zero_le _, fun q => by cases q⟩
theorem dkTake_true {n : Nat} {l t m : List UInt8} {bad : Bool} (h : dkTake n l bad = (t, m, true)) : t = [] := by
  rcases dkTake_is n l bad with ⟨h1, h2, h3⟩ | h3
  · rw [h3] at h
    simp only [Prod.mk.injEq] at h
    cases h.2.2
  · rw [h3] at h
    simp only [Prod.mk.injEq] at h
    exact h.1.symm
theorem getA_nil : (getA []).2 ≠ 0 := by decide
/-- a round: what is taken, and whether it is what archive.read takes -/
structure RfStep (l : List UInt8) (key ta l4 : List UInt8) (b4 : Bool) : Prop where
  yes : (getA ta).2 = 0 → b4 = false ∧ l4.length + 3 ≤ l.length
  klen : key.length ≤ 255
  tlen : ta.length ≤ l.length
  rd : ∀ p m, rdPairC l = some (p, m) → (getA ta).2 = 0 ∧ m = l4 ∧ p = (strL key, afterL (strL key) noVal (getA ta).1)
theorem rfStep {l t1 l1 key l2 t3 l3 ta l4 : List UInt8} {b1 b2 b3 b4 : Bool} {kn an : Nat} (h1 : dkTake 1 l false = (t1, l1, b1)) (n1 : dkNum 1 l false = kn) (h2 : dkTake kn l1 b1 = (key, l2, b2)) (h3 : dkTake 2 l2 b2 = (t3, l3, b3)) (n3 : dkNum 2 l2 b2 = an)
    (h4 : dkTake an l3 b3 = (ta, l4, b4)) : RfStep l key ta l4 b4 := by
  have z1 := dkTake_len h1
  have z2 := dkTake_len h2
  have z3 := dkTake_len h3
  have z4 := dkTake_len h4
  refine ⟨fun hg => ?_, ?_, by omega, fun p m h => ?_⟩
  · cases b4
    · have e4 := z4.2.2.2 rfl
      have e3 := z3.2.2.2 e4.1
      have e2 := z2.2.2.2 e3.1
      have e1 := z1.2.2.2 e2.1
      exact ⟨rfl, by omega⟩
    · rw [dkTake_true h4] at hg
      exact absurd hg getA_nil
  · have := dkNum_lt1 l false
    omega
  · simp only [rdPairC] at h
    cases e1 : rdNum 1 l with
    | none => rw [e1] at h; cases h
    | some p1 =>
      obtain ⟨x1, m1⟩ := p1
      rw [e1, Option.bind_some] at h
      dsimp only at h
      obtain ⟨d1, d1n⟩ := dkTake_num e1
      rw [h1] at d1
      simp only [Prod.mk.injEq] at d1
      obtain ⟨-, rfl, rfl⟩ := d1
      rw [n1] at d1n
      subst d1n
      rw [Int.toNat_natCast] at h
      cases e2 : rdTake kn l1 with
      | none => rw [e2] at h; cases h
      | some p2 =>
        obtain ⟨t2, m2⟩ := p2
        rw [e2, Option.bind_some] at h
        dsimp only at h
        have d2 := dkTake_rd e2
        rw [h2] at d2
        simp only [Prod.mk.injEq] at d2
        obtain ⟨rfl, rfl, rfl⟩ := d2
        cases e3 : rdNum 2 l2 with
        | none => rw [e3] at h; cases h
        | some p3 =>
          obtain ⟨x3, m3⟩ := p3
          rw [e3, Option.bind_some] at h
          dsimp only at h
          obtain ⟨d3, d3n⟩ := dkTake_num e3
          rw [h3] at d3
          simp only [Prod.mk.injEq] at d3
          obtain ⟨-, rfl, rfl⟩ := d3
          rw [n3] at d3n
          subst d3n
          rw [Int.toNat_natCast] at h
          cases e4 : rdTake an l3 with
          | none => rw [e4] at h; cases h
          | some p4 =>
            obtain ⟨t4, m4⟩ := p4
            rw [e4, Option.bind_some] at h
            dsimp only at h
            have d4 := dkTake_rd e4
            rw [h4] at d4
            simp only [Prod.mk.injEq] at d4
            obtain ⟨rfl, rfl, rfl⟩ := d4
            split at h
            · rename_i hc
              simp only [Option.some.injEq, Prod.mk.injEq] at h
              exact ⟨hc.1, h.2.symm, h.1.symm⟩
            · cases h
/-- what is read, is in the whole's beginning too -/
theorem rdBody_of {l : List UInt8} {x : ArcL} (h : rdArc l = some x) : rdBody l = some (canonArc x, numB (sumL (bodyArc x) : Int) 4) := by
  obtain ⟨hv, ok, hp⟩ := rdArc_back h
  have := rdBody_put (validArc_parts hv) ok (numB (sumL (bodyArc x) : Int) 4)
  rw [← hp]
  exact this
theorem rdArc_no {l : List UInt8} (h : rdBody l = none) : rdArc l = none := by
  cases hr : rdArc l with
  | none => rfl
  | some x => rw [rdBody_of hr] at h; cases h
/-- what bedrockref24.Read answers -/
def RfPost (w : World) (l : List UInt8) (e : Ending) (w' : World) : Prop :=
  (∃ (a : ArcL) (ad : Option Addr) (n ca : Nat) (pd : Option Addr) (pn pc : Nat), (validArc a = true ∧ ArcOk a ∧ putArc a = l) ∧ e = .returned (.tuple #[arcV a.n a.parts ad n ca pd pn pc, .int .i64 0]) ∧ FarO w.heap.size w' ad n ca a.at_ ∧ FarPO w.heap.size w' pd pn pc a.pairs ∧ Bl w w') ∨
  (rdArc l = none ∧ e = .returned (.tuple #[arcV 0 0 none 0 0 none 0 0, .int .i64 70]) ∧ Bl w w')
theorem rf_written {l m : List UInt8} {a : ArcL} (hz : l.length ≤ 524288) (hb : rdBody l ≠ none → rdBody l = some (a, m)) (hn : ¬ (wrC a = 0 ∧ wrL a = l)) : rdArc l = none := by
  cases hr : rdArc l with
  | none => rfl
  | some x =>
    obtain ⟨hv, ok, hp⟩ := rdArc_back hr
    have e := hb (by rw [rdBody_of hr]; simp)
    rw [rdBody_of hr] at e
    simp only [Option.some.injEq, Prod.mk.injEq] at e
    have h := validArc_parts hv
    refine absurd ((wr_iff a l hz).2 ?_) hn
    rw [← e.1]
    exact ⟨validArc_of (canonArc_parts h ok), by unfold putArc; rw [canonArc_body h ok]; exact hp⟩
/-! ### the walk's invariants -/
/-- what is still to be read, where the whole can be read -/
def RfInv (l : List UInt8) (n parts : Int) (xs : List Int) (k : Nat) (lk : List UInt8) (bad : Bool) (acc : List (ByteArray × ValL)) : Prop :=
  rdBody l ≠ none → bad = false ∧ rdBody l = (rdPairsC k lk).map fun q => ((⟨n, parts, xs, acc ++ q.1⟩ : ArcL), q.2)
theorem RfInv.bad {l : List UInt8} {n parts : Int} {xs : List Int} {k : Nat} {lk : List UInt8} {acc : List (ByteArray × ValL)} (h : RfInv l n parts xs k lk true acc) : rdBody l = none := by
  cases hr : rdBody l with
  | none => rfl
  | some x => exact absurd (h (by rw [hr]; simp)).1 (by decide)
theorem RfInv.fail {l : List UInt8} {n parts : Int} {xs : List Int} {k : Nat} {lk key ta l4 : List UInt8} {bad b4 : Bool} {acc : List (ByteArray × ValL)} (h : RfInv l n parts xs (k + 1) lk bad acc) (s : RfStep lk key ta l4 b4) (hc : (getA ta).2 ≠ 0) : rdBody l = none := by
  cases hr : rdBody l with
  | none => rfl
  | some x =>
    have e := (h (by rw [hr]; simp)).2
    rw [hr] at e
    cases hp : rdPairC lk with
    | none => simp [rdPairsC, hp] at e
    | some p => exact absurd (s.rd p.1 p.2 hp).1 hc
theorem RfInv.step {l : List UInt8} {n parts : Int} {xs : List Int} {k : Nat} {lk key ta l4 : List UInt8} {bad b4 : Bool} {acc : List (ByteArray × ValL)} (h : RfInv l n parts xs (k + 1) lk bad acc) (s : RfStep lk key ta l4 b4) (hc : (getA ta).2 = 0) :
    RfInv l n parts xs k l4 b4 (acc ++ [(strL key, afterL (strL key) noVal (getA ta).1)]) := fun hr => by
  have e := (h hr).2
  refine ⟨(s.yes hc).1, ?_⟩
  cases hp : rdPairC lk with
  | none =>
    simp [rdPairsC, hp] at e
    exact absurd e hr
  | some p =>
    obtain ⟨p, m⟩ := p
    obtain ⟨-, rfl, rfl⟩ := s.rd p m hp
    rw [e]
    simp only [rdPairsC, hp, Option.bind_some, Option.map_map]
    congr 1
    funext q
    simp
theorem RfInv.last {l : List UInt8} {n parts : Int} {xs : List Int} {lk : List UInt8} {bad : Bool} {acc : List (ByteArray × ValL)} (h : RfInv l n parts xs 0 lk bad acc) : rdBody l ≠ none → rdBody l = some (⟨n, parts, xs, acc⟩, lk) := fun hr => by
  rw [(h hr).2]
  simp [rdPairsC]
theorem rfBegin {l t8 l8 : List UInt8} {b8 : Bool} (h8 : dkTake 8 l false = (t8, l8, b8)) (h : t8 ≠ beginL) : rdBody l = none := by
  unfold rdBody rdFront
  cases e : rdTake 8 l with
  | none => rfl
  | some p =>
    have := dkTake_rd (show rdTake 8 l = some (p.1, p.2) from e)
    rw [h8] at this
    simp only [Prod.mk.injEq] at this
    rw [Option.bind_some, if_neg (by rw [← this.1]; exact h)]
    rfl
/-- the numbers of nodes and parts -/
theorem rfHead {l t8 l8 t9 l9 t10 l10 : List UInt8} {b8 b9 b10 : Bool} {n parts : Int} (h8 : dkTake 8 l false = (t8, l8, b8)) (h9 : dkTake 1 l8 b8 = (t9, l9, b9)) (n9 : dkNum 1 l8 b8 = n) (h10 : dkTake 1 l9 b9 = (t10, l10, b10)) (n10 : dkNum 1 l9 b9 = parts) (hr : rdBody l ≠ none) :
    b10 = false ∧ rdBody l = (((rdV l10).bind fun p3 => (rdNum 4 p3.2).bind fun p4 => some ((n, parts, p3.1, p4.1), p4.2)).bind fun p => (rdPairsC p.1.2.2.2.toNat p.2).map fun q => ((⟨p.1.1, p.1.2.1, p.1.2.2.1, q.1⟩ : ArcL), q.2)) := by
  unfold rdBody rdFront at hr ⊢
  cases e : rdTake 8 l with
  | none => rw [e] at hr; exact absurd rfl hr
  | some p =>
    obtain ⟨t, m⟩ := p
    have := dkTake_rd e
    rw [h8] at this
    simp only [Prod.mk.injEq] at this
    obtain ⟨rfl, rfl, rfl⟩ := this
    rw [e, Option.bind_some] at hr
    dsimp only at hr
    rw [Option.bind_some]
    dsimp only
    split at hr
    case isFalse => exact absurd rfl hr
    rename_i hb
    rw [if_pos hb]
    cases e9 : rdNum 1 l8 with
    | none => rw [e9] at hr; exact absurd rfl hr
    | some p9 =>
      obtain ⟨x9, m9⟩ := p9
      obtain ⟨d9, d9n⟩ := dkTake_num e9
      rw [h9] at d9
      simp only [Prod.mk.injEq] at d9
      obtain ⟨-, rfl, rfl⟩ := d9
      rw [n9] at d9n
      subst d9n
      rw [e9, Option.bind_some] at hr
      dsimp only at hr
      rw [Option.bind_some]
      dsimp only
      cases e10 : rdNum 1 l9 with
      | none => rw [e10] at hr; exact absurd rfl hr
      | some p10 =>
        obtain ⟨x10, m10⟩ := p10
        obtain ⟨d10, d10n⟩ := dkTake_num e10
        rw [h10] at d10
        simp only [Prod.mk.injEq] at d10
        obtain ⟨-, rfl, rfl⟩ := d10
        rw [n10] at d10n
        subst d10n
        rw [Option.bind_some]
        exact ⟨rfl, rfl⟩
theorem rfVec {l l10 : List UInt8} {b10 : Bool} {n parts : Int} (hv : rdV l10 = none) (h : rdBody l ≠ none → b10 = false ∧ rdBody l = (((rdV l10).bind fun p3 => (rdNum 4 p3.2).bind fun p4 => some ((n, parts, p3.1, p4.1), p4.2)).bind fun p => (rdPairsC p.1.2.2.2.toNat p.2).map fun q => ((⟨p.1.1, p.1.2.1, p.1.2.2.1, q.1⟩ : ArcL), q.2))) : rdBody l = none := by
  cases hr : rdBody l with
  | none => rfl
  | some x =>
    have e := (h (by rw [hr]; simp)).2
    rw [hr, hv] at e
    cases e
theorem rfInv0 {l l10 m11 tv l11 t12 l12 : List UInt8} {b10 b11 b12 : Bool} {n parts : Int} {xs : List Int} {pn : Nat} (hv : rdV l10 = some (xs, m11)) (h11 : dkTake (1 + 6 * xs.length) l10 b10 = (tv, l11, b11)) (h12 : dkTake 4 l11 b11 = (t12, l12, b12)) (n12 : dkNum 4 l11 b11 = pn)
    (h : rdBody l ≠ none → b10 = false ∧ rdBody l = (((rdV l10).bind fun p3 => (rdNum 4 p3.2).bind fun p4 => some ((n, parts, p3.1, p4.1), p4.2)).bind fun p => (rdPairsC p.1.2.2.2.toNat p.2).map fun q => ((⟨p.1.1, p.1.2.1, p.1.2.2.1, q.1⟩ : ArcL), q.2))) : RfInv l n parts xs pn l12 b12 [] := fun hr => by
  obtain ⟨rfl, e⟩ := h hr
  have hvl := rdV_len hv
  have hb := (rdV_back hv).1
  have e11 : dkTake (1 + 6 * xs.length) l10 false = (l10.take (1 + 6 * xs.length), m11, false) := by
    unfold dkTake
    rw [if_pos ⟨rfl, by omega⟩]
    congr 2
    rw [hb, List.drop_left' (by rw [putL_len])]
  rw [h11] at e11
  simp only [Prod.mk.injEq] at e11
  obtain ⟨-, rfl, rfl⟩ := e11
  rw [hv, Option.bind_some] at e
  dsimp only at e
  cases e4 : rdNum 4 l11 with
  | none => rw [e4] at e; exact absurd e hr
  | some p4 =>
    obtain ⟨x4, m4⟩ := p4
    obtain ⟨d4, d4n⟩ := dkTake_num e4
    rw [h12] at d4
    simp only [Prod.mk.injEq] at d4
    obtain ⟨-, rfl, rfl⟩ := d4
    rw [n12] at d4n
    subst d4n
    rw [e4, Option.bind_some, Option.bind_some] at e
    dsimp only at e
    rw [Int.toNat_natCast] at e
    exact ⟨rfl, by rw [e]; rfl⟩
end Go.Proofs.YtaplefelfiefaaaGreat
end

/- bedrockref2.isNan, key, Compare, Same. By an AI agent. -/
section
namespace Go.Proofs.YtaplefelfiefaaaGreat
open Go.RowKit

theorem ret_pairC {a b c d : Int} (h : a = b) (k : c = d) : Ending.returned (.tuple #[.int .i64 a, .int .i64 c]) = Ending.returned (.tuple #[.int .i64 b, .int .i64 d]) := by rw [h, k]
def keyH (x : Nat) : Nat := fkey x / 4294967296
def keyL (x : Nat) : Nat := fkey x % 4294967296
theorem keyH_lt {x : Nat} (hx : x < two64) : keyH x < 4294967296 := by
  have := fkey_lt hx
  unfold keyH; unfold two64 at this; omega
theorem keyL_lt (x : Nat) : keyL x < 4294967296 := by unfold keyL; omega
theorem key_nan {x : Nat} (h : nanB x = true) : keyH x = 0 ∧ keyL x = 0 := by
  have : fkey x = 0 := by unfold fkey; rw [h]; rfl
  unfold keyH keyL; rw [this]; exact ⟨rfl, rfl⟩
theorem key_neg {x : Nat} (h : nanB x = false) (hx : x < two64) (k : 2147483648 ≤ x / 4294967296) : keyH x = 4294967295 - x / 4294967296 ∧ keyL x = 4294967295 - x % 4294967296 := by
  have e := fkey_num h
  unfold two63 at e
  rw [if_pos (by omega)] at e
  unfold keyH keyL
  rw [e]
  unfold two64 at *
  omega
theorem half_pos {x : Nat} (h : nanB x = false) (k : ¬ 2147483648 ≤ x / 4294967296) : keyH x = x / 4294967296 + 2147483648 ∧ keyL x = x % 4294967296 := by
  have e := fkey_num h
  unfold two63 at e
  rw [if_neg (by omega)] at e
  unfold keyH keyL
  rw [e]
  omega
theorem key_order (x y : Nat) : cmpN (fkey x) (fkey y) = if keyH x < keyH y ∨ (keyH x = keyH y ∧ keyL x < keyL y) then -1 else if keyH y < keyH x ∨ keyL y < keyL x then 1 else 0 := by
  have h1 : fkey x < fkey y ↔ (keyH x < keyH y ∨ (keyH x = keyH y ∧ keyL x < keyL y)) := by unfold keyH keyL; omega
  have h2 : ¬ fkey x < fkey y → (fkey y < fkey x ↔ (keyH y < keyH x ∨ keyL y < keyL x)) := by unfold keyH keyL; omega
  unfold cmpN
  by_cases h : fkey x < fkey y
  · rw [if_pos h, if_pos (h1.1 h)]
  · rw [if_neg h, if_neg (fun k => h (h1.2 k))]
    by_cases h3 : fkey y < fkey x
    · rw [if_pos h3, if_pos ((h2 h).1 h3)]
    · rw [if_neg h3, if_neg (fun k => h3 ((h2 h).2 k))]

/-- eight bytes in two halves -/
theorem refNan_any (x : Nat) (w : World) (hx : x < two64) : Calls Tryz.prog 182 #[.float .f64 x] w fun e w' => e = .returned (.bool (nanB x)) ∧ w = w' := by
  have q : (FloatKind.f64.format.order x x != some .eq) = nanB x := self_nan hx
  cases hn : nanB x
  · rw [hn] at q
    go_enter Tryz.func182, Tryz.ntmps182
    go_wp2_with fail
    go_ret
    exact ⟨rfl, rfl⟩
  · rw [hn] at q
    go_enter Tryz.func182, Tryz.ntmps182
    go_wp2_with fail
    go_ret
    exact ⟨rfl, rfl⟩

set_option maxHeartbeats 800000 in
set_option maxRecDepth 100000 in
theorem refKey_any (x : Nat) (w : World) (hx : x < two64) :
    Calls Tryz.prog 179 #[.float .f64 x] w fun e w' => e = .returned (.tuple #[.int .i64 (keyH x), .int .i64 (keyL x)]) ∧ w = w' := by
  have hrb := run_bits x
  obtain ⟨H, hH⟩ : ∃ H : Nat, x / 4294967296 = H := ⟨_, rfl⟩
  obtain ⟨L, hL⟩ : ∃ L : Nat, x % 4294967296 = L := ⟨_, rfl⟩
  have eH := Lib.hid (show (x : Int) / 4294967296 = (H : Int) by omega)
  have eL := Lib.hid (show (x : Int) % 4294967296 = (L : Int) by omega)
  have bH : H < 4294967296 := by unfold two64 at hx; omega
  have bL : L < 4294967296 := by omega
  cases hn : nanB x
  · have hx2 : x < 18446744073709551616 := hx
    by_cases k : 2147483648 ≤ H
    · have HK := Lib.hid (key_neg hn hx (by rw [hH]; exact k))
      rw [hH, hL] at HK
      clear hH hL
      have q : decide ((2147483648 : Int) ≤ (H : Int)) = true := by simp; omega
      go_enter Tryz.func179, Tryz.ntmps179
      go_wp2_with fail
      refine (refNan_any x _ hx).mono ?_
      rintro e w1 ⟨rfl, rfl⟩
      rw [hn]
      go_upto_region 5 with fail
      rw [eH.out, eL.out]
      go_wp2_with fail
      go_ret2
      exact ⟨ret_pairC (by rw [HK.out.1]; omega) (by rw [HK.out.2]; omega), rfl⟩
    · have HK := Lib.hid (half_pos hn (by rw [hH]; exact k))
      rw [hH, hL] at HK
      clear hH hL
      have q : decide ((2147483648 : Int) ≤ (H : Int)) = false := by simp; omega
      go_enter Tryz.func179, Tryz.ntmps179
      go_wp2_with fail
      refine (refNan_any x _ hx).mono ?_
      rintro e w1 ⟨rfl, rfl⟩
      rw [hn]
      go_upto_region 5 with fail
      rw [eH.out, eL.out]
      go_wp2_with fail
      go_ret2
      exact ⟨ret_pairC (by rw [HK.out.1]; omega) (by rw [HK.out.2]), rfl⟩
  · have HK := Lib.hid (key_nan hn)
    clear hH hL bH bL
    go_enter Tryz.func179, Tryz.ntmps179
    go_wp2_with fail
    refine (refNan_any x _ hx).mono ?_
    rintro e w1 ⟨rfl, rfl⟩
    rw [hn]
    go_wp2_with fail
    go_ret2
    exact ⟨ret_pairC (by rw [HK.out.1]; rfl) (by rw [HK.out.2]; rfl), rfl⟩

set_option maxRecDepth 100000 in
theorem refCompare_any (x y : Nat) (w : World) (hx : x < two64) (hy : y < two64) :
    Calls Tryz.prog 147 #[.float .f64 x, .float .f64 y] w fun e w' => e = .returned (.int .i64 (cmpN (fkey x) (fkey y))) ∧ w = w' := by
  have HK := Lib.hid (key_order x y)
  obtain ⟨a, ha⟩ : ∃ a, keyH x = a := ⟨_, rfl⟩
  obtain ⟨b, hb⟩ : ∃ b, keyL x = b := ⟨_, rfl⟩
  obtain ⟨c, hc⟩ : ∃ c, keyH y = c := ⟨_, rfl⟩
  obtain ⟨d, hd⟩ : ∃ d, keyL y = d := ⟨_, rfl⟩
  have K1 := Lib.hid (fun w => refKey_any x w hx)
  have K2 := Lib.hid (fun w => refKey_any y w hy)
  rw [ha, hb] at K1 HK
  rw [hc, hd] at K2 HK
  clear ha hb hc hd
  go_enter Tryz.func147, Tryz.ntmps147
  go_wp2_with fail
  refine (K1.out _).mono ?_
  rintro e w1 ⟨rfl, rfl⟩
  go_wp2_with fail
  refine (K2.out _).mono ?_
  rintro e w1 ⟨rfl, rfl⟩
  rcases Nat.lt_trichotomy a c with h1 | h1 | h1
  · have q1 : decide ((a : Int) < (c : Int)) = true := by simp; omega
    go_wp2_with fail
    go_ret
    exact ⟨ret_int (by rw [HK.out, if_pos (by omega)]), rfl⟩
  · subst h1
    have q1 : decide ((a : Int) < (a : Int)) = false := by simp
    have q2 : ((a : Int) == (a : Int)) = true := by simp
    rcases Nat.lt_trichotomy b d with h2 | h2 | h2
    · have q3 : decide ((b : Int) < (d : Int)) = true := by simp; omega
      go_wp2_with fail
      go_ret
      exact ⟨ret_int (by rw [HK.out]; simp [h2]), rfl⟩
    · subst h2
      have q3 : decide ((b : Int) < (b : Int)) = false := by simp
      go_wp2_with fail
      go_ret
      exact ⟨ret_int (by rw [HK.out, if_neg (by omega), if_neg (by omega)]), rfl⟩
    · have q3 : decide ((b : Int) < (d : Int)) = false := by simp; omega
      have q4 : decide ((d : Int) < (b : Int)) = true := by simp; omega
      go_wp2_with fail
      go_ret
      exact ⟨ret_int (by rw [HK.out, if_neg (by omega), if_pos (by omega)]), rfl⟩
  · have q1 : decide ((a : Int) < (c : Int)) = false := by simp; omega
    have q2 : ((a : Int) == (c : Int)) = false := by simp; omega
    have q3 : decide ((c : Int) < (a : Int)) = true := by simp; omega
    go_wp2_with fail
    go_ret
    exact ⟨ret_int (by rw [HK.out, if_neg (by omega), if_pos (by omega)]), rfl⟩
theorem refSame_any (x y : Nat) (w : World) (hx : x < two64) (hy : y < two64) : Calls Tryz.prog 56 #[.float .f64 x, .float .f64 y] w fun e w' => e = .returned (.bool (decide (fkey x = fkey y))) ∧ w = w' := by
  have HZ := Lib.hid (cmpN_zero (fkey x) (fkey y))
  go_enter Tryz.func56, Tryz.ntmps56
  go_wp2_with fail
  refine (refCompare_any x y _ hx hy).mono ?_
  rintro e w1 ⟨rfl, rfl⟩
  go_wp2_with fail
  go_ret
  exact ⟨ret_bool HZ.out, rfl⟩
end Go.Proofs.YtaplefelfiefaaaGreat
end

/- parts of other texts. By an AI agent. -/
section
set_option linter.unusedVariables false
set_option linter.unusedSimpArgs false
namespace Go.Proofs.YtaplefelfiefaaaGreat
open Go.RowKit

theorem small_of {s : ByteArray} (h : s.toList = []) : s.size ≤ 1024 := by
  rw [nil_of h]; decide
theorem empty_of {s : ByteArray} (h : s.size = 0) : s.toList.isEmpty = true := by
  rw [ByteArray.toList_eq]
  obtain ⟨⟨l⟩⟩ := s
  cases l with
  | nil => rfl
  | cons a l => simp [ByteArray.size] at h
theorem filled_of {s : ByteArray} (h : 0 < s.size) : s.toList.isEmpty = false := by
  rw [ByteArray.toList_eq]
  obtain ⟨⟨l⟩⟩ := s
  cases l with
  | nil => exact absurd h (by decide)
  | cons a l => rfl
set_option maxHeartbeats 800000 in
set_option maxRecDepth 100000 in
theorem refRight_any (a : ActL) (w : World) (ok : a.Ok) : Calls Tryz.prog 119 #[a.v] w fun e w' => e = .returned (.bool (rightB a)) ∧ Bl w w' := by
  obtain ⟨k, x, n, s⟩ := a
  obtain ⟨hk, hx, hn, hs⟩ := ok
  simp only at hk hx hn hs
  show Calls Tryz.prog 119 #[.agg #[.int .i64 k, .float .f64 x, .int .i64 n, .string s]] w _
  go_enter Tryz.func119, Tryz.ntmps119
  go_wp2_with fail
  refine (refSame_any x 0 _ hx (by decide)).mono ?_
  rintro e w' ⟨rfl, rfl⟩
  rw [show decide (fkey x = fkey 0) = noughtB x from rfl]
  cases hN : noughtB x
  all_goals
    go_wp2_with fail
    all_goals (go_ret; refine ⟨ret_bool ?_, (Bl.refl w).alloc _⟩)
    all_goals (unfold rightB; simp_all; try omega)
    all_goals exact small_of
set_option maxHeartbeats 1600000 in
set_option maxRecDepth 100000 in
theorem refSameA_any (a d : ActL) (w : World) (oa : a.Ok) (ob : d.Ok) :
    Calls Tryz.prog 15 #[a.v, d.v] w fun e w' => e = .returned (.bool (sameA a d)) ∧ Bl w w' := by
  obtain ⟨k, x, n, s⟩ := a
  obtain ⟨l, y, m, t⟩ := d
  obtain ⟨_, hx, _, _⟩ := oa
  obtain ⟨_, hy, _, _⟩ := ob
  simp only at hx hy
  show Calls Tryz.prog 15 #[.agg #[.int .i64 k, .float .f64 x, .int .i64 n, .string s], .agg #[.int .i64 l, .float .f64 y, .int .i64 m, .string t]] w _
  by_cases hk : k = l
  · subst hk
    by_cases hf : fkey x = fkey y
    · have HF := Lib.hid hf
      go_enter Tryz.func15, Tryz.ntmps15
      go_wp2_with fail
      refine (refSame_any x y _ hx hy).mono ?_
      rintro e w1 ⟨rfl, rfl⟩
      rw [decide_eq_true hf]
      clear hf
      go_wp2_with fail
      all_goals (go_ret; refine ⟨ret_bool ?_, ((Bl.refl w).alloc _).alloc _⟩)
      all_goals (have h1 := HF.out; simp_all [sameA])
    · have HF := Lib.hid hf
      go_enter Tryz.func15, Tryz.ntmps15
      go_wp2_with fail
      refine (refSame_any x y _ hx hy).mono ?_
      rintro e w1 ⟨rfl, rfl⟩
      rw [decide_eq_false hf]
      clear hf
      go_wp2_with fail
      go_ret
      refine ⟨ret_bool ?_, ((Bl.refl w).alloc _).alloc _⟩
      have h1 := HF.out
      simp [sameA, h1]
  · have q : (k == l) = false := by simpa using hk
    have HK := Lib.hid hk
    clear hk
    go_enter Tryz.func15, Tryz.ntmps15
    go_wp2_with fail
    go_ret
    refine ⟨ret_bool ?_, ((Bl.refl w).alloc _).alloc _⟩
    have h1 := HK.out
    simp [sameA, h1]
end Go.Proofs.YtaplefelfiefaaaGreat
end
