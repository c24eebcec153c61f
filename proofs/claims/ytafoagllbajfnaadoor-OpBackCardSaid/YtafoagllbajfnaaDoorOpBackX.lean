/- the walk of OpBack, every way. By an AI agent. -/
import Derived.Test.YtafoagllbajfnaaDoorOpBackW
namespace Go.Proofs.YtafoagllbajfnaaDoor
open Go.RowKit

theorem getR_lt {u : Nat} (h : u < two64) : (getR u).1 < two64 := by
  unfold getR
  split
  · show nanW < two64; decide
  · split
    · show 0 < two64; decide
    · exact backW_lt h
theorem getN8_lt {m : List UInt8} (h : m.length = 8) : (getN m).toNat < two64 := by
  have := getN_bound m
  rw [h] at this
  unfold two64; omega
theorem mk_ok {k : Int} {x : Nat} {n : Int} {s : ByteArray} (hk : 0 ≤ k ∧ k ≤ 4) (hx : x < two64) (hn : -9223372036854775808 ≤ n ∧ n ≤ 9223372036854775807) (hs : s.size ≤ 140737488351232) : ActL.Ok ⟨k, x, n, s⟩ := ⟨by show _ ≤ k ∧ k ≤ _; omega, hx, hn, hs⟩
theorem numA_ok {k : Int} (m : List UInt8) (hk : 0 ≤ k ∧ k ≤ 4) : (numA k m).1.Ok := by
  unfold numA
  split
  · rename_i h
    exact mk_ok hk (getR_lt (getN8_lt h.1)) (by decide) nil_small
  · exact ⟨by decide, by decide, by decide, by decide⟩
theorem badA_ok : badA.1.Ok := ⟨by decide, by decide, by decide, by decide⟩
theorem getA_ok (l : List UInt8) : (getA l).1.Ok := by
  unfold getA
  split
  · exact badA_ok
  · split
    · unfold setA
      split
      · exact badA_ok
      · split
        · exact numA_ok _ (by decide)
        · split
          · split
            · rename_i h
              refine mk_ok (by decide) (by decide) (by decide) ?_
              show (ByteArray.mk l.tail.tail.toArray).size ≤ _
              rw [(SB.mk l.tail.tail).size, List.length_tail]
              have := h.2
              omega
            · exact badA_ok
          · exact badA_ok
    · split
      · split
        · exact mk_ok (by decide) (by decide) (wrap64_bd _) nil_small
        · exact badA_ok
      · split
        · exact numA_ok _ (by decide)
        · split
          · exact numA_ok _ (by decide)
          · split
            · split
              · exact ⟨by decide, by decide, by decide, by decide⟩
              · exact badA_ok
            · exact badA_ok
theorem xor_ne {a b : Nat} (h : b ≠ 0) : a ^^^ b ≠ a := by
  intro e
  have := congrArg (fun z => a ^^^ z) e
  simp only [Nat.xor_self, ← Nat.xor_assoc, Nat.zero_xor] at this
  exact h this

theorem opBack_walk (a : ActL) (by_ : Int) (w : World) (ok : a.Ok) (_hb : -9223372036854775808 ≤ by_ ∧ by_ ≤ 9223372036854775807) (hT : Tab w) :
    Calls Tryd.prog 16 #[.agg #[.int .i64 a.k, .float .f64 a.x, .int .i64 a.n, .string a.s], .int .i64 by_] w fun e w' => e = .returned (.bool true) ∧ Bl w w' := by
  by_cases hz : a.s.size ≤ 3000
  · cases hr : rightB a
    · exact back_not a.k a.x a.n a.s by_ w hT hz (Lib.hid ok) (Lib.hid ⟨show SB _ (putS a) by unfold putS; rw [hr]; rfl, show putC a = 40 by unfold putC; rw [hr]; rfl⟩)
    · obtain ⟨c, t, el, hk⟩ := putA_kind hr ok
      obtain ⟨g0, g1⟩ := getA_putA ok hr
      have hlen := putA_len hr
      have hs : SB ⟨(c :: t).toArray⟩ (c :: t) := SB.mk _
      rw [el] at g0 g1 hlen
      have H : Hid (SB ⟨(c :: t).toArray⟩ (putS ⟨a.k, a.x, a.n, a.s⟩) ∧ putC ⟨a.k, a.x, a.n, a.s⟩ = 0) := Lib.hid ⟨show SB _ (putS a) by unfold putS; rw [hr, ← el]; exact SB.mk _, show putC a = 0 by unfold putC; rw [hr]; rfl⟩
      have hsz := hs.size
      generalize (⟨(c :: t).toArray⟩ : ByteArray) = s at *
      have hp : 0 < s.size := by rw [hsz]; simp
      have hx := getA_ok (c :: t)
      have hG1 : getA (c :: t) = (⟨(getA (c :: t)).1.k, (getA (c :: t)).1.x, (getA (c :: t)).1.n, (getA (c :: t)).1.s⟩, 0) := by rw [← g0]
      have q2 : ((s.size : Int) == 0) = false := by rw [beq_eq_false_iff_ne]; omega
      by_cases hb : by_ % 256 = 0
      · exact back_yes a.k a.x a.n a.s by_ s _ _ _ _ w hT hz (Lib.hid ok) (Lib.hid hx) H (c :: t) (Lib.hid hs) (Lib.hid hG1) (Lib.hid g1) (by rw [hb]; rfl) q2
      · obtain ⟨B, hB⟩ : ∃ B : Nat, by_ % 256 = (B : Int) := ⟨(by_ % 256).toNat, by omega⟩
        have hB0 : B ≠ 0 := by omega
        have hB8 : B < 256 := by omega
        have hc8 : c.toNat < 256 := UInt8.toNat_lt c
        have hx8 : c.toNat ^^^ B < 256 := Nat.xor_lt_two_pow (n := 8) hc8 hB8
        have hxor : bits .xor .u8 (s[0].toNat : Int) (IntKind.u8.wrap by_) = ((c.toNat ^^^ B : Nat) : Int) := by
          rw [hs.head hp, IntKind.wrap_u8, hB]
          exact u8_xor_nat _ _ hc8 hB8
        have hu : SB (strOfNums [((c.toNat ^^^ B : Nat) : Int)]) [UInt8.ofNat (c.toNat ^^^ B)] := rfl
        have hv := hs.rest
        have hvz := hv.size
        have h2 : SB (strOfNums [((c.toNat ^^^ B : Nat) : Int)] ++ s.extract 1 s.size) (UInt8.ofNat (c.toNat ^^^ B) :: t) := SB.append hu hv
        have hq : (by_ % 256 == 0) = false := by simpa using hb
        have hk2 : (UInt8.ofNat (c.toNat ^^^ B)).toNat = c.toNat ^^^ B := by rw [UInt8.toNat_ofNat']; exact Nat.mod_eq_of_lt hx8
        have hy := getA_ok (UInt8.ofNat (c.toNat ^^^ B) :: t)
        rcases getA_codes (UInt8.ofNat (c.toNat ^^^ B) :: t) with g | g
        · have hkk := getA_kind _ _ g
          rw [hk2] at hkk
          have hd : sameA a (getA (UInt8.ofNat (c.toNat ^^^ B) :: t)).1 = false := by
            have hne : a.k ≠ (getA (UInt8.ofNat (c.toNat ^^^ B) :: t)).1.k := by
              rw [hkk, hk]
              have := xor_ne (a := c.toNat) hB0
              omega
            unfold sameA
            rw [decide_eq_false hne]; rfl
          have hG3 : getA (UInt8.ofNat (c.toNat ^^^ B) :: t) = (⟨(getA (UInt8.ofNat (c.toNat ^^^ B) :: t)).1.k, (getA (UInt8.ofNat (c.toNat ^^^ B) :: t)).1.x, (getA (UInt8.ofNat (c.toNat ^^^ B) :: t)).1.n, (getA (UInt8.ofNat (c.toNat ^^^ B) :: t)).1.s⟩, 0) := by rw [← g]
          exact back_chg_yes a.k a.x a.n a.s by_ s _ _ _ _ _ _ _ _ w hT hz (Lib.hid ok) (Lib.hid hx) H (c :: t) (Lib.hid hs) hp (by omega) (Lib.hid hG1) (Lib.hid g1) hq q2 _ hxor _ _ _ (Lib.hid ⟨rfl, rfl⟩) hu.size (by rw [hvz]; simp at hlen; omega) (Lib.hid h2) (Lib.hid hG3) (Lib.hid hy) (Lib.hid hd)
        · have hG3 : getA (UInt8.ofNat (c.toNat ^^^ B) :: t) = (⟨(getA (UInt8.ofNat (c.toNat ^^^ B) :: t)).1.k, (getA (UInt8.ofNat (c.toNat ^^^ B) :: t)).1.x, (getA (UInt8.ofNat (c.toNat ^^^ B) :: t)).1.n, (getA (UInt8.ofNat (c.toNat ^^^ B) :: t)).1.s⟩, 4) := by rw [← g]
          exact back_chg_no a.k a.x a.n a.s by_ s _ _ _ _ _ _ _ _ w hT hz (Lib.hid ok) (Lib.hid hx) H (c :: t) (Lib.hid hs) hp (by omega) (Lib.hid hG1) (Lib.hid g1) hq q2 _ hxor _ _ _ (Lib.hid ⟨rfl, rfl⟩) hu.size (by rw [hvz]; simp at hlen; omega) (Lib.hid h2) (Lib.hid hG3)
  · exact back_long a.k a.x a.n a.s by_ w hT hz
end Go.Proofs.YtafoagllbajfnaaDoor
