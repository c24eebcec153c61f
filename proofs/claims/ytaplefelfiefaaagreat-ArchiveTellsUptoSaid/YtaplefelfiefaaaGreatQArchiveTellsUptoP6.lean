import Derived.Test.YtaplefelfiefaaaGreatQArchiveTellsUptoP2
import Derived.Test.YtaplefelfiefaaaGreatQArchiveTellsUptoP5
import Derived.Test.YtaplefelfiefaaaGreatQArchiveTellsUptoP1

/- slices of pairs, own rows of pairs; worlds that agree below a block. By an AI agent. -/
section
set_option linter.unusedVariables false
set_option linter.unusedSimpArgs false
namespace Go.Proofs.YtaplefelfiefaaaGreat
open Go.RowKit

def pairCs (p : ByteArray × ValL) : List Value := [.string p.1, .bool p.2.there, .float .f64 p.2.x, .int .i64 p.2.n, .string p.2.s]
def nthQ (ps : List (ByteArray × ValL)) (j : Nat) : ByteArray × ValL := ps.getD j (⟨#[]⟩, ⟨false, 0, 0, ⟨#[]⟩⟩)
theorem nthQ_eq {ps : List (ByteArray × ValL)} {j : Nat} (h : j < ps.length) : nthQ ps j = ps[j] := by
  unfold nthQ
  rw [List.getD_eq_getElem?_getD, List.getElem?_eq_getElem h]; rfl
theorem nthQ_mem {ps : List (ByteArray × ValL)} {j : Nat} (h : j < ps.length) : nthQ ps j ∈ ps := by
  rw [nthQ_eq h]; exact List.getElem_mem h
/-- the five cells of a pair -/
structure PC (w : World) (b off : Nat) (p : ByteArray × ValL) : Prop where
  c0 : w.cell? ⟨b, off, none⟩ = some (.string p.1)
  c1 : w.cell? ⟨b, off + 1, none⟩ = some (.bool p.2.there)
  c2 : w.cell? ⟨b, off + 2, none⟩ = some (.float .f64 p.2.x)
  c3 : w.cell? ⟨b, off + 3, none⟩ = some (.int .i64 p.2.n)
  c4 : w.cell? ⟨b, off + 4, none⟩ = some (.string p.2.s)
theorem PC.keep {w w' : World} {b off : Nat} {p : ByteArray × ValL} (h : PC w b off p) (k : Bl w w') : PC w' b off p := ⟨k.cell h.c0, k.cell h.c1, k.cell h.c2, k.cell h.c3, k.cell h.c4⟩
/-- a slice that reads as pairs -/
structure PA (w : World) (a : Option Addr) (n : Nat) (ps : List (ByteArray × ValL)) : Prop where
  len : ps.length = n
  cap : n ≤ 1000000
  cells : ∀ j, j < n → ∃ b off, a = some ⟨b, off, none⟩ ∧ ∀ j, j < n → PC w b (off + j * 5) (nthQ ps j)
theorem PA.keep {w w' : World} {a : Option Addr} {n : Nat} {ps : List (ByteArray × ValL)} (h : PA w a n ps) (k : Bl w w') : PA w' a n ps :=
  ⟨h.len, h.cap, fun j hj => by
    obtain ⟨b, off, e, hc⟩ := h.cells j hj
    exact ⟨b, off, e, fun j hj => (hc j hj).keep k⟩⟩
theorem PA.get {w W : World} {b off n : Nat} {ps : List (ByteArray × ValL)} (h : PA w (some ⟨b, off, none⟩) n ps) (hb : Bl w W) {k : Nat} (hk : k < n) : PC W b (off + k * 5) (nthQ ps k) := by
  obtain ⟨b', off', e, hc⟩ := h.cells k hk
  cases e
  exact (hc k hk).keep hb

/-! ### worlds that agree below a block -/

/-! ### a slice of pairs that lies from a block on -/
theorem PA.apart {w : World} {a : Option Addr} {n : Nat} {ps : List (ByteArray × ValL)} (h : PA w a n ps) {q : Nat} (hq : ∀ b off, a = some ⟨b, off, none⟩ → n = 0 ∨ b ≠ q) (j : Nat) (u : Value) : PA (w.setCell ⟨q, j, none⟩ u) a n ps := by
  refine ⟨h.len, h.cap, fun i hi => ?_⟩
  obtain ⟨b, off, e, hc⟩ := h.cells i hi
  refine ⟨b, off, e, fun i hi => ?_⟩
  have hne : b ≠ q := by
    have := hq b off e
    omega
  have key : ∀ k v, w.cell? ⟨b, k, none⟩ = some v → (w.setCell ⟨q, j, none⟩ u).cell? ⟨b, k, none⟩ = some v := fun k v hv => by
    rw [← hv]
    unfold World.cell?
    rw [Below.heap_setCell _ _ _ _ hne]
  have c := hc i hi
  exact ⟨key _ _ c.c0, key _ _ c.c1, key _ _ c.c2, key _ _ c.c3, key _ _ c.c4⟩
def FarPA (B : Nat) (w : World) (a : Option Addr) (n : Nat) (ps : List (ByteArray × ValL)) : Prop := PA w a n ps ∧ ∀ b off, a = some ⟨b, off, none⟩ → n = 0 ∨ B ≤ b
theorem FarPA.keep {B : Nat} {w w' : World} {a : Option Addr} {n : Nat} {ps : List (ByteArray × ValL)} (h : FarPA B w a n ps) (hb : Bl w w') : FarPA B w' a n ps := ⟨h.1.keep hb, h.2⟩
theorem FarPA.mono {B B' : Nat} {w : World} {a : Option Addr} {n : Nat} {ps : List (ByteArray × ValL)} (h : FarPA B w a n ps) (hB : B' ≤ B) : FarPA B' w a n ps := ⟨h.1, fun b off e => by have := h.2 b off e; omega⟩
theorem FarPA.set {B : Nat} {w : World} {a : Option Addr} {n : Nat} {ps : List (ByteArray × ValL)} (h : FarPA B w a n ps) {q : Nat} (hq : q < B) (j : Nat) (u : Value) : FarPA B (w.setCell ⟨q, j, none⟩ u) a n ps :=
  ⟨h.1.apart (fun b off e => by have := h.2 b off e; omega) j u, h.2⟩
theorem FarPA.nil (B : Nat) (w : World) : FarPA B w none 0 [] := ⟨⟨rfl, by decide, fun j hj => absurd hj (Nat.not_lt_zero _)⟩, fun _ _ _ => .inl rfl⟩

/-! ### own rows of pairs -/
def cellsP (ps : List (ByteArray × ValL)) : List Value := ps.flatMap pairCs
theorem cellsP_snoc (ps : List (ByteArray × ValL)) (p : ByteArray × ValL) : cellsP (ps ++ [p]) = cellsP ps ++ pairCs p := by simp [cellsP]
theorem cellsP_len (ps : List (ByteArray × ValL)) : (cellsP ps).length = ps.length * 5 := by
  induction ps with
  | nil => rfl
  | cons p ps ih =>
    have : cellsP (p :: ps) = pairCs p ++ cellsP ps := by simp [cellsP]
    rw [this, List.length_append, ih]
    show 5 + _ = _
    rw [List.length_cons]; omega
theorem cellsP_get : ∀ (ps : List (ByteArray × ValL)) (j : Nat), j < ps.length → ∀ r, r < 5 → (cellsP ps)[j * 5 + r]? = (pairCs (nthQ ps j))[r]?
  | [], j, hj, _, _ => by simp at hj
  | p :: ps, 0, _, r, hr => by
    have e : cellsP (p :: ps) = pairCs p ++ cellsP ps := by simp [cellsP]
    rw [e, Nat.zero_mul, Nat.zero_add, List.getElem?_append_left (show r < (pairCs p).length from hr)]
    rfl
  | p :: ps, j + 1, hj, r, hr => by
    have e : cellsP (p :: ps) = pairCs p ++ cellsP ps := by simp [cellsP]
    have hl : (pairCs p).length = 5 := rfl
    rw [e, List.getElem?_append_right (by rw [hl]; omega), hl, show (j + 1) * 5 + r - 5 = j * 5 + r by omega]
    have h1 := cellsP_get ps j (by simpa using hj) r hr
    rw [h1]
    have h2 : nthQ (p :: ps) (j + 1) = nthQ ps j := by unfold nthQ; simp
    rw [h2]
def OPR (B : Nat) (w : World) (v : Value) (k : Nat) (ps : List (ByteArray × ValL)) : Prop := ps.length = k ∧ w.ownsRow B 58 5 v k (cellsP ps)
theorem OPR.nil (B : Nat) (w : World) : OPR B w (.slice none 0 0) 0 [] := ⟨rfl, World.ownsRow_nil _ _ _ _⟩
theorem OPR.keep {B : Nat} {w w' : World} {v : Value} {k : Nat} {ps : List (ByteArray × ValL)} (h : OPR B w v k ps) (hb : Bl w w') : OPR B w' v k ps := ⟨h.1, ownsRow_bl h.2 hb⟩
theorem OPR.set {B : Nat} {w : World} {v : Value} {k : Nat} {ps : List (ByteArray × ValL)} (h : OPR B w v k ps) {q : Nat} (hq : q < B) (j : Nat) (u : Value) : OPR B (w.setCell ⟨q, j, none⟩ u) v k ps := by
  refine ⟨h.1, ?_⟩
  obtain ⟨h1, h2 | ⟨g, cap, cur, hv, hB, hg, r⟩⟩ := h.2
  · exact ⟨h1, .inl h2⟩
  · exact ⟨h1, .inr ⟨g, cap, cur, hv, hB, by rw [Below.heap_setCell _ _ _ _ (show g ≠ q by omega)]; exact hg, r⟩⟩
theorem OPR.form {B : Nat} {w : World} {v : Value} {k : Nat} {ps : List (ByteArray × ValL)} (h : OPR B w v k ps) : ∃ a ca, v = .slice a k ca := by
  obtain ⟨h1, ⟨hv, hk⟩ | ⟨g, cap, cur, hv, hB, hg, r⟩⟩ := h.2
  · subst hk; exact ⟨_, _, hv⟩
  · exact ⟨_, _, hv⟩
theorem OPR.far {B : Nat} {w : World} {a : Option Addr} {k k' ca : Nat} {ps : List (ByteArray × ValL)} (h : OPR B w (.slice a k' ca) k ps) (hk : k ≤ 1000000) : FarPA B w a k ps := by
  obtain ⟨h0, hown⟩ := h
  obtain ⟨h1, ⟨hv, hk0⟩ | ⟨g, cap, cur, hv, hB, hg, r⟩⟩ := hown
  · simp only [Value.slice.injEq] at hv
    obtain ⟨rfl, -, -⟩ := hv
    subst hk0
    have : ps = [] := List.eq_nil_of_length_eq_zero h0
    subst this
    exact FarPA.nil _ _
  · simp only [Value.slice.injEq] at hv
    obtain ⟨rfl, rfl, rfl⟩ := hv
    have hown : w.ownsRow B 58 5 (.slice (some ⟨g, 0, none⟩) k' ca) k' (cellsP ps) := ⟨h1, .inr ⟨g, ca, cur, rfl, hB, hg, r⟩⟩
    refine ⟨⟨h0, hk, fun j0 _ => ⟨g, 0, rfl, fun j hj => ?_⟩⟩, fun b off e => ?_⟩
    · have key : ∀ r, r < 5 → w.cell? ⟨g, 0 + j * 5 + r, none⟩ = (pairCs (nthQ ps j))[r]? := fun r hr => by
        rw [show 0 + j * 5 + r = j * 5 + r by omega, hown.cellAt (j * 5 + r) (by omega), cellsP_get ps j (by omega) r hr]
      exact ⟨key 0 (by decide), key 1 (by decide), key 2 (by decide), key 3 (by decide), key 4 (by decide)⟩
    · simp only [Option.some.injEq, Addr.mk.injEq, and_true] at e
      exact .inr (by omega)
theorem el_pair : EL 24 58 5 56 := el_of Tryz.underlying24 (by kernel_rfl) (by decide)
end Go.Proofs.YtaplefelfiefaaaGreat
end

/- the one word of what is no number. By an AI agent. -/
section
namespace Go.Proofs.YtaplefelfiefaaaGreat
open Go.RowKit

def nanW : Nat := 9221120237041090561
def canon (x : Nat) : Nat := if nanB x then nanW else x
theorem canon_key (x : Nat) : fkey (canon x) = fkey x := by
  cases h : nanB x
  · have : canon x = x := by unfold canon; rw [h]; rfl
    rw [this]
  · have : canon x = nanW := by unfold canon; rw [h]; rfl
    have h2 : fkey x = 0 := by unfold fkey; rw [h]; rfl
    rw [this, h2]
    decide +kernel
end Go.Proofs.YtaplefelfiefaaaGreat
end

/- real.Get: plain facts. By an AI agent. -/
section
namespace Go.Proofs.YtaplefelfiefaaaGreat
open Go.RowKit

theorem wraps_u64' (n : Int) (h₀ : 0 ≤ n) (h₁ : n < 2 ^ 64) : IntKind.u64.wrap n = n := by rw [IntKind.wrap_u64]; omega
theorem or_u8 (a b : Int) (h0 : 0 ≤ a) (h1 : a * 256 + 255 < 18446744073709551616) (h2 : 0 ≤ b) (h3 : b < 256) : bits .or .u64 (a * 256) b = a * 256 + b :=
  bits_join .u64 64 (by decide) wraps_u64' 8 _ _ (by omega) (by omega) (by omega) h2 (by omega) (by omega)
theorem top_test (u : Nat) (h : u < two64) : u.testBit 63 = decide (two63 ≤ u) := by
  rw [Nat.testBit_eq_decide_div_mod_eq]
  congr 1
  unfold two63 two64 at *
  apply propext
  omega
theorem and_bit (u : Nat) (h : u < two64) : u &&& 2 ^ 63 = if two63 ≤ u then 2 ^ 63 else 0 := by
  apply Nat.eq_of_testBit_eq
  intro i
  rw [Nat.testBit_and, Nat.testBit_two_pow]
  by_cases k : 63 = i
  · subst k
    rw [top_test u h]
    by_cases q : two63 ≤ u
    · rw [if_pos q, decide_eq_true q, Nat.testBit_two_pow_self]; rfl
    · rw [if_neg q, decide_eq_false q]; simp
  · rw [decide_eq_false k, Bool.and_false]
    split
    · rw [Nat.testBit_two_pow, decide_eq_false k]
    · simp
theorem and_top (u : Nat) (h : u < two64) : bits .and .u64 (u : Int) 9223372036854775808 = if two63 ≤ u then 9223372036854775808 else 0 := by
  rw [show (9223372036854775808 : Int) = ((9223372036854775808 : Nat) : Int) from rfl, u64_and_nat _ _ h (by decide), show (9223372036854775808 : Nat) = 2 ^ 63 from rfl, and_bit u h]
  by_cases k : two63 ≤ u
  · rw [if_pos k, if_pos k]
  · rw [if_neg k, if_neg k]; rfl
theorem andNot_top (u : Nat) (h : u < two64) (k : two63 ≤ u) : bits .andNot .u64 (u : Int) 9223372036854775808 = ((u - two63 : Nat) : Int) := by
  have e : u % 2 ^ 63 = u - two63 := by unfold two63 two64 at *; omega
  rw [show (9223372036854775808 : Int) = ((9223372036854775808 : Nat) : Int) from rfl, u64_andNot_nat _ _ h (by decide), show 18446744073709551615 - 9223372036854775808 = 2 ^ 63 - 1 from rfl, Nat.and_two_pow_sub_one_eq_mod, e]

/-- what eight bytes are -/
def backW (u : Nat) : Nat := if two63 ≤ u then u - two63 else two64 - 1 - u
def getR (u : Nat) : Nat × Int := if u = 0 then (nanW, 0) else if nanB (backW u) then (0, 4) else (backW u, 0)
theorem backW_lt {u : Nat} (h : u < two64) : backW u < two64 := by unfold backW two63 two64 at *; split <;> omega
theorem getR_back {x : Nat} (hx : x < two64) : getR (fkey x) = (canon x, 0) := by
  unfold canon
  cases h : nanB x
  · have hk := fkey_num h
    have hi : x % two63 ≤ infR := by
      unfold nanB at h
      rw [decide_eq_false_iff_not] at h; omega
    have e : fkey x ≠ 0 ∧ backW (fkey x) = x := by
      rw [hk]
      unfold backW
      by_cases k : two63 ≤ x
      · rw [if_pos k]
        refine ⟨by unfold infR two63 two64 at *; omega, ?_⟩
        rw [if_neg (by unfold two63 two64 at *; omega)]
        unfold two63 two64 at *; omega
      · rw [if_neg k]
        refine ⟨by unfold two63; omega, ?_⟩
        rw [if_pos (by omega)]; omega
    unfold getR
    rw [if_neg e.1, e.2, h]; rfl
  · unfold getR fkey
    rw [h]; rfl
theorem getN_put8 (u : Nat) (h : u < two64) : getN (bytesN8 u) = u := by
  have hl := bytesN8_len u
  have hp := put8_at u
  generalize bytesN8 u = l at *
  match l, hl with
  | [b0, b1, b2, b3, b4, b5, b6, b7], _ =>
    have h0 := hp 0 (by decide)
    have h1 := hp 1 (by decide)
    have h2 := hp 2 (by decide)
    have h3 := hp 3 (by decide)
    have h4 := hp 4 (by decide)
    have h5 := hp 5 (by decide)
    have h6 := hp 6 (by decide)
    have h7 := hp 7 (by decide)
    simp only [List.drop_succ_cons, List.drop_zero, List.head?_cons, Option.map_some, Option.some.injEq] at h0 h1 h2 h3 h4 h5 h6 h7
    simp only [getN, List.foldl_cons, List.foldl_nil]
    unfold two64 at h
    omega
end Go.Proofs.YtaplefelfiefaaaGreat
end
