/- frames cut into pieces: the plain law; slices of strings. By an AI agent. -/
import Derived.Test.YtechiehbigmjbaaProt9
set_option linter.unusedVariables false
set_option linter.unusedSimpArgs false
namespace Go.Proofs.Ytechiehbigmjbaa
open Go.RowKit

def framesL (ts : List (List UInt8)) : List UInt8 := ts.flatMap frameL
theorem framesL_cons (t : List UInt8) (ts : List (List UInt8)) : framesL (t :: ts) = frameL t ++ framesL ts := by simp [framesL]
theorem framesL_snoc (t : List UInt8) (ts : List (List UInt8)) : framesL (ts ++ [t]) = framesL ts ++ frameL t := by simp [framesL]
theorem framesL_len {ts : List (List UInt8)} (h : ∀ t ∈ ts, t.length ≤ 500) : (framesL ts).length ≤ 508 * ts.length := by
  induction ts with
  | nil => simp [framesL]
  | cons t ts ih =>
    rw [framesL_cons, List.length_append, frameL_len, List.length_cons]
    have := h t (by simp)
    have := ih (fun t ht => h t (by simp [ht]))
    omega
/-- what stands first is not whole yet, or the next content -/
theorem pieces_step {rest more : List UInt8} {ts : List (List UInt8)} (h : rest ++ more = framesL ts) (hs : ∀ t ∈ ts, t.length ≤ 500) :
    headF rest = 0 ∨ ∃ t tl, ts = t :: tl ∧ headF rest = 1 ∧ bodyF rest = t ∧ restF rest ++ more = framesL tl ∧ (restF rest).length < rest.length := by
  cases ts with
  | nil =>
    left
    have : rest = [] := by
      have := congrArg List.length h
      simp [framesL] at this
      exact List.eq_nil_of_length_eq_zero (by simpa using this.1)
    subst this
    rfl
  | cons t tl =>
    have ht := hs t (by simp)
    rw [framesL_cons] at h
    by_cases hl : rest.length < 8 + t.length
    · left
      refine frame_part t rest (by omega) hl ⟨(frameL t).drop rest.length, ?_⟩
      have h1 : (frameL t).take rest.length = rest := by
        have := congrArg (List.take rest.length) h
        rw [List.take_left, List.take_append_of_le_length (by rw [frameL_len]; omega)] at this
        exact this.symm
      conv => lhs; lhs; rw [← h1]
      exact List.take_append_drop _ _
    · right
      have h1 : rest = frameL t ++ rest.drop (8 + t.length) := by
        have h2 := congrArg (List.take (8 + t.length)) h
        rw [List.take_append_of_le_length (by omega), List.take_left' (frameL_len t)] at h2
        rw [← h2, List.take_append_drop]
      refine ⟨t, tl, rfl, ?_, ?_, ?_, ?_⟩
      · rw [h1]; exact frame_head t _ (by omega)
      · rw [h1]; exact frame_body t _ (by omega)
      · have h3 : restF rest = rest.drop (8 + t.length) := by
          conv => lhs; rw [h1]
          exact frame_rest t _ (by omega)
        rw [h3]
        rw [h1, List.append_assoc] at h
        exact List.append_cancel_left h
      · have h3 : restF rest = rest.drop (8 + t.length) := by
          conv => lhs; rw [h1]
          exact frame_rest t _ (by omega)
        rw [h3, List.length_drop]
        omega
theorem pieces_end {rest : List UInt8} {ts : List (List UInt8)} (h : rest = framesL ts) (hs : ∀ t ∈ ts, t.length ≤ 500) (h0 : headF rest = 0) : ts = [] ∧ rest = [] := by
  cases ts with
  | nil => exact ⟨rfl, by rw [h]; rfl⟩
  | cons t tl =>
    rw [framesL_cons] at h
    rw [h, frame_head t _ (by have := hs t (by simp); omega)] at h0
    cases h0

/-- the j-th text -/
def nthT (ts : List ByteArray) (j : Nat) : ByteArray := ts.getD j ⟨#[]⟩
/-- a slice that reads as texts -/
structure TA (w : World) (a : Option Addr) (n : Nat) (ts : List ByteArray) : Prop where
  len : ts.length = n
  cap : n * 16 ≤ 140737488351232
  cells : ∀ j, j < n → ∃ b off, a = some ⟨b, off, none⟩ ∧ ∀ j, j < n → w.cell? ⟨b, off + j, none⟩ = some (.string (nthT ts j))
  sz : ∀ j, (nthT ts j).size ≤ 140737488351232
theorem TA.keep {w w' : World} {a : Option Addr} {n : Nat} {ts : List ByteArray} (h : TA w a n ts) (hb : Bl w w') : TA w' a n ts :=
  ⟨h.len, h.cap, fun j hj => by
    obtain ⟨b, off, e, hc⟩ := h.cells j hj
    exact ⟨b, off, e, fun j hj => hb.cell (hc j hj)⟩, h.sz⟩
theorem TA.get {w W : World} {b : Nat} {off : Nat} {n : Nat} {ts : List ByteArray} (h : TA w (some ⟨b, off, none⟩) n ts) (hb : Bl w W) {k : Nat} (hk : k < n) : W.cell? ⟨b, off + k, none⟩ = some (.string (nthT ts k)) := by
  obtain ⟨b', off', e, hc⟩ := h.cells k hk
  cases e
  exact hb.cell (hc k hk)
def bytesT (ts : List ByteArray) : List (List UInt8) := ts.map (fun s => s.data.toList)
theorem bytesT_drop {ts : List ByteArray} {k : Nat} (h : k < ts.length) : (bytesT ts).drop k = (nthT ts k).data.toList :: (bytesT ts).drop (k + 1) := by
  have h' : k < (bytesT ts).length := by simp [bytesT]; exact h
  rw [List.drop_eq_getElem_cons h']
  congr 1
  simp [bytesT, nthT, h]
theorem bytesT_take {ts : List ByteArray} {k : Nat} (h : k < ts.length) : (bytesT ts).take (k + 1) = (bytesT ts).take k ++ [(nthT ts k).data.toList] := by
  have h' : k < (bytesT ts).length := by simp [bytesT]; exact h
  rw [List.take_succ_eq_append_getElem h']
  congr 2
  simp [bytesT, nthT, h]
theorem bytesT_len (ts : List ByteArray) : (bytesT ts).length = ts.length := by simp [bytesT]
theorem and_63 (x : Int) : 0 ≤ bits .and .i64 x 63 ∧ bits .and .i64 x 63 ≤ 63 := by
  have h1 : (BitVec.ofInt 64 x &&& BitVec.ofInt 64 63).toNat ≤ 63 := by
    rw [BitVec.toNat_and]
    exact Nat.and_le_right
  have e : bits .and .i64 x 63 = IntKind.i64.wrap ((BitVec.ofInt 64 x &&& BitVec.ofInt 64 63).toNat : Int) := rfl
  rw [e, IntKind.wrap_i64]
  omega
theorem cellLen_ac {w : World} {b : Nat} {l : List UInt8} {c : Bool} (h : RB2 w b l c) : cellLen w b = l.length := by
  unfold cellLen
  rw [AC.cell h 0 _ rfl]
  exact strL_size l
end Go.Proofs.Ytechiehbigmjbaa
