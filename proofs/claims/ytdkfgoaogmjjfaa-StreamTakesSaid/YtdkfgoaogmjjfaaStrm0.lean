/- what goes from place to place: plain definitions and laws. By an AI agent. -/
import Derived.Test.YtdkfgoaogmjjfaaTxnA
import Derived.Test.YtdkfgoaogmjjfaaZero0
import Derived.Test.YtdkfgoaogmjjfaaLatJ
set_option linter.unusedVariables false
set_option linter.unusedSimpArgs false
namespace Go.Proofs.Ytdkfgoaogmjjfaa
open Go.RowKit

def judgeL (known : List Int) (self : Int) (t : TxnL) : Int :=
  if validT t = false ∨ t.at_.length ≠ known.length ∨ t.o = self then 4
  else if atT t ≤ nth known t.o.toNat then 1
  else if t.prev ≠ nth known t.o.toNat then 2
  else if leqL (withL t.deps t.o (nth known t.o.toNat)) known = false then 3
  else 0
def chainAt (own : List TxnL) (self : Int) (i : Nat) : Bool :=
  validT (nthT own i) && (decide ((nthT own i).o = self) && (decide ((nthT own i).at_.length = (nthT own 0).at_.length) &&
    (if i = 0 then decide ((nthT own i).prev = 0) else decide ((nthT own i).prev = nth (nthT own (i - 1)).at_ self.toNat) && decide ((nthT own i).num = (nthT own (i - 1)).num + 1))))
def chainL (own : List TxnL) (self : Int) : Bool := (List.range own.length).all (chainAt own self)
def offT (self : Int) (t : TxnL) : Bool := decide (self < 0 ∨ t.at_.length ≤ self)
def newT (self : Int) (row : List Int) (t : TxnL) : Bool := decide ((row.length : Int) ≤ self) || decide (nth row self.toNat < nth t.at_ self.toNat)
def unsentL (own : List TxnL) (self : Int) (row : List Int) (most : Int) : List TxnL :=
  if own.any (offT self) then [] else
  if 0 ≤ most then (own.filter (newT self row)).take most.toNat else own.filter (newT self row)

/-! ### a chain of place 0 -/
structure ChainOf (own : List TxnL) (n : Nat) : Prop where
  parts : ∀ i, i < own.length → TxParts (nthT own i)
  o : ∀ i, i < own.length → (nthT own i).o = 0
  len : ∀ i, i < own.length → (nthT own i).at_.length = n
  first : 0 < own.length → (nthT own 0).prev = 0
  next : ∀ i, i + 1 < own.length → (nthT own (i + 1)).prev = nth (nthT own i).at_ 0
theorem chain_of {own : List TxnL} (h : chainL own 0 = true) : ChainOf own (nthT own 0).at_.length := by
  have h' : ∀ i, i < own.length → chainAt own 0 i = true := by
    simpa [chainL, List.all_eq_true] using h
  have key : ∀ i, i < own.length → TxParts (nthT own i) ∧ (nthT own i).o = 0 ∧ (nthT own i).at_.length = (nthT own 0).at_.length := fun i hi => by
    have := h' i hi
    simp only [chainAt, Bool.and_eq_true, decide_eq_true_eq] at this
    exact ⟨validT_parts this.1, this.2.1, this.2.2.1⟩
  refine ⟨fun i hi => (key i hi).1, fun i hi => (key i hi).2.1, fun i hi => (key i hi).2.2, fun h0 => ?_, fun i hi => ?_⟩
  · have := h' 0 h0
    simp only [chainAt, Bool.and_eq_true, decide_eq_true_eq, if_true] at this
    exact this.2.2.2
  · have := h' (i + 1) hi
    simp only [chainAt, Bool.and_eq_true, decide_eq_true_eq] at this
    have h2 := this.2.2.2
    rw [if_neg (Nat.succ_ne_zero i)] at h2
    simp only [Bool.and_eq_true, decide_eq_true_eq, Nat.add_sub_cancel] at h2
    exact h2.1
/-- how far place 0 is behind k transactions -/
def farL (own : List TxnL) (k : Nat) : Int := if k = 0 then 0 else nth (nthT own (k - 1)).at_ 0
theorem ChainOf.atT {own : List TxnL} {n : Nat} (h : ChainOf own n) {i : Nat} (hi : i < own.length) : Go.Proofs.Ytdkfgoaogmjjfaa.atT (nthT own i) = nth (nthT own i).at_ 0 := by
  unfold Go.Proofs.Ytdkfgoaogmjjfaa.atT
  rw [h.o i hi]; rfl
theorem ChainOf.prev {own : List TxnL} {n : Nat} (h : ChainOf own n) {i : Nat} (hi : i < own.length) : (nthT own i).prev = farL own i := by
  unfold farL
  split
  · rename_i e; subst e; exact h.first hi
  · rename_i e
    obtain ⟨j, rfl⟩ : ∃ j, i = j + 1 := ⟨i - 1, by omega⟩
    exact h.next j hi
theorem ChainOf.step {own : List TxnL} {n : Nat} (h : ChainOf own n) {i : Nat} (hi : i < own.length) : farL own i < farL own (i + 1) := by
  have h1 := (h.parts i hi).prev.2
  rw [h.prev hi, h.atT hi] at h1
  have e : farL own (i + 1) = nth (nthT own i).at_ 0 := by unfold farL; rw [if_neg (Nat.succ_ne_zero i)]; rfl
  rw [e]; exact h1
theorem ChainOf.mono {own : List TxnL} {n : Nat} (h : ChainOf own n) : ∀ {i j : Nat}, i ≤ j → j ≤ own.length → farL own i ≤ farL own j
  | i, 0, hij, _ => by
    obtain rfl : i = 0 := by omega
    exact Int.le_refl _
  | i, j + 1, hij, hj => by
    by_cases e : i = j + 1
    · subst e; exact Int.le_refl _
    · have := h.step (i := j) (by omega)
      have := h.mono (i := i) (j := j) (by omega) (by omega)
      omega
/-- what place 1 knows when it has k of them, and all else -/
structure Knows (own : List TxnL) (n : Nat) (k : Nat) (known : List Int) : Prop where
  len : known.length = n
  at0 : nth known 0 = farL own k
  more : ∀ i, i < own.length → ∀ j, 1 ≤ j → j < n → nth (nthT own i).deps j ≤ nth known j
theorem Knows.take {own : List TxnL} {n k : Nat} {known : List Int} (h : Knows own n k known) (hn : 1 ≤ n) : Knows own n (k + 1) (withL known 0 (nth (nthT own k).at_ 0)) := by
  refine ⟨by rw [withL_len]; exact h.len, ?_, fun i hi j h1 hj => ?_⟩
  · rw [withL_nth _ _ _ _ (by rw [h.len]; omega), if_pos (by rfl)]
    unfold farL
    rw [if_neg (Nat.succ_ne_zero k)]; rfl
  · rw [withL_nth _ _ _ _ (by rw [h.len]; omega), if_neg (by omega)]
    exact h.more i hi j h1 hj
theorem Knows.judge {own : List TxnL} {n k : Nat} {known : List Int} (h : Knows own n k known) (c : ChainOf own n) (hk : k ≤ own.length) {i : Nat} (hi : i < own.length) :
    judgeL known 1 (nthT own i) = if i < k then 1 else if i = k then 0 else 2 := by
  have hv := validT_of (c.parts i hi)
  have ho := c.o i hi
  have hl := c.len i hi
  have hp := c.prev hi
  have ha := c.atT hi
  have hs := c.step hi
  have e1 : farL own (i + 1) = nth (nthT own i).at_ 0 := by unfold farL; rw [if_neg (Nat.succ_ne_zero i)]; rfl
  have hdl := (c.parts i hi).len
  unfold judgeL
  rw [if_neg (by rw [hv, hl, h.len, ho]; simp), ha, ho, show (0 : Int).toNat = 0 from rfl, h.at0, hp, ← e1]
  by_cases h1 : i < k
  · rw [if_pos h1, if_pos (c.mono (i := i + 1) (j := k) (by omega) hk)]
  · rw [if_neg h1]
    have h2 := c.mono (i := k) (j := i) (by omega) (by omega)
    rw [if_neg (by omega)]
    by_cases h3 : i = k
    · subst h3
      rw [if_neg (by simp), if_pos rfl, if_neg]
      rw [Bool.not_eq_false, leqL_iff (by rw [withL_len, h.len, hdl, hl])]
      intro j hj
      rw [withL_len, hdl, hl] at hj
      rw [withL_nth _ _ _ _ (by rw [hdl, hl]; exact hj)]
      split
      · rename_i e
        obtain rfl : j = 0 := by omega
        rw [h.at0]; exact Int.le_refl _
      · exact h.more i hi j (by omega) hj
    · rw [if_neg h3, if_pos]
      have h4 := c.mono (i := k + 1) (j := i) (by omega) (by omega)
      have h5 := c.step (i := k) (by omega)
      omega
theorem Knows.none {own : List TxnL} {n : Nat} {known : List Int} (h : Knows own n own.length known) (c : ChainOf own n) (hn : 1 ≤ n) (most : Int) : unsentL own 0 known most = [] := by
  have hf : own.filter (newT 0 known) = [] := by
    rw [List.filter_eq_nil_iff]
    intro t ht
    obtain ⟨i, hi, rfl⟩ := List.getElem_of_mem ht
    rw [← nthT_eq hi]
    have h1 := c.mono (i := i + 1) (j := own.length) (by omega) (Nat.le_refl _)
    have e1 : farL own (i + 1) = nth (nthT own i).at_ 0 := by unfold farL; rw [if_neg (Nat.succ_ne_zero i)]; rfl
    have h2 := h.at0
    have h3 := h.len
    rw [e1] at h1
    simp only [newT, Bool.or_eq_true, decide_eq_true_eq, show (0 : Int).toNat = 0 from rfl]
    omega
  unfold unsentL
  rw [hf]
  split
  · rfl
  · split <;> simp
/-- the start: all that the chain hangs on -/
def startL (own : List TxnL) : Nat → List Int → List Int
  | 0, z => z
  | k + 1, z => joinL (startL own k z) (withL (nthT own k).deps 0 0)
theorem start_len {own : List TxnL} {n : Nat} (c : ChainOf own n) : ∀ k, k ≤ own.length → (startL own k (zeroL n)).length = n
  | 0, _ => by simp [startL, zeroL]
  | k + 1, hk => by
    have := start_len c k (by omega)
    have hd : (nthT own k).deps.length = n := (c.parts k (by omega)).len.trans (c.len k (by omega))
    unfold startL
    rw [join_len' (by rw [this, withL_len, hd])]
    exact this
theorem start_nth {own : List TxnL} {n : Nat} (c : ChainOf own n) (hn : 1 ≤ n) : ∀ k, k ≤ own.length → nth (startL own k (zeroL n)) 0 = 0 ∧ ∀ i, i < k → ∀ j, 1 ≤ j → j < n → nth (nthT own i).deps j ≤ nth (startL own k (zeroL n)) j
  | 0, _ => ⟨by
    unfold startL zeroL
    rw [nth_eq (by simp; omega)]; simp, fun i hi => absurd hi (Nat.not_lt_zero _)⟩
  | k + 1, hk => by
    have hl := start_len c k (by omega)
    have hd : (nthT own k).deps.length = n := (c.parts k (by omega)).len.trans (c.len k (by omega))
    obtain ⟨h0, h1⟩ := start_nth c hn k (by omega)
    have he : (startL own k (zeroL n)).length = (withL (nthT own k).deps 0 0).length := by rw [hl, withL_len, hd]
    unfold startL
    refine ⟨?_, fun i hi j h2 h3 => ?_⟩
    · rw [join_nth he (by omega), h0, withL_nth _ _ _ _ (by omega), if_pos (by rfl)]; rfl
    · rw [join_nth he (by omega), withL_nth _ _ _ _ (by omega), if_neg (by omega)]
      by_cases e : i = k
      · subst e; omega
      · have := h1 i (by omega) j h2 h3
        omega
theorem start_knows {own : List TxnL} {n : Nat} (c : ChainOf own n) (hn : 1 ≤ n) : Knows own n 0 (startL own own.length (zeroL n)) :=
  ⟨start_len c _ (Nat.le_refl _), by rw [(start_nth c hn _ (Nat.le_refl _)).1]; rfl, fun i hi j h1 h2 => (start_nth c hn _ (Nat.le_refl _)).2 i hi j h1 h2⟩
/-! ### what is unsent of a chain -/
theorem far_succ (own : List TxnL) (i : Nat) : farL own (i + 1) = nth (nthT own i).at_ 0 := by unfold farL; rw [if_neg (Nat.succ_ne_zero i)]; rfl
theorem filter_first {own : List TxnL} {n : Nat} (c : ChainOf own n) {row : List Int} (hr : 0 < row.length) {f : Nat} (hf : f ≤ own.length) (h1 : ∀ i, i < f → nth (nthT own i).at_ 0 ≤ nth row 0) (h2 : f < own.length → nth row 0 < nth (nthT own f).at_ 0) :
    own.filter (newT 0 row) = own.drop f := by
  have key : ∀ i, i < own.length → newT 0 row (nthT own i) = decide (f ≤ i) := fun i hi => by
    have e0 : newT 0 row (nthT own i) = decide (nth row 0 < nth (nthT own i).at_ 0) := by
      unfold newT
      rw [show decide ((row.length : Int) ≤ 0) = false from decide_eq_false (by omega), Bool.false_or]; rfl
    rw [e0, decide_eq_decide]
    constructor
    · intro h
      refine Classical.byContradiction fun q => ?_
      have := h1 i (by omega)
      omega
    · intro h
      have h3 := h2 (by omega)
      have h4 := c.mono (i := f + 1) (j := i + 1) (by omega) (by omega)
      rw [far_succ, far_succ] at h4
      omega
  conv => lhs; rw [← List.take_append_drop f own]
  rw [List.filter_append]
  have ha : (own.take f).filter (newT 0 row) = [] := by
    rw [List.filter_eq_nil_iff]
    intro t ht
    obtain ⟨i, hi, rfl⟩ := List.getElem_of_mem ht
    rw [List.length_take] at hi
    rw [List.getElem_take, ← nthT_eq (by omega), key i (by omega)]
    simp; omega
  have hb : (own.drop f).filter (newT 0 row) = own.drop f := by
    rw [List.filter_eq_self]
    intro t ht
    obtain ⟨i, hi, rfl⟩ := List.getElem_of_mem ht
    rw [List.length_drop] at hi
    rw [List.getElem_drop, ← nthT_eq (by omega), key (f + i) (by omega)]
    simp
  rw [ha, hb, List.nil_append]
theorem chain_off {own : List TxnL} {n : Nat} (c : ChainOf own n) (hn : 1 ≤ n) : own.any (offT 0) = false := by
  rw [List.any_eq_false]
  intro t ht
  obtain ⟨i, hi, rfl⟩ := List.getElem_of_mem ht
  rw [← nthT_eq hi]
  have := c.len i hi
  simp only [offT, decide_eq_true_eq]
  omega
theorem ChainOf.pos {own : List TxnL} {n : Nat} (c : ChainOf own n) (h : 0 < own.length) : 1 ≤ n := by
  have h1 := (c.parts 0 h).o1
  have h2 := (c.parts 0 h).o0
  rw [c.len 0 h] at h1
  omega
theorem unsent_all {own : List TxnL} {n : Nat} (c : ChainOf own n) {row : List Int} (hr : row.length = n) (hn : 1 ≤ n) {f : Nat} (hf : f ≤ own.length) (h1 : ∀ i, i < f → nth (nthT own i).at_ 0 ≤ nth row 0) (h2 : f < own.length → nth row 0 < nth (nthT own f).at_ 0) (most : Int) :
    unsentL own 0 row most = if 0 ≤ most then (own.drop f).take most.toNat else own.drop f := by
  unfold unsentL
  rw [chain_off c hn, filter_first c (by omega) hf h1 h2]
  rfl
theorem unsent_join {own : List TxnL} {n : Nat} (c : ChainOf own n) {row : List Int} (hr : row.length = n) (hn : 1 ≤ n) (h0 : 0 < own.length) : unsentL own 0 (joinL row (nthT own (own.length - 1)).at_) (-1) = [] := by
  have hl : row.length = (nthT own (own.length - 1)).at_.length := by rw [hr, c.len _ (by omega)]
  have hj : nth (joinL row (nthT own (own.length - 1)).at_) 0 = max (nth row 0) (nth (nthT own (own.length - 1)).at_ 0) := join_nth hl (by omega)
  rw [unsent_all c (f := own.length) (by rw [join_len' hl]; exact hr) hn (Nat.le_refl _) (fun i hi => ?_) (fun h => absurd h (Nat.lt_irrefl _)), List.drop_length]
  · rfl
  · have h4 := c.mono (i := i + 1) (j := own.length - 1 + 1) (by omega) (by omega)
    rw [far_succ, far_succ] at h4
    rw [hj]; omega

/-! ### messages -/
/-- a message read: a transaction, or a place and what it has -/
def rdMsg : List UInt8 → Option (TxnL × Int × List Int)
  | [] => none
  | c :: m => if c = 84 then (rdTx m).map fun t => (t, t.o, [])
    else if c = 82 then match m with
      | [] => none
      | f :: r => match rdV r with
        | some (xs, []) => if (f.toNat : Int) < xs.length then some (nilTx, (f.toNat : Int), xs) else none
        | _ => none
    else none
def msgTx (t : TxnL) : List UInt8 := 84 :: putTx t
def msgRow (from_ : Int) (row : List Int) : List UInt8 := 82 :: (numB from_ 1 ++ putL row)
theorem rdMsg_T (m : List UInt8) : rdMsg (84 :: m) = (rdTx m).map fun t => (t, t.o, []) := by simp [rdMsg]
end Go.Proofs.Ytdkfgoaogmjjfaa
