import Derived.Test.YtaokennbpgdngaaCore16
import Derived.Test.YtaokennbpgdngaaCore10
import Derived.Test.YtaokennbpgdngaaCore24
import Derived.Test.YtaokennbpgdngaaCore17
import Derived.Test.YtaokennbpgdngaaCore19
import Derived.Test.YtaokennbpgdngaaCore23
import Derived.Deep.DeepCutAuto

/- what goes from place to place: plain definitions and laws. By an AI agent. -/
section
set_option linter.unusedVariables false
set_option linter.unusedSimpArgs false
namespace Go.Proofs.Ytaokennbpgdngaa
open Go.RowKit

def judgeL (known : List Int) (self : Int) (t : TxnL) : Int :=
  if validT t = false ∨ t.at_.length ≠ known.length ∨ t.o = self then 4
  else if atT t ≤ nth known t.o.toNat then 1
  else if t.prev ≠ nth known t.o.toNat then 2
  else if leqL (withL t.deps t.o (nth known t.o.toNat)) known = false then 3
  else 0
def chainAt (own : List TxnL) (self : Int) (i : Nat) : Bool :=
  validT (nthT own i) && (decide ((nthT own i).o = self) && (decide ((nthT own i).at_.length = (nthT own 0).at_.length) &&
    (if i = 0 then decide ((nthT own i).prev = 0) else decide ((nthT own i).prev = nth (nthT own (i - 1)).at_ self.toNat) && decide ((nthT own i).num = (nthT own (i - 1)).num + 1))))
def chainL (own : List TxnL) (self : Int) : Bool := (List.range own.length).all (chainAt own self)
def offT (self : Int) (t : TxnL) : Bool := decide (self < 0 ∨ t.at_.length ≤ self)
def newT (self : Int) (row : List Int) (t : TxnL) : Bool := decide ((row.length : Int) ≤ self) || decide (nth row self.toNat < nth t.at_ self.toNat)
def unsentL (own : List TxnL) (self : Int) (row : List Int) (most : Int) : List TxnL :=
  if own.any (offT self) then [] else
  if 0 ≤ most then (own.filter (newT self row)).take most.toNat else own.filter (newT self row)

/-! ### a chain of place 0 -/
structure ChainOf (own : List TxnL) (n : Nat) : Prop where
  parts : ∀ i, i < own.length → TxParts (nthT own i)
  o : ∀ i, i < own.length → (nthT own i).o = 0
  len : ∀ i, i < own.length → (nthT own i).at_.length = n
  first : 0 < own.length → (nthT own 0).prev = 0
  next : ∀ i, i + 1 < own.length → (nthT own (i + 1)).prev = nth (nthT own i).at_ 0
theorem chain_of {own : List TxnL} (h : chainL own 0 = true) : ChainOf own (nthT own 0).at_.length := by
  have h' : ∀ i, i < own.length → chainAt own 0 i = true := by
    simpa [chainL, List.all_eq_true] using h
  have key : ∀ i, i < own.length → TxParts (nthT own i) ∧ (nthT own i).o = 0 ∧ (nthT own i).at_.length = (nthT own 0).at_.length := fun i hi => by
    have := h' i hi
    simp only [chainAt, Bool.and_eq_true, decide_eq_true_eq] at this
    exact ⟨validT_parts this.1, this.2.1, this.2.2.1⟩
  refine ⟨fun i hi => (key i hi).1, fun i hi => (key i hi).2.1, fun i hi => (key i hi).2.2, fun h0 => ?_, fun i hi => ?_⟩
  · have := h' 0 h0
    simp only [chainAt, Bool.and_eq_true, decide_eq_true_eq, if_true] at this
    exact this.2.2.2
  · have := h' (i + 1) hi
    simp only [chainAt, Bool.and_eq_true, decide_eq_true_eq] at this
    have h2 := this.2.2.2
    rw [if_neg (Nat.succ_ne_zero i)] at h2
    simp only [Bool.and_eq_true, decide_eq_true_eq, Nat.add_sub_cancel] at h2
    exact h2.1
/-- how far place 0 is behind k transactions -/
def farL (own : List TxnL) (k : Nat) : Int := if k = 0 then 0 else nth (nthT own (k - 1)).at_ 0
theorem ChainOf.atT {own : List TxnL} {n : Nat} (h : ChainOf own n) {i : Nat} (hi : i < own.length) : Go.Proofs.Ytaokennbpgdngaa.atT (nthT own i) = nth (nthT own i).at_ 0 := by
  unfold Go.Proofs.Ytaokennbpgdngaa.atT
  rw [h.o i hi]; rfl
theorem ChainOf.prev {own : List TxnL} {n : Nat} (h : ChainOf own n) {i : Nat} (hi : i < own.length) : (nthT own i).prev = farL own i := by
  unfold farL
  split
  · rename_i e; subst e; exact h.first hi
  · rename_i e
    obtain ⟨j, rfl⟩ : ∃ j, i = j + 1 := ⟨i - 1, by omega⟩
    exact h.next j hi
theorem ChainOf.step {own : List TxnL} {n : Nat} (h : ChainOf own n) {i : Nat} (hi : i < own.length) : farL own i < farL own (i + 1) := by
  have h1 := (h.parts i hi).prev.2
  rw [h.prev hi, h.atT hi] at h1
  have e : farL own (i + 1) = nth (nthT own i).at_ 0 := by unfold farL; rw [if_neg (Nat.succ_ne_zero i)]; rfl
  rw [e]; exact h1
theorem ChainOf.mono {own : List TxnL} {n : Nat} (h : ChainOf own n) : ∀ {i j : Nat}, i ≤ j → j ≤ own.length → farL own i ≤ farL own j
  | i, 0, hij, _ => by
    obtain rfl : i = 0 := by omega
    exact Int.le_refl _
  | i, j + 1, hij, hj => by
    by_cases e : i = j + 1
    · subst e; exact Int.le_refl _
    · have := h.step (i := j) (by omega)
      have := h.mono (i := i) (j := j) (by omega) (by omega)
      omega
/-- what place 1 knows when it has k of them, and all else -/
structure Knows (own : List TxnL) (n : Nat) (k : Nat) (known : List Int) : Prop where
  len : known.length = n
  at0 : nth known 0 = farL own k
  more : ∀ i, i < own.length → ∀ j, 1 ≤ j → j < n → nth (nthT own i).deps j ≤ nth known j
theorem Knows.take {own : List TxnL} {n k : Nat} {known : List Int} (h : Knows own n k known) (hn : 1 ≤ n) : Knows own n (k + 1) (withL known 0 (nth (nthT own k).at_ 0)) := by
  refine ⟨by rw [withL_len]; exact h.len, ?_, fun i hi j h1 hj => ?_⟩
  · rw [withL_nth _ _ _ _ (by rw [h.len]; omega), if_pos (by rfl)]
    unfold farL
    rw [if_neg (Nat.succ_ne_zero k)]; rfl
  · rw [withL_nth _ _ _ _ (by rw [h.len]; omega), if_neg (by omega)]
    exact h.more i hi j h1 hj
theorem Knows.judge {own : List TxnL} {n k : Nat} {known : List Int} (h : Knows own n k known) (c : ChainOf own n) (hk : k ≤ own.length) {i : Nat} (hi : i < own.length) :
    judgeL known 1 (nthT own i) = if i < k then 1 else if i = k then 0 else 2 := by
  have hv := validT_of (c.parts i hi)
  have ho := c.o i hi
  have hl := c.len i hi
  have hp := c.prev hi
  have ha := c.atT hi
  have hs := c.step hi
  have e1 : farL own (i + 1) = nth (nthT own i).at_ 0 := by unfold farL; rw [if_neg (Nat.succ_ne_zero i)]; rfl
  have hdl := (c.parts i hi).len
  unfold judgeL
  rw [if_neg (by rw [hv, hl, h.len, ho]; simp), ha, ho, show (0 : Int).toNat = 0 from rfl, h.at0, hp, ← e1]
  by_cases h1 : i < k
  · rw [if_pos h1, if_pos (c.mono (i := i + 1) (j := k) (by omega) hk)]
  · rw [if_neg h1]
    have h2 := c.mono (i := k) (j := i) (by omega) (by omega)
    rw [if_neg (by omega)]
    by_cases h3 : i = k
    · subst h3
      rw [if_neg (by simp), if_pos rfl, if_neg]
      rw [Bool.not_eq_false, leqL_iff (by rw [withL_len, h.len, hdl, hl])]
      intro j hj
      rw [withL_len, hdl, hl] at hj
      rw [withL_nth _ _ _ _ (by rw [hdl, hl]; exact hj)]
      split
      · rename_i e
        obtain rfl : j = 0 := by omega
        rw [h.at0]; exact Int.le_refl _
      · exact h.more i hi j (by omega) hj
    · rw [if_neg h3, if_pos]
      have h4 := c.mono (i := k + 1) (j := i) (by omega) (by omega)
      have h5 := c.step (i := k) (by omega)
      omega
theorem Knows.none {own : List TxnL} {n : Nat} {known : List Int} (h : Knows own n own.length known) (c : ChainOf own n) (hn : 1 ≤ n) (most : Int) : unsentL own 0 known most = [] := by
  have hf : own.filter (newT 0 known) = [] := by
    rw [List.filter_eq_nil_iff]
    intro t ht
    obtain ⟨i, hi, rfl⟩ := List.getElem_of_mem ht
    rw [← nthT_eq hi]
    have h1 := c.mono (i := i + 1) (j := own.length) (by omega) (Nat.le_refl _)
    have e1 : farL own (i + 1) = nth (nthT own i).at_ 0 := by unfold farL; rw [if_neg (Nat.succ_ne_zero i)]; rfl
    have h2 := h.at0
    have h3 := h.len
    rw [e1] at h1
    simp only [newT, Bool.or_eq_true, decide_eq_true_eq, show (0 : Int).toNat = 0 from rfl]
    omega
  unfold unsentL
  rw [hf]
  split
  · rfl
  · split <;> simp
/-- the start: all that the chain hangs on -/
def startL (own : List TxnL) : Nat → List Int → List Int
  | 0, z => z
  | k + 1, z => joinL (startL own k z) (withL (nthT own k).deps 0 0)
theorem start_len {own : List TxnL} {n : Nat} (c : ChainOf own n) : ∀ k, k ≤ own.length → (startL own k (zeroL n)).length = n
  | 0, _ => by simp [startL, zeroL]
  | k + 1, hk => by
    have := start_len c k (by omega)
    have hd : (nthT own k).deps.length = n := (c.parts k (by omega)).len.trans (c.len k (by omega))
    unfold startL
    rw [join_len' (by rw [this, withL_len, hd])]
    exact this
theorem start_nth {own : List TxnL} {n : Nat} (c : ChainOf own n) (hn : 1 ≤ n) : ∀ k, k ≤ own.length → nth (startL own k (zeroL n)) 0 = 0 ∧ ∀ i, i < k → ∀ j, 1 ≤ j → j < n → nth (nthT own i).deps j ≤ nth (startL own k (zeroL n)) j
  | 0, _ => ⟨by
    unfold startL zeroL
    rw [nth_eq (by simp; omega)]; simp, fun i hi => absurd hi (Nat.not_lt_zero _)⟩
  | k + 1, hk => by
    have hl := start_len c k (by omega)
    have hd : (nthT own k).deps.length = n := (c.parts k (by omega)).len.trans (c.len k (by omega))
    obtain ⟨h0, h1⟩ := start_nth c hn k (by omega)
    have he : (startL own k (zeroL n)).length = (withL (nthT own k).deps 0 0).length := by rw [hl, withL_len, hd]
    unfold startL
    refine ⟨?_, fun i hi j h2 h3 => ?_⟩
    · rw [join_nth he (by omega), h0, withL_nth _ _ _ _ (by omega), if_pos (by rfl)]; rfl
    · rw [join_nth he (by omega), withL_nth _ _ _ _ (by omega), if_neg (by omega)]
      by_cases e : i = k
      · subst e; omega
      · have := h1 i (by omega) j h2 h3
        omega
theorem start_knows {own : List TxnL} {n : Nat} (c : ChainOf own n) (hn : 1 ≤ n) : Knows own n 0 (startL own own.length (zeroL n)) :=
  ⟨start_len c _ (Nat.le_refl _), by rw [(start_nth c hn _ (Nat.le_refl _)).1]; rfl, fun i hi j h1 h2 => (start_nth c hn _ (Nat.le_refl _)).2 i hi j h1 h2⟩
/-! ### what is unsent of a chain -/
theorem far_succ (own : List TxnL) (i : Nat) : farL own (i + 1) = nth (nthT own i).at_ 0 := by unfold farL; rw [if_neg (Nat.succ_ne_zero i)]; rfl
theorem filter_first {own : List TxnL} {n : Nat} (c : ChainOf own n) {row : List Int} (hr : 0 < row.length) {f : Nat} (hf : f ≤ own.length) (h1 : ∀ i, i < f → nth (nthT own i).at_ 0 ≤ nth row 0) (h2 : f < own.length → nth row 0 < nth (nthT own f).at_ 0) :
    own.filter (newT 0 row) = own.drop f := by
  have key : ∀ i, i < own.length → newT 0 row (nthT own i) = decide (f ≤ i) := fun i hi => by
    have e0 : newT 0 row (nthT own i) = decide (nth row 0 < nth (nthT own i).at_ 0) := by
      unfold newT
      rw [show decide ((row.length : Int) ≤ 0) = false from decide_eq_false (by omega), Bool.false_or]; rfl
    rw [e0, decide_eq_decide]
    constructor
    · intro h
      refine Classical.byContradiction fun q => ?_
      have := h1 i (by omega)
      omega
    · intro h
      have h3 := h2 (by omega)
      have h4 := c.mono (i := f + 1) (j := i + 1) (by omega) (by omega)
      rw [far_succ, far_succ] at h4
      omega
  conv => lhs; rw [← List.take_append_drop f own]
  rw [List.filter_append]
  have ha : (own.take f).filter (newT 0 row) = [] := by
    rw [List.filter_eq_nil_iff]
    intro t ht
    obtain ⟨i, hi, rfl⟩ := List.getElem_of_mem ht
    rw [List.length_take] at hi
    rw [List.getElem_take, ← nthT_eq (by omega), key i (by omega)]
    simp; omega
  have hb : (own.drop f).filter (newT 0 row) = own.drop f := by
    rw [List.filter_eq_self]
    intro t ht
    obtain ⟨i, hi, rfl⟩ := List.getElem_of_mem ht
    rw [List.length_drop] at hi
    rw [List.getElem_drop, ← nthT_eq (by omega), key (f + i) (by omega)]
    simp
  rw [ha, hb, List.nil_append]
theorem chain_off {own : List TxnL} {n : Nat} (c : ChainOf own n) (hn : 1 ≤ n) : own.any (offT 0) = false := by
  rw [List.any_eq_false]
  intro t ht
  obtain ⟨i, hi, rfl⟩ := List.getElem_of_mem ht
  rw [← nthT_eq hi]
  have := c.len i hi
  simp only [offT, decide_eq_true_eq]
  omega
theorem ChainOf.pos {own : List TxnL} {n : Nat} (c : ChainOf own n) (h : 0 < own.length) : 1 ≤ n := by
  have h1 := (c.parts 0 h).o1
  have h2 := (c.parts 0 h).o0
  rw [c.len 0 h] at h1
  omega
theorem unsent_all {own : List TxnL} {n : Nat} (c : ChainOf own n) {row : List Int} (hr : row.length = n) (hn : 1 ≤ n) {f : Nat} (hf : f ≤ own.length) (h1 : ∀ i, i < f → nth (nthT own i).at_ 0 ≤ nth row 0) (h2 : f < own.length → nth row 0 < nth (nthT own f).at_ 0) (most : Int) :
    unsentL own 0 row most = if 0 ≤ most then (own.drop f).take most.toNat else own.drop f := by
  unfold unsentL
  rw [chain_off c hn, filter_first c (by omega) hf h1 h2]
  rfl
theorem unsent_join {own : List TxnL} {n : Nat} (c : ChainOf own n) {row : List Int} (hr : row.length = n) (hn : 1 ≤ n) (h0 : 0 < own.length) : unsentL own 0 (joinL row (nthT own (own.length - 1)).at_) (-1) = [] := by
  have hl : row.length = (nthT own (own.length - 1)).at_.length := by rw [hr, c.len _ (by omega)]
  have hj : nth (joinL row (nthT own (own.length - 1)).at_) 0 = max (nth row 0) (nth (nthT own (own.length - 1)).at_ 0) := join_nth hl (by omega)
  rw [unsent_all c (f := own.length) (by rw [join_len' hl]; exact hr) hn (Nat.le_refl _) (fun i hi => ?_) (fun h => absurd h (Nat.lt_irrefl _)), List.drop_length]
  · rfl
  · have h4 := c.mono (i := i + 1) (j := own.length - 1 + 1) (by omega) (by omega)
    rw [far_succ, far_succ] at h4
    rw [hj]; omega

/-! ### messages -/
/-- a message read: a transaction, or a place and what it has -/
def rdMsg : List UInt8 → Option (TxnL × Int × List Int)
  | [] => none
  | c :: m => if c = 84 then (rdTx m).map fun t => (t, t.o, [])
    else if c = 82 then match m with
      | [] => none
      | f :: r => match rdV r with
        | some (xs, []) => if (f.toNat : Int) < xs.length then some (nilTx, (f.toNat : Int), xs) else none
        | _ => none
    else none
def msgTx (t : TxnL) : List UInt8 := 84 :: putTx t
def msgRow (from_ : Int) (row : List Int) : List UInt8 := 82 :: (numB from_ 1 ++ putL row)
theorem rdMsg_T (m : List UInt8) : rdMsg (84 :: m) = (rdTx m).map fun t => (t, t.o, []) := by simp [rdMsg]
end Go.Proofs.Ytaokennbpgdngaa
end

/- slices.Clone of writes; stream.copied; the test of Unsent. By an AI agent. -/
section
set_option linter.unusedVariables false
set_option linter.unusedSimpArgs false
namespace Go.Proofs.Ytaokennbpgdngaa
open Go.RowKit
attribute [local go_sem] eOp eOper eUpon pOp pOper pUpon

theorem sg_ww {w : World} {a : Option Addr} {n : Nat} {ws : List (ByteArray × ActL)} (h : WW w a n ws) : SG w 5 a n (cellsW ws) := by
  refine ⟨by rw [cellsW_len, h.len], fun ad e j u hu => ?_, fun e => ?_, fun u hu => ?_⟩
  · have hjl : j < n * 5 := by
      have := (List.getElem?_eq_some_iff.1 hu).1
      rwa [cellsW_len, h.len] at this
    have hi : j / 5 < n := by omega
    obtain ⟨b, off, e', hc⟩ := h.cells (j / 5) hi
    rw [e] at e'
    obtain rfl := Option.some.inj e'
    have hg := cellsW_get ws (j / 5) (by rw [h.len]; exact hi) (j % 5) (by omega)
    rw [show j / 5 * 5 + j % 5 = j by omega, hu] at hg
    have hcc := hc (j / 5) hi
    rw [Addr.add_lit, show off + j = off + j / 5 * 5 + j % 5 by omega]
    have hr : j % 5 < 5 := by omega
    generalize j % 5 = r at hg hr
    match r, hr with
    | 0, _ => rw [Nat.add_zero, hcc.c0]; exact hg.symm
    | 1, _ => rw [hcc.c1]; exact hg.symm
    | 2, _ => rw [hcc.c2]; exact hg.symm
    | 3, _ => rw [hcc.c3]; exact hg.symm
    | 4, _ => rw [hcc.c4]; exact hg.symm
  · subst e
    by_cases hn : 0 < n
    · obtain ⟨b, off, e', _⟩ := h.cells 0 hn
      cases e'
    · omega
  · obtain ⟨p, _, hp⟩ := List.mem_flatMap.1 hu
    simp only [writeCs, List.mem_cons, List.not_mem_nil, or_false] at hp
    rcases hp with rfl | rfl | rfl | rfl | rfl <;> rfl
theorem wclone_any (a : Option Addr) (n ca : Nat) (ws : List (ByteArray × ActL)) (w : World) (hx : WW w a n ws) (hn : n ≤ 1000000) :
    Calls Try.prog 68 #[.slice a n ca] w fun e w' => ∃ v, e = .returned v ∧ OWR w.heap.size w' v n ws ∧ Bl w w' := by
  have hnil := fun (w : World) => Lib.run_eql_slice_nil w 27 56 a n ca 0 0 Try.underlying27
  have HX := Lib.hid hx
  cases a with
  | none =>
    have hn0 : n = 0 := (sg_ww hx).nil rfl
    have hws : ws = [] := List.eq_nil_of_length_eq_zero (hx.len.trans hn0)
    subst hn0 hws
    clear hx
    go_enter Try.func68, Try.ntmps68
    go_wp2
    go_ret
    exact ⟨_, rfl, OWR.nil _ _, Bl.refl _⟩
  | some ad =>
    have HS := Lib.hid ((sg_ww hx).keep ((Bl.refl w).alloc (.cells #[] 56)))
    clear hx
    go_enter Try.func68, Try.ntmps68
    go_wp2_with (at_builtin; refine wpList_appG rfl _ _ _ rfl el_wr w.heap.size _ 0 [] rfl (World.ownsRow_lit w #[] 0 (Nat.le_refl _) (by decide) rfl) ?c0 (some ad) n ca _ rfl HS.out ?c1 ?c2 ?_)
    case c0 => simp
    case c1 => unfold maxLen; omega
    case c2 => omega
    intro v' w1 hown' hgrow
    have hb : Bl w w1 := ((Bl.refl w).alloc _).grown hgrow (by simp) (fun k hk => by simp [Value.ownBlock] at hk; omega)
    have HO : Hid (OWR w.heap.size w1 v' n ws) := Lib.hid ⟨HX.out.len, by simpa using hown'⟩
    have HB := Lib.hid hb
    clear hown' hgrow hb
    go_wp2
    go_ret
    exact ⟨_, rfl, HO.out, HB.out⟩

/-- a copied transaction's lists -/
structure Cop (w w' : World) (t : TxnL) (dv av wv : Value) : Prop where
  d : FI w.heap.size w' dv t.deps
  a : FI w.heap.size w' av t.at_
  ow : OWR w.heap.size w' wv t.ws.length t.ws
  da : dv.ownBlock = none ∨ dv.ownBlock ≠ av.ownBlock
  dw : dv.ownBlock = none ∨ dv.ownBlock ≠ wv.ownBlock
  aw : av.ownBlock = none ∨ av.ownBlock ≠ wv.ownBlock
  bl : Bl w w'
theorem own_apart {A B : Nat} {W W' : World} {E F : TypeId} {y z m n : Nat} {u v : Value} {cs ds : List Value} (h : W.ownsRow A E y u m cs) (k : W'.ownsRow B F z v n ds) (hB : W.heap.size ≤ B) : u.ownBlock = none ∨ u.ownBlock ≠ v.ownBlock := by
  cases e : u.ownBlock with
  | none => exact .inl rfl
  | some b =>
    refine .inr (fun e2 => ?_)
    have h1 := (World.ownsRow.lt h b e).2
    have h2 := (World.ownsRow.lt k b e2.symm).1
    omega
theorem own_less {B B' : Nat} {W : World} {E : TypeId} {z n : Nat} {v : Value} {cs : List Value} (h : W.ownsRow B E z v n cs) (hb : B' ≤ B) : W.ownsRow B' E z v n cs := by
  obtain ⟨h1, h2 | ⟨g, cap, cur, hv, hB, r⟩⟩ := h
  · exact ⟨h1, .inl h2⟩
  · exact ⟨h1, .inr ⟨g, cap, cur, hv, Nat.le_trans hb hB, r⟩⟩
theorem own_set {B : Nat} {W : World} {E : TypeId} {z n : Nat} {v : Value} {cs : List Value} (h : W.ownsRow B E z v n cs) {q : Nat} (hq : q < B) (j : Nat) (u : Value) : (W.setCell ⟨q, j, none⟩ u).ownsRow B E z v n cs := by
  obtain ⟨h1, h2 | ⟨g, cap, cur, hv, hB, hg, r⟩⟩ := h
  · exact ⟨h1, .inl h2⟩
  · exact ⟨h1, .inr ⟨g, cap, cur, hv, hB, by rw [Below.heap_setCell _ _ _ _ (show g ≠ q by omega)]; exact hg, r⟩⟩
theorem own_fill {B : Nat} {E : TypeId} {z n : Nat} {v : Value} {cs : List Value} {q : Nat} (hq : q < B) (vs : List Value) : ∀ (W : World) (j : Nat), W.ownsRow B E z v n cs → (Go.Proofs.Ytaokennbpgdngaa.fill W q j vs).ownsRow B E z v n cs := by
  induction vs with
  | nil => intro W j h; exact h
  | cons u vs ih => intro W j h; exact ih _ _ (own_set h hq j u)
theorem copied_results {tmps : Array Value} {W : World} {g : Nat} {o num prev : Int} {dv av wv : Value} (h : tmps.getD 2 undef = .pointer (some ⟨g, 0, none⟩)) (hc : AC W g [.int .i64 o, .int .i64 num, .int .i64 prev, dv, av, wv]) :
    (results Try.f38 tmps).run Try.prog W = .ok (.agg #[.int .i64 o, .int .i64 num, .int .i64 prev, dv, av, wv]) W := by
  rw [Array.getD_eq_getD_getElem?] at h
  have c0 := hc.cell 0 _ rfl
  have c1 := hc.cell 1 _ rfl
  have c2 := hc.cell 2 _ rfl
  have c3 := hc.cell 3 _ rfl
  have c4 := hc.cell 4 _ rfl
  have c5 := hc.cell 5 _ rfl
  simp [results, Try.results38, go_sem, h, c0, c1, c2, c3, c4, c5]
/-- the two boxes of copied -/
structure CB (w W : World) (cs rs : List Value) : Prop where
  bl : Bl w W
  t : AC W w.heap.size cs
  r : AC W (w.heap.size + 1) rs
theorem CB.keep {w W W' : World} {cs rs : List Value} (h : CB w W cs rs) (k : Bl W W') : CB w W' cs rs := ⟨h.bl.trans k, h.t.keep k, h.r.keep k⟩
theorem CB.store {w W : World} {cs rs : List Value} (h : CB w W cs rs) (j : Nat) (v : Value) : CB w (W.setCell ⟨w.heap.size, j, none⟩ v) (cs.set j v) rs :=
  ⟨h.bl.setCell (p := ⟨w.heap.size, j, none⟩) (Nat.le_refl _) v, h.t.setj j v, h.r.other (by omega)⟩
theorem CB.new (w : World) (cs rs : List Value) (T U : TypeId) : CB w ((w.alloc (.cells cs.toArray T)).alloc (.cells rs.toArray U)) cs rs :=
  ⟨((Bl.refl w).alloc _).alloc _, (AC.new w _ rfl cs T).keep ((Bl.refl _).alloc _), AC.new _ (w.heap.size + 1) (by simp) rs U⟩
def zTx : List Value := [.int .i64 0, .int .i64 0, .int .i64 0, .slice none 0 0, .slice none 0 0, .slice none 0 0]
set_option maxHeartbeats 6400000 in
set_option maxRecDepth 100000 in
theorem copied_any (o num prev : Int) (da : Option Addr) (dn dc : Nat) (ds : List Int) (aa : Option Addr) (an ac : Nat) (xs : List Int) (wa : Option Addr) (wn wc : Nat) (ws : List (ByteArray × ActL)) (w : World)
    (hd : IA w da dn ds) (hx : IA w aa an xs) (hw : WW w wa wn ws) (hwn : wn ≤ 1000000) :
    Calls Try.prog 38 #[.agg #[.int .i64 o, .int .i64 num, .int .i64 prev, .slice da dn dc, .slice aa an ac, .slice wa wn wc]] w fun e w' =>
      ∃ dv av wv, e = .returned (.agg #[.int .i64 o, .int .i64 num, .int .i64 prev, dv, av, wv]) ∧ Cop w w' ⟨o, num, prev, ds, xs, ws⟩ dv av wv := by
  have hsf := store_float
  have HD := Lib.hid hd
  have HX := Lib.hid hx
  have HW := Lib.hid hw
  have G := CB.new w [.int .i64 o, .int .i64 num, .int .i64 prev, .slice da dn dc, .slice aa an ac, .slice wa wn wc] zTx 29 29
  unfold zTx at G
  clear hd hx hw
  go_enter Try.func38, Try.ntmps38
  go_upto_region 1 with fail
  generalize (w.alloc _).alloc _ = W at *
  have HG := Lib.hid (G.keep ((Bl.refl W).drew))
  clear G
  refine wp_region_panicsT [0, 1, 3, 4, 6, 7] 9 (HasBox w.heap.size [.int .i64 o, .int .i64 num, .int .i64 prev, .slice da dn dc, .slice aa an ac, .slice wa wn wc]) HasBox.keep HG.out.t [10, 11, 12, 13, 14] (fun c W' => False) ?hR (by kernel_rfl) rfl (by kernel_rfl) (by kernel_rfl) (by kernel_rfl) ?_
  case hR => intro c tt W' h; exact h.elim
  generalize W.drew = Z at *
  haveI : Nonempty (ExtC (HasBox w.heap.size [.int .i64 o, .int .i64 num, .int .i64 prev, .slice da dn dc, .slice aa an ac, .slice wa wn wc])) := ⟨⟨Z, HG.out.t⟩⟩
  have d3 : ∀ q : ExtC (HasBox w.heap.size [.int .i64 o, .int .i64 num, .int .i64 prev, .slice da dn dc, .slice aa an ac, .slice wa wn wc]), _ := fun q => AC.cell q.ok 3 _ rfl
  have d4 : ∀ q : ExtC (HasBox w.heap.size [.int .i64 o, .int .i64 num, .int .i64 prev, .slice da dn dc, .slice aa an ac, .slice wa wn wc]), _ := fun q => AC.cell q.ok 4 _ rfl
  have d5 : ∀ q : ExtC (HasBox w.heap.size [.int .i64 o, .int .i64 num, .int .i64 prev, .slice da dn dc, .slice aa an ac, .slice wa wn wc]), _ := fun q => AC.cell q.ok 5 _ rfl
  repeat (refine wpI_step rfl (fun K hK => ?_); go_simp; first | (refine hK _ ?_; clear hK K) | (apply Exists.intro; refine ⟨fun q => ?_, hK _ ?_⟩; fail; clear hK K))
  refine wpI_nil ?_
  clear d3 d4 d5 this
  refine wpAnyP_one (i := 2) (by kernel_rfl) ?_
  intro Y1 hy1
  go_simp
  refine (vclone_any da dn dc ds Y1 (HD.out.keep (HG.out.bl.trans hy1))).mono ?_
  rintro e Y2 ⟨dv, rfl, hdv, hb2⟩
  obtain ⟨da2, dn2, dc2, hdve, _⟩ := hdv.si
  subst hdve
  have HDV := Lib.hid (show FI Y1.heap.size Y2 (.slice da2 dn2 dc2) ds from hdv)
  have HY2 := Lib.hid (hy1.trans hb2)
  have HS1 : Hid (Z.heap.size ≤ Y1.heap.size) := Lib.hid hy1.size
  clear hy1 hdv hb2
  go_simp
  refine ⟨HG.out.t.keep HY2.out, ?_⟩
  haveI : Nonempty (ExtC (HasBox w.heap.size [.int .i64 o, .int .i64 num, .int .i64 prev, .slice da dn dc, .slice aa an ac, .slice wa wn wc])) := ⟨⟨Y2, HG.out.t.keep HY2.out⟩⟩
  refine wpAnyP_mid [9] 7 HasBox.keep (by kernel_rfl) (HG.out.t.keep HY2.out) (by kernel_rfl) (by kernel_rfl) (by kernel_rfl) ?_
  repeat (refine wpI_step rfl (fun K hK => ?_); go_simp; first | (refine hK _ ?_; clear hK K) | (apply Exists.intro; refine ⟨fun q => ?_, hK _ ?_⟩; fail; clear hK K))
  refine wpI_nil ?_
  clear this
  refine wpAnyP_one (i := 5) (by kernel_rfl) ?_
  intro Y3 hy3
  go_simp
  refine (vclone_any aa an ac xs Y3 (HX.out.keep (HG.out.bl.trans (HY2.out.trans hy3)))).mono ?_
  rintro e Y4 ⟨av, rfl, hav, hb4⟩
  obtain ⟨aa2, an2, ac2, have_, _⟩ := hav.si
  subst have_
  have HAV := Lib.hid (show FI Y3.heap.size Y4 (.slice aa2 an2 ac2) xs from hav)
  have HDA := Lib.hid (own_apart HDV.out.own hav.own hy3.size)
  have HS3 : Hid (Z.heap.size ≤ Y3.heap.size) := Lib.hid (HY2.out.trans hy3).size
  have HDV4 := Lib.hid (HDV.out.keep (hy3.trans hb4))
  have HY4 := Lib.hid (HY2.out.trans (hy3.trans hb4))
  clear hy3 hav hb4 HDV HY2
  go_simp
  refine ⟨HG.out.t.keep HY4.out, ?_⟩
  refine wpAnyP_one (i := 8) (by kernel_rfl) ?_
  intro Y5 hy5
  go_simp
  refine (wclone_any wa wn wc ws Y5 (HW.out.keep (HG.out.bl.trans (HY4.out.trans hy5))) hwn).mono ?_
  rintro e Y6 ⟨wv, rfl, hwv, hb6⟩
  obtain ⟨wa2, wc2, hwve⟩ := OWR.form hwv
  subst hwve
  have HDW := Lib.hid (own_apart HDV4.out.own hwv.2 hy5.size)
  have HAW := Lib.hid (own_apart HAV.out.own hwv.2 hy5.size)
  have HS5 : Hid (Z.heap.size ≤ Y5.heap.size) := Lib.hid (HY4.out.trans hy5).size
  have HDV6 := Lib.hid (HDV4.out.keep (hy5.trans hb6))
  have HAV6 := Lib.hid (HAV.out.keep (hy5.trans hb6))
  have HWV := Lib.hid (show OWR Y5.heap.size Y6 (.slice wa2 wn wc2) wn ws from hwv)
  have HG6 := Lib.hid (HG.out.keep (HY4.out.trans (hy5.trans hb6)))
  have hzb := HG.out.r.lt
  clear hy5 hwv hb6 HDV4 HAV HY4
  go_simp
  refine ⟨HG6.out.t, ?_⟩
  have hg0 : w.heap.size < Z.heap.size := by omega
  have HDO : Hid (Y6.ownsRow Z.heap.size 3 1 (.slice da2 dn2 dc2) ds.length (ds.map (Value.int .i64))) := Lib.hid (own_less HDV6.out.own HS1.out)
  have HAO : Hid (Y6.ownsRow Z.heap.size 3 1 (.slice aa2 an2 ac2) xs.length (xs.map (Value.int .i64))) := Lib.hid (own_less HAV6.out.own HS3.out)
  have HWO : Hid (Y6.ownsRow Z.heap.size 56 5 (.slice wa2 wn wc2) wn (cellsW ws)) := Lib.hid (own_less HWV.out.2 HS5.out)
  have HWL := Lib.hid HWV.out.1
  have HDC := Lib.hid (And.intro HDV6.out.cap HDV6.out.wf)
  have HAC := Lib.hid (And.intro HAV6.out.cap HAV6.out.wf)
  clear HDV6 HAV6 HWV HS1 HS3 HS5
  refine wpAnyP_one (i := 10) (by kernel_rfl) ?_
  intro Y7 hy7
  have HG7 := Lib.hid (HG6.out.keep hy7)
  have HD7 := Lib.hid (ownsRow_bl HDO.out hy7)
  have HA7 := Lib.hid (ownsRow_bl HAO.out hy7)
  have HW7 := Lib.hid (ownsRow_bl HWO.out hy7)
  have c3 := HG7.out.t.cell 3 _ rfl
  have f3 := HG7.out.t.frozen 3
  clear hy7 HG6 HDO HAO HWO
  go_simp
  clear c3 f3
  have HG8 := Lib.hid (show CB w (Y7.setCell ⟨w.heap.size, 3, none⟩ (.slice da2 dn2 dc2)) [.int .i64 o, .int .i64 num, .int .i64 prev, (.slice da2 dn2 dc2), .slice aa an ac, .slice wa wn wc] zTx from HG7.out.store 3 (.slice da2 dn2 dc2))
  have HD8 := Lib.hid (own_set HD7.out hg0 3 (.slice da2 dn2 dc2))
  have HA8 := Lib.hid (own_set HA7.out hg0 3 (.slice da2 dn2 dc2))
  have HW8 := Lib.hid (own_set HW7.out hg0 3 (.slice da2 dn2 dc2))
  clear HG7 HD7 HA7 HW7
  generalize World.setCell _ _ (.slice da2 dn2 dc2) = Y8 at *
  refine wpAnyP_one (i := 11) (by kernel_rfl) ?_
  intro X11 hx11
  go_simp
  refine wpAnyP_one (i := 12) (by kernel_rfl) ?_
  intro Y9 hy9
  replace hy9 := hx11.trans hy9
  have HG9 := Lib.hid (HG8.out.keep hy9)
  have HD9 := Lib.hid (ownsRow_bl HD8.out hy9)
  have HA9 := Lib.hid (ownsRow_bl HA8.out hy9)
  have HW9 := Lib.hid (ownsRow_bl HW8.out hy9)
  have c4 := HG9.out.t.cell 4 _ rfl
  have f4 := HG9.out.t.frozen 4
  clear hy9 HG8 HD8 HA8 HW8
  go_simp
  clear c4 f4
  have HG10 := Lib.hid (show CB w (Y9.setCell ⟨w.heap.size, 4, none⟩ (.slice aa2 an2 ac2)) [.int .i64 o, .int .i64 num, .int .i64 prev, (.slice da2 dn2 dc2), (.slice aa2 an2 ac2), .slice wa wn wc] zTx from HG9.out.store 4 (.slice aa2 an2 ac2))
  have HD10 := Lib.hid (own_set HD9.out hg0 4 (.slice aa2 an2 ac2))
  have HA10 := Lib.hid (own_set HA9.out hg0 4 (.slice aa2 an2 ac2))
  have HW10 := Lib.hid (own_set HW9.out hg0 4 (.slice aa2 an2 ac2))
  clear HG9 HD9 HA9 HW9
  generalize World.setCell _ _ (.slice aa2 an2 ac2) = Y10 at *
  refine wpAnyP_one (i := 13) (by kernel_rfl) ?_
  intro X13 hx13
  go_simp
  refine wpAnyP_one (i := 14) (by kernel_rfl) ?_
  intro Y11 hy11
  replace hy11 := hx13.trans hy11
  have HG11 := Lib.hid (HG10.out.keep hy11)
  have HD11 := Lib.hid (ownsRow_bl HD10.out hy11)
  have HA11 := Lib.hid (ownsRow_bl HA10.out hy11)
  have HW11 := Lib.hid (ownsRow_bl HW10.out hy11)
  have c5 := HG11.out.t.cell 5 _ rfl
  have f5 := HG11.out.t.frozen 5
  clear hy11 HG10 HD10 HA10 HW10
  go_simp
  clear c5 f5
  have HG12 := Lib.hid (show CB w (Y11.setCell ⟨w.heap.size, 5, none⟩ (.slice wa2 wn wc2)) [.int .i64 o, .int .i64 num, .int .i64 prev, (.slice da2 dn2 dc2), (.slice aa2 an2 ac2), (.slice wa2 wn wc2)] zTx from HG11.out.store 5 (.slice wa2 wn wc2))
  have HD12 := Lib.hid (own_set HD11.out hg0 5 (.slice wa2 wn wc2))
  have HA12 := Lib.hid (own_set HA11.out hg0 5 (.slice wa2 wn wc2))
  have HW12 := Lib.hid (own_set HW11.out hg0 5 (.slice wa2 wn wc2))
  clear HG11 HD11 HA11 HW11
  generalize World.setCell _ _ (.slice wa2 wn wc2) = Y12 at *
  refine wpAnyP_done (by kernel_rfl) ?_
  intro Y13 hy13
  have HG13 := Lib.hid (HG12.out.keep hy13)
  have HD13 := Lib.hid (ownsRow_bl HD12.out hy13)
  have HA13 := Lib.hid (ownsRow_bl HA12.out hy13)
  have HW13 := Lib.hid (ownsRow_bl HW12.out hy13)
  clear hy13 HG12 HD12 HA12 HW12
  have t0 := HG13.out.t.cell 0 _ rfl
  have t1 := HG13.out.t.cell 1 _ rfl
  have t2 := HG13.out.t.cell 2 _ rfl
  have t3 := HG13.out.t.cell 3 _ rfl
  have t4 := HG13.out.t.cell 4 _ rfl
  have t5 := HG13.out.t.cell 5 _ rfl
  have fr := HG13.out.r.frozen
  have r0 := HG13.out.r.cell 0 _ rfl
  have r1 := HG13.out.r.cell 1 _ rfl
  have r2 := HG13.out.r.cell 2 _ rfl
  have r3 := HG13.out.r.cell 3 _ rfl
  have r4 := HG13.out.r.cell 4 _ rfl
  have r5 := HG13.out.r.cell 5 _ rfl
  have hd1 : w.heap.size + 1 < Z.heap.size := hzb
  go_wp2_with fail
  refine bodyPost_ret (copied_results rfl (HG13.out.r.fill [.int .i64 o, .int .i64 num, .int .i64 prev, (.slice da2 dn2 dc2), (.slice aa2 an2 ac2), (.slice wa2 wn wc2)] rfl)) rfl ⟨(.slice da2 dn2 dc2), (.slice aa2 an2 ac2), (.slice wa2 wn wc2), rfl, ⟨⟨?_, HDC.out.1, HDC.out.2⟩, ⟨?_, HAC.out.1, HAC.out.2⟩, ⟨rfl, ?_⟩, HDA.out, HDW.out, HAW.out, ?_⟩⟩
  · exact own_less (own_fill hd1 [.int .i64 o, .int .i64 num, .int .i64 prev, (.slice da2 dn2 dc2), (.slice aa2 an2 ac2), (.slice wa2 wn wc2)] _ 0 HD13.out) (by omega)
  · exact own_less (own_fill hd1 [.int .i64 o, .int .i64 num, .int .i64 prev, (.slice da2 dn2 dc2), (.slice aa2 an2 ac2), (.slice wa2 wn wc2)] _ 0 HA13.out) (by omega)
  · have e : ws.length = wn := HWL.out
    dsimp only
    rw [e]
    exact own_less (own_fill hd1 [.int .i64 o, .int .i64 num, .int .i64 prev, (.slice da2 dn2 dc2), (.slice aa2 an2 ac2), (.slice wa2 wn wc2)] _ 0 HW13.out) (by omega)
  · exact Bl.fill (Nat.le_succ _) [.int .i64 o, .int .i64 num, .int .i64 prev, (.slice da2 dn2 dc2), (.slice aa2 an2 ac2), (.slice wa2 wn wc2)] _ 0 HG13.out.bl
end Go.Proofs.Ytaokennbpgdngaa
end
