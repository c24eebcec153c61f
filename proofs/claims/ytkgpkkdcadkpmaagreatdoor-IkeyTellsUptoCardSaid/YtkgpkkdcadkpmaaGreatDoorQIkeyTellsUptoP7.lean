import Derived.Test.YtkgpkkdcadkpmaaGreatDoorQVecG
import Derived.Test.YtkgpkkdcadkpmaaGreatDoorQIkeyTellsUptoP3
import Derived.Test.YtkgpkkdcadkpmaaGreatDoorQIkeyTellsUptoP5

/- readers: a cell that holds what is left; vec.Get, whatever the bytes are. By an AI agent. -/
section
namespace Go.Proofs.YtkgpkkdcadkpmaaGreatDoor
open Go.RowKit

theorem OB.other {B g j : Nat} {w : World} {v u : Value} {xs : List Int} (h : OB B w v xs) (hg : g < B) : OB B (w.setCell ⟨g, j, none⟩ u) v xs := by
  obtain ⟨h1, h2 | ⟨g', cap, cur, hv, hB, hh, r⟩⟩ := h
  · exact ⟨h1, .inl h2⟩
  · exact ⟨h1, .inr ⟨g', cap, cur, hv, hB, by rw [Below.heap_setCell _ _ _ _ (show g' ≠ g by omega)]; exact hh, r⟩⟩
/-- the reader's cell is set anew in what has come behind -/
theorem Bl.reset {w wr : World} {g : Nat} {v0 a b : Value} (hc : C1 w g v0) (hb : Bl (w.setCell ⟨g, 0, none⟩ a) wr) : Bl (w.setCell ⟨g, 0, none⟩ b) (wr.setCell ⟨g, 0, none⟩ b) := by
  obtain ⟨t, hg⟩ := hc
  have hlt : g < w.heap.size := lt_of_heap hg
  have e1 : ∀ u, (w.setCell ⟨g, 0, none⟩ u).heap[g]? = some (.cells #[u] t (0, 0)) := fun u => by
    rw [heap_setCell_same w g 0 _ t u hg]; rfl
  have hz : ∀ (x : World) (u : Value), (x.setCell ⟨g, 0, none⟩ u).heap.size = x.heap.size := fun x u => by simp
  have e2 : wr.heap[g]? = some (.cells #[a] t (0, 0)) := by
    rw [hb.block g (by rw [hz]; exact hlt)]; exact e1 a
  have e3 : (wr.setCell ⟨g, 0, none⟩ b).heap[g]? = some (.cells #[b] t (0, 0)) := by
    rw [heap_setCell_same wr g 0 _ t b e2]; rfl
  refine ⟨hb.os, hb.tape, hb.output, ?_, fun q hq => ?_⟩
  · rw [hz, hz]; have := hb.size; rw [hz] at this; exact this
  · by_cases hqg : q = g
    · subst hqg; rw [e3, e1]
    · rw [Below.heap_setCell _ _ _ _ hqg, Below.heap_setCell _ _ _ _ hqg]
      have := hb.block q (by rw [hz] at hq ⊢; exact hq)
      rw [this, Below.heap_setCell _ _ _ _ hqg]

theorem setCell_size (w : World) (g : Nat) (u : Value) : (w.setCell ⟨g, 0, none⟩ u).heap.size = w.heap.size := by simp
def numK (l : List UInt8) : List Int := l.map fun b => (b.toNat : Int)
theorem numK_len (l : List UInt8) : (numK l).length = l.length := by simp [numK]
theorem numK_push (l : List UInt8) (c : UInt8) : numK (l ++ [c]) = numK l ++ [(c.toNat : Int)] := by simp [numK]
theorem str_numK (l : List UInt8) : strOfNums (numK l) = ⟨l.toArray⟩ := by
  apply ByteArray.ext
  apply Array.toList_inj.1
  show ((numK l).map fun n => UInt8.ofNat n.toNat) = l
  unfold numK
  rw [List.map_map]
  conv => rhs; rw [← List.map_id l]
  apply List.map_congr_left
  intro x _
  simp
theorem OB.push2 {B : Nat} {w0 w w1 : World} {v v' : Value} {xs : List Int} {x : Int} {o : Obj} (hb : Bl w0 w) (hz : w0.heap.size = B) (hown : OB B w v xs)
    (hown' : w1.ownsRow B 5 1 v' (xs.length + 1) (xs.map (Value.int .u8) ++ [.int .u8 x])) (hg : (w.alloc o).grownBy w1 v.ownBlock) : OB B w1 v' (xs ++ [x]) ∧ Bl w0 w1 := by
  subst hz
  exact OB.push hb hb.size hown hown' hg
theorem SB.one {t : ByteArray} {c : UInt8} (h : SB t [c]) : t = ⟨#[c]⟩ := by
  apply ByteArray.ext
  apply Array.toList_inj.1
  exact h
theorem Bl.same {w : World} {g : Nat} {v : Value} (hc : C1 w g v) : Bl (w.setCell ⟨g, 0, none⟩ v) w := by
  obtain ⟨t, hg⟩ := hc
  refine ⟨rfl, rfl, rfl, by simp, fun q hq => ?_⟩
  by_cases hqg : q = g
  · subst hqg
    rw [heap_setCell_same w q 0 _ t v hg, hg]; rfl
  · rw [Below.heap_setCell _ _ _ _ hqg]
def cellLen (w : World) (b : Nat) : Nat := match w.cell? ⟨b, 0, none⟩ with | some (.string s) => s.size | _ => 0
theorem cellLen_of {w : World} {b : Nat} {s : ByteArray} (h : C1 w b (.string s)) : cellLen w b = s.size := by unfold cellLen; rw [h.cell]

/-- the plain way back of numbers -/
theorem getN_put6 (x : Int) (h0 : 0 ≤ x) (h1 : x < 281474976710656) : getN (bytesN (putN x 6 6)) = x := by
  have e : putN x 6 6 = [x / 1099511627776 % 256, x / 4294967296 % 256, x / 16777216 % 256, x / 65536 % 256, x / 256 % 256, x % 256] := by
    simp [putN, byteAt, List.range, List.range.loop]
  rw [e]
  simp only [bytesN, List.map_cons, List.map_nil, getN, List.foldl_cons, List.foldl_nil]
  have hb : ∀ y : Int, ((UInt8.ofNat (y % 256).toNat).toNat : Int) = y % 256 := by
    intro y
    simp; omega
  simp only [hb]
  omega
theorem putBodyL_cons (x : Int) (xs : List Int) : putBodyL (x :: xs) = bytesN (putN x 6 6) ++ putBodyL xs := by simp [putBodyL]
theorem len6 (x : Int) : (bytesN (putN x 6 6)).length = 6 := by rw [bytesN_len, putN_len]
theorem body_drop (xs : List Int) (more : List UInt8) (j : Nat) (hj : j ≤ xs.length) : (putBodyL xs ++ more).drop (6 * j) = putBodyL (xs.drop j) ++ more := by
  induction j generalizing xs with
  | zero => simp
  | succ j ih =>
    cases xs with
    | nil => simp at hj
    | cons x xs =>
      rw [putBodyL_cons, List.append_assoc, show 6 * (j + 1) = 6 + 6 * j by omega, ← List.drop_drop, List.drop_left' (len6 x), ih xs (by simpa using hj)]
      simp
theorem vals_put (xs : List Int) (more : List UInt8) (hw : ∀ j, j < xs.length → 0 ≤ nth xs j ∧ nth xs j < 281474976710656) : valsL xs.length (putBodyL xs ++ more) = xs := by
  refine getD_ext (valsL_len _ _) fun j hj => ?_
  rw [valsL_len] at hj
  have h1 : nth (valsL xs.length (putBodyL xs ++ more)) j = getN (((putBodyL xs ++ more).drop (6 * j)).take 6) := by
    rw [nth_eq (by rw [valsL_len]; exact hj)]; simp [valsL]
  rw [h1, body_drop xs more j (by omega), List.drop_eq_getElem_cons hj, putBodyL_cons, List.append_assoc, List.take_left' (len6 _), ← nth_eq hj]
  have := hw j hj
  exact getN_put6 _ this.1 this.2
theorem put_head (xs : List Int) (more : List UInt8) (h : xs.length ≤ 8) : (putL xs ++ more).head?.map (·.toNat) = some xs.length := by
  simp [putL]; omega
theorem putL_drop (xs : List Int) (more : List UInt8) : (putL xs ++ more).drop 1 = putBodyL xs ++ more := by simp [putL]

/-- a slice that lies from block B on -/
def FarIA (B : Nat) (w : World) (a : Option Addr) (n : Nat) (xs : List Int) : Prop := IA w a n xs ∧ ∀ b off, a = some ⟨b, off, none⟩ → n = 0 ∨ B ≤ b
theorem FarIA.nil (B : Nat) (w : World) : FarIA B w none 0 [] := ⟨IA.nil _ _, fun _ _ _ => .inl rfl⟩
theorem FarIA.keep {B : Nat} {w w' : World} {a : Option Addr} {n : Nat} {xs : List Int} (h : FarIA B w a n xs) (hb : Bl w w') : FarIA B w' a n xs := ⟨h.1.keep hb, h.2⟩
theorem FarIA.mono {B B' : Nat} {w : World} {a : Option Addr} {n : Nat} {xs : List Int} (h : FarIA B w a n xs) (hB : B' ≤ B) : FarIA B' w a n xs :=
  ⟨h.1, fun b off e => by have := h.2 b off e; omega⟩
theorem FarIA.set {B : Nat} {w : World} {a : Option Addr} {n : Nat} {xs : List Int} (h : FarIA B w a n xs) {q : Nat} (hq : q < B) (j : Nat) (u : Value) : FarIA B (w.setCell ⟨q, j, none⟩ u) a n xs := by
  refine ⟨⟨h.1.len, h.1.cap, fun i hi => ?_, h.1.wf⟩, h.2⟩
  obtain ⟨b, off, e, hc⟩ := h.1.cells i hi
  refine ⟨b, off, e, fun i hi => ?_⟩
  have hne : b ≠ q := by
    have := h.2 b off e
    omega
  rw [← hc i hi]
  unfold World.cell?
  rw [Below.heap_setCell _ _ _ _ hne]
theorem FI.far {B : Nat} {w : World} {a : Option Addr} {n ca : Nat} {xs : List Int} (h : FI B w (.slice a n ca) xs) : FarIA B w a n xs := by
  obtain ⟨a', n', ca', e, hI⟩ := h.si
  cases e
  refine ⟨hI, fun b off e => ?_⟩
  obtain ⟨-, ⟨h1, -⟩ | ⟨g, cap, cur, hv, hB, -⟩⟩ := h.own
  · cases h1; cases e
  · cases hv
    cases e
    exact .inr hB
theorem getN1_bound (l : List UInt8) : 0 ≤ getN (l.take 1) ∧ getN (l.take 1) ≤ 255 := by
  cases l with
  | nil => simp [getN]
  | cons c l =>
    have := UInt8.toNat_lt c
    simp [getN]; omega
theorem AC.setj {w : World} {g : Nat} {cs : List Value} (h : AC w g cs) (j : Nat) (v : Value) : AC (w.setCell ⟨g, j, none⟩ v) g (cs.set j v) := by
  obtain ⟨t, h⟩ := h
  exact ⟨t, by rw [heap_setCell_same w g j _ t v h]; simp⟩
theorem C1.otherj {w : World} {g g' j : Nat} {v u : Value} (h : C1 w g v) (hn : g ≠ g') : C1 (w.setCell ⟨g', j, none⟩ u) g v := by
  obtain ⟨t, h⟩ := h
  exact ⟨t, by rw [Below.heap_setCell _ _ _ _ hn]; exact h⟩
end Go.Proofs.YtkgpkkdcadkpmaaGreatDoor
end

/- ikey's reader: take, num, key. By an AI agent. -/
section
namespace Go.Proofs.YtkgpkkdcadkpmaaGreatDoor
open Go.RowKit

def kpanE : Ending := .panicked [{ v := .iface 48 (.int .i64 4), recovered := false }]
theorem ktake_some (b : Nat) (s : ByteArray) (l : List UInt8) (n : Nat) (w : World) (hs : SB s l) (hc : C1 w b (.string s)) (hn : n ≤ l.length) :
    Calls Tryz.prog 143 #[.pointer (some ⟨b, 0, none⟩), .int .i64 n] w fun e w' => ∃ t r : ByteArray, e = .returned (.string t) ∧ SB t (l.take n) ∧ SB r (l.drop n) ∧ w' = w.setCell ⟨b, 0, none⟩ (.string r) := by
  have h0 := hc.cell
  have hf := hc.frozen
  have hz : n ≤ s.size := by rw [hs.size]; exact hn
  have HS := Lib.hid hs
  clear hs hc hn
  go_enter Tryz.func143, Tryz.ntmps143
  go_wp2_with fail
  go_ret
  refine ⟨_, _, rfl, ?_, ?_, rfl⟩
  · rw [SB, Lib.extract_data, HS.out]; simp
  · rw [SB, Lib.extract_data, HS.out, HS.out.size]; rw [List.take_of_length_le]; simp
theorem ktake_none (b : Nat) (s : ByteArray) (n : Nat) (w : World) (hc : C1 w b (.string s)) (hn : s.size < n) :
    Calls Tryz.prog 143 #[.pointer (some ⟨b, 0, none⟩), .int .i64 n] w fun e w' => e = kpanE ∧ w = w' := by
  have h0 := hc.cell
  go_enter Tryz.func143, Tryz.ntmps143
  go_wp2_with fail
  exact ⟨rfl, rfl, rfl⟩
theorem knum_some (b : Nat) (s : ByteArray) (l : List UInt8) (n : Nat) (w : World) (hs : SB s l) (hc : C1 w b (.string s)) (hn : n ≤ l.length) (h1 : 1 ≤ n) (h7 : n ≤ 7) :
    Calls Tryz.prog 103 #[.pointer (some ⟨b, 0, none⟩), .int .i64 n] w fun e w' => ∃ r : ByteArray, e = .returned (.int .i64 (getN (l.take n))) ∧ SB r (l.drop n) ∧ w' = w.setCell ⟨b, 0, none⟩ (.string r) := by
  go_enter Tryz.func103, Tryz.ntmps103
  go_wp2_with fail
  refine (ktake_some b s l n _ hs hc hn).mono ?_
  rintro e w1 ⟨t, r, rfl, ht, hr, rfl⟩
  have hz : t.size = n := by rw [ht.size, List.length_take]; omega
  have hG := fun w => get_any t w (by omega) (by omega)
  rw [show t.data.toList = l.take n from ht] at hG
  have HG := Lib.hid hG
  have HR := Lib.hid hr
  clear hG hr ht
  go_wp2_with fail
  refine (HG.out _).mono ?_
  rintro e w1 ⟨rfl, rfl⟩
  go_wp2_with fail
  go_ret
  exact ⟨r, rfl, HR.out, rfl⟩
theorem knum_none (b : Nat) (s : ByteArray) (n : Nat) (w : World) (hc : C1 w b (.string s)) (hn : s.size < n) :
    Calls Tryz.prog 103 #[.pointer (some ⟨b, 0, none⟩), .int .i64 n] w fun e w' => e = kpanE ∧ w = w' := by
  go_enter Tryz.func103, Tryz.ntmps103
  go_wp2_with fail
  refine (ktake_none b s n _ hc hn).mono ?_
  rintro e w1 ⟨rfl, rfl⟩
  unfold kpanE
  go_wp2_with fail
  exact ⟨rfl, rfl, rfl⟩

/-- a key read, and what stands behind its end -/
def keyP : List UInt8 → Option (List UInt8 × List UInt8)
  | [] => none
  | [_] => none
  | c :: d :: l => if c ≠ 0 then (keyP (d :: l)).map (fun p => (c :: p.1, p.2)) else
      if d = 1 then some ([], l) else if d = 255 then (keyP l).map (fun p => (0 :: p.1, p.2)) else none
theorem keyP_two (c d : UInt8) (l : List UInt8) : keyP (c :: d :: l) = if c ≠ 0 then (keyP (d :: l)).map (fun p => (c :: p.1, p.2)) else
      if d = 1 then some ([], l) else if d = 255 then (keyP l).map (fun p => (0 :: p.1, p.2)) else none := by rw [keyP]
theorem keyP_nil : keyP [] = none := by rw [keyP]
theorem keyP_sole (c : UInt8) : keyP [c] = none := by rw [keyP]
theorem keyP_cons {c : UInt8} {l : List UInt8} (h : c ≠ 0) : keyP (c :: l) = (keyP l).map (fun p => (c :: p.1, p.2)) := by
  cases l with
  | nil => rw [keyP_sole, keyP_nil]; rfl
  | cons d l => rw [keyP_two, if_pos h]
theorem keyP_one (l : List UInt8) : keyP (0 :: 1 :: l) = some ([], l) := by rw [keyP_two, if_neg (by simp), if_pos rfl]
theorem keyP_zero (l : List UInt8) : keyP (0 :: 255 :: l) = (keyP l).map (fun p => (0 :: p.1, p.2)) := by rw [keyP_two, if_neg (by simp), if_neg (by decide), if_pos rfl]
theorem keyP_bad {d : UInt8} (l : List UInt8) (h1 : d ≠ 1) (h2 : d ≠ 255) : keyP (0 :: d :: l) = none := by rw [keyP_two, if_neg (by simp), if_neg h1, if_neg h2]
theorem keyP_head : ∀ (k x : List UInt8), keyP (headL k ++ x) = some (k, x)
  | [], x => by
    show keyP (0 :: 1 :: x) = _
    rw [keyP_one]
  | c :: k, x => by
    have e : headL (c :: k) ++ x = repC c ++ (headL k ++ x) := by simp [headL, repL]
    rw [e]
    by_cases hc : c = 0
    · subst hc
      show keyP (0 :: 255 :: (headL k ++ x)) = _
      rw [keyP_zero, keyP_head k x]; rfl
    · rw [show repC c = [c] from by simp [repC, hc]]
      show keyP (c :: (headL k ++ x)) = _
      rw [keyP_cons hc, keyP_head k x]; rfl
/-- ahead of what is left xs is read -/
def pre (xs : List UInt8) (p : Option (List UInt8 × List UInt8)) : Option (List UInt8 × List UInt8) := p.map (fun p => (xs ++ p.1, p.2))
theorem pre_cons {l xs : List UInt8} {c : UInt8} (h : c ≠ 0) : pre xs (keyP (c :: l)) = pre (xs ++ [c]) (keyP l) := by
  unfold pre
  rw [keyP_cons h]
  cases keyP l <;> simp
theorem pre_zero {l xs : List UInt8} : pre xs (keyP (0 :: 255 :: l)) = pre (xs ++ [0]) (keyP l) := by
  unfold pre
  rw [keyP_zero]
  cases keyP l <;> simp
theorem pre_nil (p : Option (List UInt8 × List UInt8)) : pre [] p = p := by unfold pre; cases p <;> rfl
/-- what reader.key comes to -/
def KeyPost (w : World) (b : Nat) (p : Option (List UInt8 × List UInt8)) (e : Ending) (w' : World) : Prop :=
  match p with
  | some (k, r) => ∃ rs : ByteArray, e = .returned (.string ⟨k.toArray⟩) ∧ SB rs r ∧ Bl (w.setCell ⟨b, 0, none⟩ (.string rs)) w'
  | none => ∃ rs : ByteArray, e = kpanE ∧ Bl (w.setCell ⟨b, 0, none⟩ (.string rs)) w'
theorem ktake_one (b : Nat) (s : ByteArray) (c : UInt8) (l : List UInt8) (w : World) (hs : SB s (c :: l)) (hc : C1 w b (.string s)) :
    Calls Tryz.prog 143 #[.pointer (some ⟨b, 0, none⟩), .int .i64 1] w fun e w' => ∃ r : ByteArray, e = .returned (.string ⟨#[c]⟩) ∧ SB r l ∧ w' = w.setCell ⟨b, 0, none⟩ (.string r) := by
  refine (ktake_some b s (c :: l) 1 w hs hc (by simp)).mono ?_
  rintro e w' ⟨t, r, rfl, ht, hr, rfl⟩
  have ht1 : t = ⟨#[c]⟩ := SB.one (by simpa using ht)
  exact ⟨r, by rw [ht1], by simpa using hr, rfl⟩
set_option maxHeartbeats 3200000 in
set_option maxRecDepth 100000 in
theorem kkey_any (b : Nat) (s : ByteArray) (l : List UInt8) (w : World) (hs : SB s l) (hc : C1 w b (.string s)) (hz : s.size ≤ 1000000) :
    Calls Tryz.prog 102 #[.pointer (some ⟨b, 0, none⟩)] w (KeyPost w b (keyP l)) := by
  obtain ⟨i0, hi, hz0, hz1, hz2⟩ := info_parts info_byte
  have hbw := hc.lt
  have hlen := hs.size
  have hset := Bl.same hc
  go_enter Tryz.func102, Tryz.ntmps102
  go_wp2_with fail
  go_loopw [3] (fun v wr => ∃ (xs m : List UInt8) (rs : ByteArray), Hid (SB rs m) ∧ C1 wr b (.string rs) ∧ Hid (Bl (w.setCell ⟨b, 0, none⟩ (.string rs)) wr) ∧ OB w.heap.size wr v (numK xs) ∧ Hid (pre xs (keyP m) = keyP l) ∧ xs.length + m.length ≤ 1000000) (fun _ wr => cellLen wr b)
  case atStart => exact ⟨[], l, s, Lib.hid hs, hc, Lib.hid hset, OB.nil _ _, Lib.hid (pre_nil _), by simp; omega⟩
  case round =>
    obtain ⟨xs, m, rs, HS, hcr, HB, hown, HP, hl⟩ := hrel
    cases m with
    | nil =>
      have hzr : rs.size < 1 := by rw [HS.out.size]; simp
      go_wp2_with fail
      refine (ktake_none b rs 1 wr hcr hzr).mono ?_
      rintro e w1 ⟨rfl, rfl⟩
      have hkp : keyP l = none := by rw [← HP.out, keyP_nil]; rfl
      clear hown
      unfold kpanE
      go_wp2_with fail
      rw [hkp]
      exact ⟨rfl, rs, rfl, HB.out⟩
    | cons c m =>
      go_wp2_with fail
      refine (ktake_one b rs c m wr HS.out hcr).mono ?_
      rintro e w1 ⟨r1, rfl, hr1, rfl⟩
      have hi0 : (⟨#[c]⟩ : ByteArray)[0]'(by show 0 < 1; omega) = c := rfl
      rw [List.length_cons] at hl
      have hB1 := Bl.reset hc HB.out (b := .string r1)
      have hc1 := hcr.set (.string r1)
      have ho1 := hown.other hbw (j := 0) (u := .string r1)
      have hme : cellLen (wr.setCell ⟨b, 0, none⟩ (.string r1)) b < cellLen wr b := by
        rw [cellLen_of hc1, cellLen_of hcr, hr1.size, HS.out.size, List.length_cons]; omega
      have hsz := hB1.size
      rw [setCell_size] at hsz
      have HR1 := Lib.hid hr1
      have HM := Lib.hid hme
      have HB1 := Lib.hid hB1
      clear hr1 hme HB hown hcr hB1
      generalize wr.setCell ⟨b, 0, none⟩ (.string r1) = w1 at *
      by_cases hc0 : c = 0
      · subst hc0
        cases m with
        | nil =>
          have hkp : keyP l = none := by rw [← HP.out, keyP_sole]; rfl
          have hzr : r1.size < 1 := by rw [HR1.out.size]; simp
          go_wp2_with fail
          refine (ktake_none b r1 1 w1 hc1 hzr).mono ?_
          rintro e w2 ⟨rfl, rfl⟩
          unfold kpanE
          go_wp2_with fail
          rw [hkp]
          exact ⟨rfl, r1, rfl, HB1.out⟩
        | cons d m =>
          go_wp2_with fail
          refine (ktake_one b r1 d m w1 HR1.out hc1).mono ?_
          rintro e w2 ⟨r2, rfl, hr2, rfl⟩
          have hi1 : (⟨#[d]⟩ : ByteArray)[0]'(by show 0 < 1; omega) = d := rfl
          rw [List.length_cons] at hl
          have hB2 := Bl.reset hc HB1.out (b := .string r2)
          have hc2 := hc1.set (.string r2)
          have ho2 := ho1.other hbw (j := 0) (u := .string r2)
          have hme : cellLen (w1.setCell ⟨b, 0, none⟩ (.string r2)) b < cellLen wr b := by
            refine Nat.lt_trans ?_ HM.out
            rw [cellLen_of hc2, cellLen_of hc1, hr2.size, HR1.out.size, List.length_cons]; omega
          have hsz2 := hB2.size
          rw [setCell_size] at hsz2
          have HR2 := Lib.hid hr2
          have HM2 := Lib.hid hme
          have HB2 := Lib.hid hB2
          clear hr2 hme ho1 hc1 hB2 HB1 HM hsz
          generalize w1.setCell ⟨b, 0, none⟩ (.string r2) = w2 at *
          by_cases hd1 : d = 1
          · subst hd1
            have hkp : keyP l = some (xs, m) := by rw [← HP.out, keyP_one]; simp [pre]
            obtain ⟨h1, ⟨h2, h3⟩ | ⟨g, cap, cur, hv, hgB, hh, hcap, hmx, hcs, htk⟩⟩ := ho2
            · subst h2
              have hxs : xs = [] := List.length_eq_zero_iff.1 (by rw [← numK_len]; exact h3)
              clear h1 h3
              subst hxs
              have hst := run_convert_bytes_nil (P := Tryz.prog) (w := w2) 66 5 Tryz.underlying66 Tryz.underlying5 0 0 9 Tryz.underlying9
              go_wp2_with fail
              go_ret
              rw [hkp]
              exact ⟨r2, rfl, HR2.out, HB2.out⟩
            · subst hv
              have ho3 : OB w.heap.size w2 (.slice (some ⟨g, 0, none⟩) (numK xs).length cap) (numK xs) := ⟨h1, .inr ⟨g, cap, cur, rfl, hgB, hh, hcap, hmx, hcs, htk⟩⟩
              have hst := OB.string ho3 rfl
              clear h1 hh hcap hmx hcs htk hgB
              go_wp2_with fail
              go_ret
              rw [hkp]
              exact ⟨r2, by rw [str_numK]; rfl, HR2.out, HB2.out⟩
          · by_cases hd2 : d = 255
            · subst hd2
              have HP2 : Hid (pre (xs ++ [0]) (keyP m) = keyP l) := Lib.hid (by rw [← pre_zero]; exact HP.out)
              clear HP hd1
              go_wp2_with (at_builtin; refine wpList_append_own _ rfl _ _ 66 rfl (w.heap.size) 5 i0 (.int .u8 0) 1 1 Tryz.underlying66 hi hz0 hz1 hz2 rfl (by decide) _ _ _ rfl (World.ownsRow.alloc ho2 _) ⟨w2.heap.size, 0, none⟩ 1 1 (([(0 : Int)] : List Int).map (Value.int .u8)) rfl rfl ?c1 ?c2 ?c3 ?c4 ?c5 ?_)
              case c1 => exact World.news_of_block (heap_alloc_new _ _)
              case c2 => intro u hu; simp at hu; rcases hu with rfl <;> rfl
              case c3 => rw [numK_len]; unfold maxLen; omega
              case c4 => rw [numK_len]; omega
              case c5 => simp; omega
              intro v' w3 hown' hgrow _
              obtain ⟨R1, R2⟩ := OB.push2 HB2.out (by rw [setCell_size]) ho2 hown' hgrow
              clear hown' hgrow
              have RC := (C1.set hc (.string r2)).keep R2
              go_wp2_with fail
              go_roundw
              case rel => exact ⟨xs ++ [0], m, r2, HR2, RC, Lib.hid R2, by rw [numK_push]; exact R1, HP2, by simp; omega⟩
              case measure => rw [cellLen_of RC, ← cellLen_of hc2]; exact HM2.out
            · have hkp : keyP l = none := by rw [← HP.out, keyP_bad m hd1 hd2]; rfl
              have q1 : ((d.toNat : Int) == 1) = false := by
                have : d.toNat ≠ 1 := fun e => hd1 (UInt8.toNat_inj.1 (by rw [e]; rfl))
                simp; omega
              have q2 : ((d.toNat : Int) == 255) = false := by
                have : d.toNat ≠ 255 := fun e => hd2 (UInt8.toNat_inj.1 (by rw [e]; rfl))
                simp; omega
              clear hd1 hd2 ho2
              go_wp2_with fail
              rw [hkp]
              exact ⟨rfl, r2, rfl, HB2.out⟩
      · have hk : ((c.toNat : Int) != 0) = true := by
          have : c.toNat ≠ 0 := fun e => hc0 (UInt8.toNat_inj.1 (by rw [e]; rfl))
          simp; omega
        have HP2 : Hid (pre (xs ++ [c]) (keyP m) = keyP l) := Lib.hid (by rw [← pre_cons hc0]; exact HP.out)
        clear HP
        go_wp2_with (at_builtin; refine wpList_append_own _ rfl _ _ 66 rfl (w.heap.size) 5 i0 (.int .u8 0) 1 1 Tryz.underlying66 hi hz0 hz1 hz2 rfl (by decide) _ _ _ rfl (World.ownsRow.alloc ho1 _) ⟨w1.heap.size, 0, none⟩ 1 1 (([(c.toNat : Int)] : List Int).map (Value.int .u8)) rfl rfl ?c1 ?c2 ?c3 ?c4 ?c5 ?_)
        case c1 => exact World.news_of_block (heap_alloc_new _ _)
        case c2 => intro u hu; simp at hu; rcases hu with rfl <;> rfl
        case c3 => rw [numK_len]; unfold maxLen; omega
        case c4 => rw [numK_len]; omega
        case c5 => simp; omega
        intro v' w3 hown' hgrow _
        obtain ⟨R1, R2⟩ := OB.push2 HB1.out (by rw [setCell_size]) ho1 hown' hgrow
        clear hown' hgrow
        have RC := (C1.set hc (.string r1)).keep R2
        go_wp2_with fail
        go_roundw
        case rel => exact ⟨xs ++ [c], m, r1, HR1, RC, Lib.hid R2, by rw [numK_push]; exact R1, HP2, by simp; omega⟩
        case measure => rw [cellLen_of RC, ← cellLen_of hc1]; exact HM.out
end Go.Proofs.YtkgpkkdcadkpmaaGreatDoor
end

/- a block that is filled anew, cell by cell. By an AI agent. -/
section
namespace Go.Proofs.YtkgpkkdcadkpmaaGreatDoor
open Go.RowKit

theorem IA.apart {w : World} {a : Option Addr} {n : Nat} {xs : List Int} (h : IA w a n xs) {q : Nat} (hq : ∀ b off, a = some ⟨b, off, none⟩ → n = 0 ∨ b ≠ q) (j : Nat) (u : Value) : IA (w.setCell ⟨q, j, none⟩ u) a n xs := by
  refine ⟨h.len, h.cap, fun i hi => ?_, h.wf⟩
  obtain ⟨b, off, e, hc⟩ := h.cells i hi
  refine ⟨b, off, e, fun i hi => ?_⟩
  have hne : b ≠ q := by
    have := hq b off e
    omega
  rw [← hc i hi]
  unfold World.cell?
  rw [Below.heap_setCell _ _ _ _ hne]
theorem IA.block {w : World} {a : Option Addr} {n : Nat} {xs : List Int} (h : IA w a n xs) : ∀ b off, a = some ⟨b, off, none⟩ → n = 0 ∨ b < w.heap.size := by
  intro b off e
  by_cases hn : n = 0
  · exact .inl hn
  · obtain ⟨b', off', e', hc⟩ := h.cells 0 (by omega)
    rw [e] at e'
    cases e'
    exact .inr (World.block_lt_of_cell? _ _ (hc 0 (by omega)))
end Go.Proofs.YtkgpkkdcadkpmaaGreatDoor
end

/- an own slice of ints among boxes that turn. By an AI agent. -/
section
set_option linter.unusedVariables false
namespace Go.Proofs.YtkgpkkdcadkpmaaGreatDoor
open Go.RowKit

/-- an own slice, in parts -/
def FarO (B : Nat) (w : World) (a : Option Addr) (n ca : Nat) (xs : List Int) : Prop := FI B w (.slice a n ca) xs
theorem FarO.nil (B : Nat) (w : World) : FarO B w none 0 0 [] := FI.nil B w
theorem FarO.keep {B : Nat} {w w' : World} {a : Option Addr} {n ca : Nat} {xs : List Int} (h : FarO B w a n ca xs) (hb : Bl w w') : FarO B w' a n ca xs := FI.keep h hb
theorem FarO.block {B : Nat} {w : World} {a : Option Addr} {n ca : Nat} {xs : List Int} (h : FarO B w a n ca xs) : ∀ b off, a = some ⟨b, off, none⟩ → B ≤ b ∧ b < w.heap.size := by
  intro b off e
  obtain ⟨-, ⟨h1, -⟩ | ⟨g, cap, cur, hv, hB, hg, -⟩⟩ := h.own
  · cases h1; cases e
  · cases hv
    cases e
    exact ⟨hB, lt_of_heap hg⟩
theorem FarO.apart {B : Nat} {w : World} {a : Option Addr} {n ca : Nat} {xs : List Int} (h : FarO B w a n ca xs) {q : Nat} (hq : ∀ b off, a = some ⟨b, off, none⟩ → b ≠ q) (j : Nat) (u : Value) : FarO B (w.setCell ⟨q, j, none⟩ u) a n ca xs := by
  refine ⟨?_, h.cap, h.wf⟩
  obtain ⟨h1, h2 | ⟨g, cap, cur, hv, hB, hg, r⟩⟩ := h.own
  · exact ⟨h1, .inl h2⟩
  · have hne : g ≠ q := by
      cases hv
      exact hq g 0 rfl
    exact ⟨h1, .inr ⟨g, cap, cur, hv, hB, by rw [Below.heap_setCell _ _ _ _ hne]; exact hg, r⟩⟩
theorem FarO.mono {B B' : Nat} {w : World} {a : Option Addr} {n ca : Nat} {xs : List Int} (h : FarO B w a n ca xs) (hB : B' ≤ B) : FarO B' w a n ca xs := by
  refine ⟨?_, h.cap, h.wf⟩
  obtain ⟨h1, h2 | ⟨g, cap, cur, hv, hB2, r⟩⟩ := h.own
  · exact ⟨h1, .inl h2⟩
  · exact ⟨h1, .inr ⟨g, cap, cur, hv, Nat.le_trans hB hB2, r⟩⟩
theorem FarO.set {B : Nat} {w : World} {a : Option Addr} {n ca : Nat} {xs : List Int} (h : FarO B w a n ca xs) {q : Nat} (hq : q < B) (j : Nat) (u : Value) : FarO B (w.setCell ⟨q, j, none⟩ u) a n ca xs :=
  h.apart (fun b off e => by have := h.block b off e; omega) j u
theorem FarO.far {B : Nat} {w : World} {a : Option Addr} {n ca : Nat} {xs : List Int} (h : FarO B w a n ca xs) : FarIA B w a n xs := FI.far h
end Go.Proofs.YtkgpkkdcadkpmaaGreatDoor
end

/- vec.Get of any bytes: an own vector. By an AI agent. -/
section
set_option linter.unusedVariables false
namespace Go.Proofs.YtkgpkkdcadkpmaaGreatDoor
open Go.RowKit Go.Shelf

theorem vget_allO (s : ByteArray) (l : List UInt8) (w : World) (hs : SB s l) (hz : l.length ≤ 2000000) :
    Calls Tryz.prog 104 #[.string s] w fun e w' => ∃ (a : Option Addr) (n ca : Nat) (xs : List Int) (k c : Int), e = .returned (.tuple #[.slice a n ca, .int .i64 k, .int .i64 c]) ∧ Bl w w' ∧ (c = 0 ∨ c = 3 ∨ c = 4) ∧ FarO w.heap.size w' a n ca xs ∧
      ∀ ys, validL ys = true → l = putL ys → c = 0 ∧ xs = ys := by
  by_cases h0 : s.size = 0
  · refine (vget_none s w h0).mono ?_
    rintro e w' ⟨rfl, hb⟩
    refine ⟨none, 0, 0, [], 0, 3, rfl, hb, .inr (.inl rfl), FarO.nil _ _, fun ys _ hl => ?_⟩
    rw [hs.size, hl] at h0
    simp [putL] at h0
  · have hl1 : 1 ≤ l.length := by rw [← hs.size]; omega
    cases l with
    | nil => simp at hl1
    | cons d l =>
      have hh : (d :: l).head?.map (·.toNat) = some d.toNat := rfl
      have hput : ∀ ys, validL ys = true → d :: l = putL ys → d.toNat = ys.length ∧ ys.length ≤ 8 ∧ 1 ≤ ys.length := by
        intro ys hy e
        have hv := valid_parts hy
        have := put_head ys [] hv.2.1
        rw [List.append_nil, ← e] at this
        exact ⟨by simpa using this, hv.2.1, hv.1⟩
      by_cases hf : d.toNat < 1 ∨ 8 < d.toNat
      · refine (vget_form s (d :: l) d.toNat w hs hl1 hh hf).mono ?_
        rintro e w' ⟨rfl, hb⟩
        refine ⟨none, 0, 0, [], 0, 4, rfl, hb, .inr (.inr rfl), FarO.nil _ _, fun ys hy hl => ?_⟩
        have := hput ys hy hl
        omega
      · refine (vget_loop s (d :: l) d.toNat w hs hz hl1 hh (by omega)).mono ?_
        intro e w' hp
        unfold GetPost at hp
        split at hp
        · obtain ⟨v, rfl, hfi, hb⟩ := hp
          obtain ⟨a, n, ca, rfl, hI⟩ := hfi.si
          refine ⟨a, n, ca, _, _, 0, rfl, hb, .inl rfl, hfi, fun ys hy hl => ⟨rfl, ?_⟩⟩
          have h3 := hput ys hy hl
          have h4 := vals_put ys [] (valid_parts hy).2.2
          have h5 := putL_drop ys []
          rw [List.append_nil] at h5
          rw [hl, h5, h3.1, h4]
        · obtain ⟨rfl, hb⟩ := hp
          refine ⟨none, 0, 0, [], 0, 3, rfl, hb, .inr (.inl rfl), FarO.nil _ _, fun ys hy hl => ?_⟩
          have := hput ys hy hl
          rename_i hno
          rw [hl, putL_len] at hno
          omega
end Go.Proofs.YtkgpkkdcadkpmaaGreatDoor
end
