/- ikey.read. By an AI agent. -/
import Derived.Test.YtgdlcoicejgdkaaDoorIkeyR
namespace Go.Proofs.YtgdlcoicejgdkaaDoor
open Go.RowKit

/-- the plain way back of numbers -/
theorem getN_put6 (x : Int) (h0 : 0 ≤ x) (h1 : x < 281474976710656) : getN (bytesN (putN x 6 6)) = x := by
  have e : putN x 6 6 = [x / 1099511627776 % 256, x / 4294967296 % 256, x / 16777216 % 256, x / 65536 % 256, x / 256 % 256, x % 256] := by
    simp [putN, byteAt, List.range, List.range.loop]
  rw [e]
  simp only [bytesN, List.map_cons, List.map_nil, getN, List.foldl_cons, List.foldl_nil]
  have hb : ∀ y : Int, ((UInt8.ofNat (y % 256).toNat).toNat : Int) = y % 256 := by
    intro y
    simp; omega
  simp only [hb]
  omega
theorem getN_put1 (x : Int) (h0 : 0 ≤ x) (h1 : x < 256) : getN (putB x 1) = x := by
  have e : putN x 1 1 = [x % 256] := by simp [putN, byteAt, List.range, List.range.loop]
  unfold putB
  rw [e]
  simp only [bytesN, List.map_cons, List.map_nil, getN, List.foldl_cons, List.foldl_nil]
  have hb : ∀ y : Int, ((UInt8.ofNat (y % 256).toNat).toNat : Int) = y % 256 := by
    intro y
    simp; omega
  rw [hb]; omega
theorem putBodyL_cons (x : Int) (xs : List Int) : putBodyL (x :: xs) = bytesN (putN x 6 6) ++ putBodyL xs := by simp [putBodyL]
theorem len6 (x : Int) : (bytesN (putN x 6 6)).length = 6 := by rw [bytesN_len, putN_len]
theorem body_drop (xs : List Int) (more : List UInt8) (j : Nat) (hj : j ≤ xs.length) : (putBodyL xs ++ more).drop (6 * j) = putBodyL (xs.drop j) ++ more := by
  induction j generalizing xs with
  | zero => simp
  | succ j ih =>
    cases xs with
    | nil => simp at hj
    | cons x xs =>
      rw [putBodyL_cons, List.append_assoc, show 6 * (j + 1) = 6 + 6 * j by omega, ← List.drop_drop, List.drop_left' (len6 x), ih xs (by simpa using hj)]
      simp
theorem vals_put (xs : List Int) (more : List UInt8) (hw : ∀ j, j < xs.length → 0 ≤ nth xs j ∧ nth xs j < 281474976710656) : valsL xs.length (putBodyL xs ++ more) = xs := by
  refine getD_ext (valsL_len _ _) fun j hj => ?_
  rw [valsL_len] at hj
  have h1 : nth (valsL xs.length (putBodyL xs ++ more)) j = getN (((putBodyL xs ++ more).drop (6 * j)).take 6) := by
    rw [nth_eq (by rw [valsL_len]; exact hj)]; simp [valsL]
  rw [h1, body_drop xs more j (by omega), List.drop_eq_getElem_cons hj, putBodyL_cons, List.append_assoc, List.take_left' (len6 _), ← nth_eq hj]
  have := hw j hj
  exact getN_put6 _ this.1 this.2
theorem put_head (xs : List Int) (more : List UInt8) (h : xs.length ≤ 8) : (putL xs ++ more).head?.map (·.toNat) = some xs.length := by
  simp [putL]; omega
theorem putL_drop (xs : List Int) (more : List UInt8) : (putL xs ++ more).drop 1 = putBodyL xs ++ more := by simp [putL]

/-- a slice that lies from block B on -/
def FarIA (B : Nat) (w : World) (a : Option Addr) (n : Nat) (xs : List Int) : Prop := IA w a n xs ∧ ∀ b off, a = some ⟨b, off, none⟩ → n = 0 ∨ B ≤ b
theorem FarIA.nil (B : Nat) (w : World) : FarIA B w none 0 [] := ⟨IA.nil _ _, fun _ _ _ => .inl rfl⟩
theorem FarIA.keep {B : Nat} {w w' : World} {a : Option Addr} {n : Nat} {xs : List Int} (h : FarIA B w a n xs) (hb : Bl w w') : FarIA B w' a n xs := ⟨h.1.keep hb, h.2⟩
theorem FarIA.mono {B B' : Nat} {w : World} {a : Option Addr} {n : Nat} {xs : List Int} (h : FarIA B w a n xs) (hB : B' ≤ B) : FarIA B' w a n xs :=
  ⟨h.1, fun b off e => by have := h.2 b off e; omega⟩
theorem FarIA.set {B : Nat} {w : World} {a : Option Addr} {n : Nat} {xs : List Int} (h : FarIA B w a n xs) {q : Nat} (hq : q < B) (j : Nat) (u : Value) : FarIA B (w.setCell ⟨q, j, none⟩ u) a n xs := by
  refine ⟨⟨h.1.len, h.1.cap, fun i hi => ?_, h.1.wf⟩, h.2⟩
  obtain ⟨b, off, e, hc⟩ := h.1.cells i hi
  refine ⟨b, off, e, fun i hi => ?_⟩
  have hne : b ≠ q := by
    have := h.2 b off e
    omega
  rw [← hc i hi]
  unfold World.cell?
  rw [Below.heap_setCell _ _ _ _ hne]
theorem FI.far {B : Nat} {w : World} {a : Option Addr} {n ca : Nat} {xs : List Int} (h : FI B w (.slice a n ca) xs) : FarIA B w a n xs := by
  obtain ⟨a', n', ca', e, hI⟩ := h.si
  cases e
  refine ⟨hI, fun b off e => ?_⟩
  obtain ⟨-, ⟨h1, -⟩ | ⟨g, cap, cur, hv, hB, -⟩⟩ := h.own
  · cases h1; cases e
  · cases hv
    cases e
    exact .inr hB
/-- vec.Get, whatever the bytes are -/
theorem vget_all (s : ByteArray) (l : List UInt8) (w : World) (hs : SB s l) (hz : l.length ≤ 1000000) :
    Calls Tryd.prog 126 #[.string s] w fun e w' => ∃ (a : Option Addr) (n ca : Nat) (xs : List Int) (k c : Int), e = .returned (.tuple #[.slice a n ca, .int .i64 k, .int .i64 c]) ∧ Bl w w' ∧ (c = 0 ∨ c = 3 ∨ c = 4) ∧ FarIA w.heap.size w' a n xs ∧
      ∀ ys, validL ys = true → l = putL ys → c = 0 ∧ xs = ys := by
  by_cases h0 : s.size = 0
  · refine (vget_none s w h0).mono ?_
    rintro e w' ⟨rfl, hb⟩
    refine ⟨none, 0, 0, [], 0, 3, rfl, hb, .inr (.inl rfl), FarIA.nil _ _, fun ys _ hl => ?_⟩
    rw [hs.size, hl] at h0
    simp [putL] at h0
  · have hl1 : 1 ≤ l.length := by rw [← hs.size]; omega
    cases l with
    | nil => simp at hl1
    | cons d l =>
      have hh : (d :: l).head?.map (·.toNat) = some d.toNat := rfl
      have hput : ∀ ys, validL ys = true → d :: l = putL ys → d.toNat = ys.length ∧ ys.length ≤ 8 ∧ 1 ≤ ys.length := by
        intro ys hy e
        have hv := valid_parts hy
        have := put_head ys [] hv.2.1
        rw [List.append_nil, ← e] at this
        exact ⟨by simpa using this, hv.2.1, hv.1⟩
      by_cases hf : d.toNat < 1 ∨ 8 < d.toNat
      · refine (vget_form s (d :: l) d.toNat w hs hl1 hh hf).mono ?_
        rintro e w' ⟨rfl, hb⟩
        refine ⟨none, 0, 0, [], 0, 4, rfl, hb, .inr (.inr rfl), FarIA.nil _ _, fun ys hy hl => ?_⟩
        have := hput ys hy hl
        omega
      · refine (vget_loop s (d :: l) d.toNat w hs hz hl1 hh (by omega)).mono ?_
        intro e w' hp
        unfold GetPost at hp
        split at hp
        · obtain ⟨v, rfl, hfi, hb⟩ := hp
          obtain ⟨a, n, ca, rfl, hI⟩ := hfi.si
          refine ⟨a, n, ca, _, _, 0, rfl, hb, .inl rfl, hfi.far, fun ys hy hl => ⟨rfl, ?_⟩⟩
          have h3 := hput ys hy hl
          have h4 := vals_put ys [] (valid_parts hy).2.2
          have h5 := putL_drop ys []
          rw [List.append_nil] at h5
          rw [hl, h5, h3.1, h4]
        · obtain ⟨rfl, hb⟩ := hp
          refine ⟨none, 0, 0, [], 0, 3, rfl, hb, .inr (.inl rfl), FarIA.nil _ _, fun ys hy hl => ?_⟩
          have := hput ys hy hl
          rename_i hno
          rw [hl, putL_len] at hno
          omega
/-- what a version's bytes are made of -/
theorem put_parts {V : VerL} {l : List UInt8} (hv : ValidK V) (h : putK V = l) : ∃ r : List UInt8, keyP l = some (V.key.data.toList, r) ∧ 6 ≤ r.length ∧ 1 ≤ (r.drop 6).length ∧ 6 ≤ ((r.drop 6).drop 1).length ∧
    255 - getN ((r.drop 6).take 1) = V.origin ∧ 281474976710655 - getN (((r.drop 6).drop 1).take 6) = V.tx ∧ ((r.drop 6).drop 1).drop 6 = putL V.at_ := by
  have d1 : (tailK V).drop 6 = putB (255 - V.origin) 1 ++ (putB (281474976710655 - V.tx) 6 ++ putL V.at_) := List.drop_left' (putB_len _ _)
  have d2 : (putB (255 - V.origin) 1 ++ (putB (281474976710655 - V.tx) 6 ++ putL V.at_)).drop 1 = putB (281474976710655 - V.tx) 6 ++ putL V.at_ := List.drop_left' (putB_len _ _)
  have hl : (tailK V).length = 13 + (putL V.at_).length := by
    unfold tailK
    simp only [List.length_append, putB_len]; omega
  have h1 := hv.o0
  have h2 := hv.o255
  have h3 := hv.t0
  have h4 := hv.t1
  refine ⟨tailK V, by rw [← h]; exact keyP_head _ _, by omega, by rw [List.length_drop]; omega, by rw [List.length_drop, List.length_drop]; omega, ?_, ?_, ?_⟩
  · rw [d1, List.take_left' (putB_len _ _), getN_put1 _ (by omega) (by omega)]; omega
  · rw [d1, d2, List.take_left' (putB_len _ _), show putB (281474976710655 - V.tx) 6 = bytesN (putN (281474976710655 - V.tx) 6 6) from rfl, getN_put6 _ (by omega) (by omega)]; omega
  · rw [d1, d2, List.drop_left' (putB_len _ _)]
theorem put_same (V : VerL) (key : ByteArray) (xs : List Int) (o t : Int) (A : ActL) (hk : V.key.data.toList = key.data.toList) (h1 : xs = V.at_) (h2 : o = V.origin) (h3 : t = V.tx) :
    validK V = validK ⟨key, xs, o, t, A⟩ ∧ putK V = putK ⟨key, xs, o, t, A⟩ := by
  have e : V.key = key := ByteArray.ext (Array.toList_inj.1 hk)
  subst e; subst h1; subst h2; subst h3
  exact ⟨rfl, rfl⟩
theorem getN1_bound (l : List UInt8) : 0 ≤ getN (l.take 1) ∧ getN (l.take 1) ≤ 255 := by
  cases l with
  | nil => simp [getN]
  | cons c l =>
    have := UInt8.toNat_lt c
    simp [getN]; omega
theorem keyP_len : ∀ (n : Nat) (l k r : List UInt8), l.length ≤ n → keyP l = some (k, r) → k.length + r.length ≤ l.length
  | 0, l, k, r, hn, h => by
    have : l = [] := List.length_eq_zero_iff.1 (by omega)
    subst this
    rw [keyP_nil] at h; cases h
  | n + 1, [], k, r, _, h => by rw [keyP_nil] at h; cases h
  | n + 1, [_], k, r, _, h => by rw [keyP_sole] at h; cases h
  | n + 1, c :: d :: l, k, r, hn, h => by
    rw [keyP_two] at h
    simp only [List.length_cons] at hn ⊢
    split at h
    · cases hp : keyP (d :: l) with
      | none => rw [hp] at h; cases h
      | some p =>
        rw [hp] at h
        have := keyP_len n (d :: l) p.1 p.2 (by simp; omega) hp
        simp at h this
        rw [← h.1, ← h.2]; simp; omega
    · split at h
      · simp at h
        rw [h.1, ← h.2]; simp; omega
      · split at h
        · cases hp : keyP l with
          | none => rw [hp] at h; cases h
          | some p =>
            rw [hp] at h
            have := keyP_len n l p.1 p.2 (by omega) hp
            simp at h this
            rw [← h.1, ← h.2]; simp; omega
        · cases h
/-- what ikey.read comes to -/
def RdPost (w : World) (l : List UInt8) (e : Ending) (w' : World) : Prop :=
  (∃ (key : ByteArray) (a : Option Addr) (n ca : Nat) (xs : List Int) (o t : Int), e = .returned (.agg #[.string key, .slice a n ca, .int .i64 o, .int .i64 t, .int .i64 0, .float .f64 0, .int .i64 0, .string ⟨#[]⟩]) ∧ FarIA w.heap.size w' a n xs ∧ Bl w w' ∧
    ValidK ⟨key, xs, o, t, ⟨0, 0, 0, ⟨#[]⟩⟩⟩ ∧ putK ⟨key, xs, o, t, ⟨0, 0, 0, ⟨#[]⟩⟩⟩ = l) ∨
  (e = kpanE ∧ Bl w w' ∧ ∀ V, ValidK V → putK V ≠ l)

theorem AC.setj {w : World} {g : Nat} {cs : List Value} (h : AC w g cs) (j : Nat) (v : Value) : AC (w.setCell ⟨g, j, none⟩ v) g (cs.set j v) := by
  obtain ⟨t, h⟩ := h
  exact ⟨t, by rw [heap_setCell_same w g j _ t v h]; simp⟩
theorem C1.otherj {w : World} {g g' j : Nat} {v u : Value} (h : C1 w g v) (hn : g ≠ g') : C1 (w.setCell ⟨g', j, none⟩ u) g v := by
  obtain ⟨t, h⟩ := h
  exact ⟨t, by rw [Below.heap_setCell _ _ _ _ hn]; exact h⟩
def zeroV : List Value := [.string ⟨#[]⟩, .slice none 0 0, .int .i64 0, .int .i64 0, .int .i64 0, .float .f64 0, .int .i64 0, .string ⟨#[]⟩]
/-- ikey.read's three boxes -/
structure RS (w : World) (g : Nat) (W : World) (rs : ByteArray) (cs : List Value) : Prop where
  base : g = w.heap.size
  bl : Bl w W
  c2 : AC W g zeroV
  c3 : C1 W (g + 1) (.string rs)
  c4 : AC W (g + 1 + 1) cs
theorem RS.keep {w : World} {g : Nat} {W W' : World} {rs : ByteArray} {cs : List Value} (h : RS w g W rs cs) (hb : Bl W W') : RS w g W' rs cs :=
  ⟨h.base, h.bl.trans hb, h.c2.keep hb, h.c3.keep hb, h.c4.keep hb⟩
theorem RS.set {w : World} {g : Nat} {W : World} {rs : ByteArray} {cs : List Value} (h : RS w g W rs cs) (r : ByteArray) : RS w g (W.setCell ⟨g + 1, 0, none⟩ (.string r)) r cs :=
  ⟨h.base, h.bl.setCell (p := ⟨g + 1, 0, none⟩) (by show w.heap.size ≤ g + 1; rw [h.base]; omega) _, h.c2.other (by omega), h.c3.set _, h.c4.other (by omega)⟩
theorem RS.put {w : World} {g : Nat} {W : World} {rs : ByteArray} {cs : List Value} (h : RS w g W rs cs) (j : Nat) (v : Value) : RS w g (W.setCell ⟨g + 1 + 1, j, none⟩ v) rs (cs.set j v) :=
  ⟨h.base, h.bl.setCell (p := ⟨g + 1 + 1, j, none⟩) (by show w.heap.size ≤ g + 1 + 1; rw [h.base]; omega) _, h.c2.other (by omega), h.c3.otherj (by omega), h.c4.setj j v⟩

theorem kread_results {tmps : Array Value} {W : World} {g : Nat} {c0 c1 c2 c3 c4 c5 c6 c7 : Value} (h : tmps.getD 2 undef = .pointer (some ⟨g, 0, none⟩)) (hc : AC W g [c0, c1, c2, c3, c4, c5, c6, c7]) :
    (results Tryd.f76 tmps).run Tryd.prog W = .ok (.agg #[c0, c1, c2, c3, c4, c5, c6, c7]) W := by
  have d0 := hc.cell 0 _ rfl
  have d1 := hc.cell 1 _ rfl
  have d2 := hc.cell 2 _ rfl
  have d3 := hc.cell 3 _ rfl
  have d4 := hc.cell 4 _ rfl
  have d5 := hc.cell 5 _ rfl
  have d6 := hc.cell 6 _ rfl
  have d7 := hc.cell 7 _ rfl
  rw [Array.getD_eq_getD_getElem?] at h
  simp [results, Tryd.results76, go_sem, h, d0, d1, d2, d3, d4, d5, d6, d7]
theorem RS.start (w : World) (s : ByteArray) : RS w w.heap.size (((w.alloc (.cells #[.string ⟨#[]⟩, .slice none 0 0, .int .i64 0, .int .i64 0, .int .i64 0, .float .f64 0, .int .i64 0, .string ⟨#[]⟩] 30)).alloc (.cells #[.string s] 126)).alloc
    (.cells #[.string ⟨#[]⟩, .slice none 0 0, .int .i64 0, .int .i64 0, .int .i64 0, .float .f64 0, .int .i64 0, .string ⟨#[]⟩] 30)) s zeroV :=
  have b0 := Bl.refl w
  ⟨rfl, ((b0.alloc _).alloc _).alloc _, ((AC.new w _ rfl zeroV _).keep ((Bl.refl _).alloc _)).keep ((Bl.refl _).alloc _), (C1.new _ (w.heap.size + 1) (by simp) (.string s) _).alloc _, AC.new _ (w.heap.size + 1 + 1) (by simp) zeroV _⟩

set_option maxHeartbeats 3200000 in
set_option maxRecDepth 100000 in
theorem kread_any (s : ByteArray) (l : List UInt8) (w : World) (hs : SB s l) (hz : l.length ≤ 1000000) :
    Calls Tryd.prog 76 #[.string s] w (RdPost w l) := by
  have hsf := store_float
  go_enter Tryd.func76, Tryd.ntmps76
  go_wp2_with fail
  have R0 := RS.start w s
  generalize w.heap.size = g at *
  generalize ((w.alloc _).alloc _).alloc _ = W0 at *
  refine (kkey_any (g + 1) s l W0 hs R0.c3 (by rw [hs.size]; exact hz)).mono ?_
  intro e W1 hp
  unfold KeyPost at hp
  cases hkp : keyP l with
  | none =>
    rw [hkp] at hp
    obtain ⟨rs, rfl, hb⟩ := hp
    have R1 := (R0.set rs).keep hb
    unfold kpanE
    go_wp2_with fail
    refine ⟨rfl, .inr ⟨rfl, R1.bl, fun V hv h => ?_⟩⟩
    obtain ⟨r, h1, -⟩ := put_parts hv h
    rw [hkp] at h1; cases h1
  | some p =>
    obtain ⟨k, r⟩ := p
    rw [hkp] at hp
    obtain ⟨rs, rfl, hrs, hb⟩ := hp
    have R1 := (R0.set rs).keep hb
    clear hb R0
    have f4 := R1.c4.frozen 0
    have q4 := R1.c4.cell 0 _ rfl
    go_wp2_with fail
    have hlen := keyP_len _ l k r (Nat.le_refl _) hkp
    have R2 := R1.put 0 (.string ⟨k.toArray⟩)
    have HS := Lib.hid hs
    clear R1 f4 q4 hs
    generalize W1.setCell ⟨g + 1 + 1, 0, none⟩ (.string ⟨k.toArray⟩) = W2 at *
    have hno : ∀ V, ValidK V → putK V = l → 6 ≤ r.length ∧ 1 ≤ (r.drop 6).length ∧ 6 ≤ ((r.drop 6).drop 1).length ∧ V.key.data.toList = k ∧
      255 - getN ((r.drop 6).take 1) = V.origin ∧ 281474976710655 - getN (((r.drop 6).drop 1).take 6) = V.tx ∧ ((r.drop 6).drop 1).drop 6 = putL V.at_ := by
      intro V hv h
      obtain ⟨r', h1, h2⟩ := put_parts hv h
      rw [hkp] at h1
      simp only [Option.some.injEq, Prod.mk.injEq] at h1
      obtain ⟨e1, e2⟩ := h1
      subst e2
      exact ⟨h2.1, h2.2.1, h2.2.2.1, e1.symm, h2.2.2.2.1, h2.2.2.2.2.1, h2.2.2.2.2.2⟩
    have HNO := Lib.hid hno
    clear hno hkp
    by_cases g6 : r.length < 6
    · refine (knum_none (g + 1) rs 6 W2 R2.c3 (by rw [hrs.size]; exact g6)).mono ?_
      rintro e w2 ⟨rfl, rfl⟩
      unfold kpanE
      go_wp2_with fail
      refine ⟨rfl, .inr ⟨rfl, R2.bl, fun V hv h => ?_⟩⟩
      have := (HNO.out V hv h).1
      omega
    · refine (knum_some (g + 1) rs r 6 W2 hrs R2.c3 (by omega) (by decide) (by decide)).mono ?_
      rintro e w2 ⟨rs3, rfl, hr3, rfl⟩
      have R3 := R2.set rs3
      clear R2 hrs
      have HNO := Lib.hid (fun V hv h => (HNO.out V hv h).2)
      generalize W2.setCell ⟨g + 1, 0, none⟩ (.string rs3) = W3 at *
      have hl3 : (r.drop 6).length ≤ l.length := by rw [List.length_drop]; omega
      generalize r.drop 6 = r3 at *
      generalize getN (r.take 6) = n6
      go_wp2_with fail
      by_cases g1 : r3.length < 1
      · refine (knum_none (g + 1) rs3 1 W3 R3.c3 (by rw [hr3.size]; exact g1)).mono ?_
        rintro e w2 ⟨rfl, rfl⟩
        unfold kpanE
        go_wp2_with fail
        refine ⟨rfl, .inr ⟨rfl, R3.bl, fun V hv h => ?_⟩⟩
        have := (HNO.out V hv h).1
        omega
      · refine (knum_some (g + 1) rs3 r3 1 W3 hr3 R3.c3 (by omega) (by decide) (by decide)).mono ?_
        rintro e w2 ⟨rs4, rfl, hr4, rfl⟩
        have R4 := R3.set rs4
        clear R3 hr3
        have HNO := Lib.hid (fun V hv h => (HNO.out V hv h).2)
        generalize W3.setCell ⟨g + 1, 0, none⟩ (.string rs4) = W4 at *
        have hl4 : (r3.drop 1).length ≤ l.length := by rw [List.length_drop]; omega
        have ho := getN1_bound r3
        generalize r3.drop 1 = r4 at *
        generalize getN (r3.take 1) = o at *
        have f4 := R4.c4.frozen 2
        have q4 := R4.c4.cell 2 _ rfl
        go_wp2_with fail
        have R5 := R4.put 2 (.int .i64 (255 - o))
        clear R4 f4 q4
        generalize W4.setCell ⟨g + 1 + 1, 2, none⟩ (.int .i64 (255 - o)) = W5 at *
        by_cases g7 : r4.length < 6
        · refine (knum_none (g + 1) rs4 6 W5 R5.c3 (by rw [hr4.size]; exact g7)).mono ?_
          rintro e w2 ⟨rfl, rfl⟩
          unfold kpanE
          go_wp2_with fail
          refine ⟨rfl, .inr ⟨rfl, R5.bl, fun V hv h => ?_⟩⟩
          have := (HNO.out V hv h).1
          omega
        · refine (knum_some (g + 1) rs4 r4 6 W5 hr4 R5.c3 (by omega) (by decide) (by decide)).mono ?_
          rintro e w2 ⟨rs5, rfl, hr5, rfl⟩
          have R6 := R5.set rs5
          clear R5 hr4
          have HNO := Lib.hid (fun V hv h => (HNO.out V hv h).2)
          generalize W5.setCell ⟨g + 1, 0, none⟩ (.string rs5) = W6 at *
          have hl5 : (r4.drop 6).length ≤ l.length := by rw [List.length_drop]; omega
          have hx := get6_bound r4
          generalize r4.drop 6 = r5 at *
          generalize getN (r4.take 6) = x at *
          have f4 := R6.c4.frozen 3
          have q4 := R6.c4.cell 3 _ rfl
          have q3 := R6.c3.cell
          have R7 := R6.put 3 (.int .i64 (281474976710655 - x))
          have q7 := R7.c3.cell
          go_wp2_with fail
          clear q4 f4 q3 q7 R6
          generalize W6.setCell ⟨g + 1 + 1, 3, none⟩ (.int .i64 (281474976710655 - x)) = W7 at *
          refine (vget_all rs5 r5 W7 hr5 (by omega)).mono ?_
          rintro e W8 ⟨a, n, ca, xs, kk, c, rfl, hb, hc, hfar, hys⟩
          have hg2 := R7.c4.lt
          have R8 := R7.keep hb
          clear R7 hb
          have f4 := R8.c4.frozen 1
          have q4 := R8.c4.cell 1 _ rfl
          have R9 := R8.put 1 (.slice a n ca)
          have hF9 := hfar.set hg2 1 (.slice a n ca)
          have hI9 := hF9.1
          obtain ⟨d0, d1, d2, d3, d4, d5, d6, d7⟩ := R9.c4.ver (key := ⟨k.toArray⟩) (o := 255 - o) (t := 281474976710655 - x) (k := 0) (x := 0) (m := 0) (s := ⟨#[]⟩)
          go_wp2_with fail
          have hkz : (⟨k.toArray⟩ : ByteArray).size ≤ 140737488351232 := by rw [(SB.mk _).size]; omega
          generalize hV0 : (⟨⟨k.toArray⟩, xs, 255 - o, 281474976710655 - x, ⟨0, 0, 0, ⟨#[]⟩⟩⟩ : VerL) = V0
          have hsame : ∀ V, ValidK V → putK V = l → c = 0 ∧ validK V0 = true ∧ putK V0 = l := by
            intro V hv h
            obtain ⟨e1, e2, e3, e4⟩ := HNO.out V hv h
            obtain ⟨e5, e6⟩ := hys V.at_ hv.at_ e4
            obtain ⟨e7, e8⟩ := put_same V ⟨k.toArray⟩ xs (255 - o) (281474976710655 - x) ⟨0, 0, 0, ⟨#[]⟩⟩ e1 e6 e2 e3
            rw [hV0] at e7 e8
            exact ⟨e5, by rw [← e7]; exact (validK_iff V).2 hv, by rw [← e8]; exact h⟩
          refine (kput_any ⟨k.toArray⟩ a n ca xs (255 - o) (281474976710655 - x) 0 0 0 ⟨#[]⟩ ⟨(kputS V0).toArray⟩ (kputC V0) _ hkz hI9 (Lib.hid (by rw [hV0]; exact ⟨rfl, rfl⟩))).mono ?_
          rintro e W9 ⟨rfl, hb9⟩
          have RA := R9.keep hb9
          have hFA := hF9.keep hb9
          clear d0 d1 d2 d3 d4 d5 d6 d7 R9 R8 hI9 hb9 hfar hF9 hys f4 q4
          have HSame := Lib.hid hsame
          have HV := Lib.hid hV0
          clear hsame hV0
          rcases hc with rfl | rfl | rfl
          · cases hvk : validK V0
            · have hc1 : kputC V0 = 1 := by unfold kputC; rw [hvk]; rfl
              rw [hc1]
              generalize (⟨(kputS V0).toArray⟩ : ByteArray) = z
              go_wp2_with fail
              refine ⟨rfl, .inr ⟨rfl, RA.bl, fun V hv h => ?_⟩⟩
              have := (HSame.out V hv h).2.1
              rw [hvk] at this; cases this
            · have hc1 : kputC V0 = 0 := by unfold kputC; rw [hvk]; rfl
              have hc2 : kputS V0 = putK V0 := by unfold kputS; rw [hvk]; rfl
              rw [hc1, hc2]
              by_cases hpl : putK V0 = l
              · have hzs : (⟨(putK V0).toArray⟩ : ByteArray) = s := SB.eq (SB.mk _) (by rw [hpl]; exact HS.out)
                rw [hzs]
                obtain ⟨d0, d1, d2, d3, d4, d5, d6, d7⟩ := RA.c4.ver (key := ⟨k.toArray⟩) (o := 255 - o) (t := 281474976710655 - x) (k := 0) (x := 0) (m := 0) (s := ⟨#[]⟩)
                have f2 := RA.c2.frozen
                have q0 := RA.c2.cell 0 _ rfl
                have q1 := RA.c2.cell 1 _ rfl
                have q2 := RA.c2.cell 2 _ rfl
                have q3 := RA.c2.cell 3 _ rfl
                have q4 := RA.c2.cell 4 _ rfl
                have q5 := RA.c2.cell 5 _ rfl
                have q6 := RA.c2.cell 6 _ rfl
                have q7 := RA.c2.cell 7 _ rfl
                have RB := (((((((RA.c2.setj 0 (.string ⟨k.toArray⟩)).setj 1 (.slice a n ca)).setj 2 (.int .i64 (255 - o))).setj 3 (.int .i64 (281474976710655 - x))).setj 4 (.int .i64 0)).setj 5 (.float .f64 0)).setj 6 (.int .i64 0)).setj 7 (.string ⟨#[]⟩)
                have RL : Bl w _ := ((((((((RA.bl.setCell (p := ⟨g, 0, none⟩) (Nat.le_of_eq RA.base.symm) (.string ⟨k.toArray⟩)).setCell (p := ⟨g, 1, none⟩) (Nat.le_of_eq RA.base.symm) (.slice a n ca)).setCell (p := ⟨g, 2, none⟩) (Nat.le_of_eq RA.base.symm) (.int .i64 (255 - o))).setCell (p := ⟨g, 3, none⟩) (Nat.le_of_eq RA.base.symm) (.int .i64 (281474976710655 - x))).setCell (p := ⟨g, 4, none⟩) (Nat.le_of_eq RA.base.symm) (.int .i64 0)).setCell (p := ⟨g, 5, none⟩) (Nat.le_of_eq RA.base.symm) (.float .f64 0)).setCell (p := ⟨g, 6, none⟩) (Nat.le_of_eq RA.base.symm) (.int .i64 0)).setCell (p := ⟨g, 7, none⟩) (Nat.le_of_eq RA.base.symm) (.string ⟨#[]⟩))
                have hg : g < W7.heap.size := by omega
                have hIB := (((((((hFA.set hg 0 (.string ⟨k.toArray⟩)).set hg 1 (.slice a n ca)).set hg 2 (.int .i64 (255 - o))).set hg 3 (.int .i64 (281474976710655 - x))).set hg 4 (.int .i64 0)).set hg 5 (.float .f64 0)).set hg 6 (.int .i64 0)).set hg 7 (.string ⟨#[]⟩)
                go_wp2_with fail
                refine bodyPost_ret (kread_results rfl RB) rfl (.inl ⟨_, _, _, _, xs, _, _, rfl, hIB.mono (by have := RA.base; omega), RL, ?_, ?_⟩)
                · have := HV.out
                  rw [this]; exact (validK_iff _).1 hvk
                · have := HV.out
                  rw [this]; exact hpl
              · have q0 : ((⟨(putK V0).toArray⟩ : ByteArray).toList == s.toList) = false := by
                  rw [SB.beq (SB.mk _) HS.out]; exact decide_eq_false hpl
                generalize (⟨(putK V0).toArray⟩ : ByteArray) = z at *
                go_wp2_with fail
                refine ⟨rfl, .inr ⟨rfl, RA.bl, fun V hv h => ?_⟩⟩
                exact hpl (HSame.out V hv h).2.2
          · generalize (⟨(kputS V0).toArray⟩ : ByteArray) = z
            generalize kputC V0 = kc
            go_wp2_with fail
            refine ⟨rfl, .inr ⟨rfl, RA.bl, fun V hv h => ?_⟩⟩
            have := (HSame.out V hv h).1
            omega
          · generalize (⟨(kputS V0).toArray⟩ : ByteArray) = z
            generalize kputC V0 = kc
            go_wp2_with fail
            refine ⟨rfl, .inr ⟨rfl, RA.bl, fun V hv h => ?_⟩⟩
            have := (HSame.out V hv h).1
            omega
end Go.Proofs.YtgdlcoicejgdkaaDoor
