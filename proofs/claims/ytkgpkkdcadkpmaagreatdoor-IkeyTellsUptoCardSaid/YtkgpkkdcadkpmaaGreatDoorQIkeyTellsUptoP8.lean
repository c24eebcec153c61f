import Derived.Test.YtkgpkkdcadkpmaaGreatDoorQIkeyTellsUptoP7
import Derived.Test.YtkgpkkdcadkpmaaGreatDoorQIkeyTellsUptoP4
import Derived.Deep.AppendSrc
import Derived.Maps.OwnRows
import Derived.Test.YtkgpkkdcadkpmaaGreatDoorQIkeyTellsUptoP3

/- ikey.read. By an AI agent. -/
section
namespace Go.Proofs.YtkgpkkdcadkpmaaGreatDoor
open Go.RowKit

theorem getN_put1 (x : Int) (h0 : 0 ≤ x) (h1 : x < 256) : getN (putB x 1) = x := by
  have e : putN x 1 1 = [x % 256] := by simp [putN, byteAt, List.range, List.range.loop]
  unfold putB
  rw [e]
  simp only [bytesN, List.map_cons, List.map_nil, getN, List.foldl_cons, List.foldl_nil]
  have hb : ∀ y : Int, ((UInt8.ofNat (y % 256).toNat).toNat : Int) = y % 256 := by
    intro y
    simp; omega
  rw [hb]; omega
/-- what a version's bytes are made of -/
theorem put_parts {V : VerL} {l : List UInt8} (hv : ValidK V) (h : putK V = l) : ∃ r : List UInt8, keyP l = some (V.key.data.toList, r) ∧ 6 ≤ r.length ∧ 1 ≤ (r.drop 6).length ∧ 6 ≤ ((r.drop 6).drop 1).length ∧
    255 - getN ((r.drop 6).take 1) = V.origin ∧ 281474976710655 - getN (((r.drop 6).drop 1).take 6) = V.tx ∧ ((r.drop 6).drop 1).drop 6 = putL V.at_ := by
  have d1 : (tailK V).drop 6 = putB (255 - V.origin) 1 ++ (putB (281474976710655 - V.tx) 6 ++ putL V.at_) := List.drop_left' (putB_len _ _)
  have d2 : (putB (255 - V.origin) 1 ++ (putB (281474976710655 - V.tx) 6 ++ putL V.at_)).drop 1 = putB (281474976710655 - V.tx) 6 ++ putL V.at_ := List.drop_left' (putB_len _ _)
  have hl : (tailK V).length = 13 + (putL V.at_).length := by
    unfold tailK
    simp only [List.length_append, putB_len]; omega
  have h1 := hv.o0
  have h2 := hv.o255
  have h3 := hv.t0
  have h4 := hv.t1
  refine ⟨tailK V, by rw [← h]; exact keyP_head _ _, by omega, by rw [List.length_drop]; omega, by rw [List.length_drop, List.length_drop]; omega, ?_, ?_, ?_⟩
  · rw [d1, List.take_left' (putB_len _ _), getN_put1 _ (by omega) (by omega)]; omega
  · rw [d1, d2, List.take_left' (putB_len _ _), show putB (281474976710655 - V.tx) 6 = bytesN (putN (281474976710655 - V.tx) 6 6) from rfl, getN_put6 _ (by omega) (by omega)]; omega
  · rw [d1, d2, List.drop_left' (putB_len _ _)]
theorem put_same (V : VerL) (key : ByteArray) (xs : List Int) (o t : Int) (A : ActL) (hk : V.key.data.toList = key.data.toList) (h1 : xs = V.at_) (h2 : o = V.origin) (h3 : t = V.tx) :
    validK V = validK ⟨key, xs, o, t, A⟩ ∧ putK V = putK ⟨key, xs, o, t, A⟩ := by
  have e : V.key = key := ByteArray.ext (Array.toList_inj.1 hk)
  subst e; subst h1; subst h2; subst h3
  exact ⟨rfl, rfl⟩
theorem keyP_len : ∀ (n : Nat) (l k r : List UInt8), l.length ≤ n → keyP l = some (k, r) → k.length + r.length ≤ l.length
  | 0, l, k, r, hn, h => by
    have : l = [] := List.length_eq_zero_iff.1 (by omega)
    subst this
    rw [keyP_nil] at h; cases h
  | n + 1, [], k, r, _, h => by rw [keyP_nil] at h; cases h
  | n + 1, [_], k, r, _, h => by rw [keyP_sole] at h; cases h
  | n + 1, c :: d :: l, k, r, hn, h => by
    rw [keyP_two] at h
    simp only [List.length_cons] at hn ⊢
    split at h
    · cases hp : keyP (d :: l) with
      | none => rw [hp] at h; cases h
      | some p =>
        rw [hp] at h
        have := keyP_len n (d :: l) p.1 p.2 (by simp; omega) hp
        simp at h this
        rw [← h.1, ← h.2]; simp; omega
    · split at h
      · simp at h
        rw [h.1, ← h.2]; simp; omega
      · split at h
        · cases hp : keyP l with
          | none => rw [hp] at h; cases h
          | some p =>
            rw [hp] at h
            have := keyP_len n l p.1 p.2 (by omega) hp
            simp at h this
            rw [← h.1, ← h.2]; simp; omega
        · cases h
/-- what ikey.read comes to -/
def KRdPost (w : World) (l : List UInt8) (e : Ending) (w' : World) : Prop :=
  (∃ (key : ByteArray) (a : Option Addr) (n ca : Nat) (xs : List Int) (o t : Int), e = .returned (.agg #[.string key, .slice a n ca, .int .i64 o, .int .i64 t, .int .i64 0, .float .f64 0, .int .i64 0, .string ⟨#[]⟩]) ∧ FarO w.heap.size w' a n ca xs ∧ Bl w w' ∧
    ValidK ⟨key, xs, o, t, ⟨0, 0, 0, ⟨#[]⟩⟩⟩ ∧ putK ⟨key, xs, o, t, ⟨0, 0, 0, ⟨#[]⟩⟩⟩ = l) ∨
  (e = kpanE ∧ Bl w w' ∧ ∀ V, ValidK V → putK V ≠ l)

def zeroV : List Value := [.string ⟨#[]⟩, .slice none 0 0, .int .i64 0, .int .i64 0, .int .i64 0, .float .f64 0, .int .i64 0, .string ⟨#[]⟩]
/-- ikey.read's three boxes -/
structure RS (w : World) (g : Nat) (W : World) (rs : ByteArray) (cs : List Value) : Prop where
  base : g = w.heap.size
  bl : Bl w W
  c2 : AC W g zeroV
  c3 : C1 W (g + 1) (.string rs)
  c4 : AC W (g + 1 + 1) cs
theorem RS.keep {w : World} {g : Nat} {W W' : World} {rs : ByteArray} {cs : List Value} (h : RS w g W rs cs) (hb : Bl W W') : RS w g W' rs cs :=
  ⟨h.base, h.bl.trans hb, h.c2.keep hb, h.c3.keep hb, h.c4.keep hb⟩
theorem RS.set {w : World} {g : Nat} {W : World} {rs : ByteArray} {cs : List Value} (h : RS w g W rs cs) (r : ByteArray) : RS w g (W.setCell ⟨g + 1, 0, none⟩ (.string r)) r cs :=
  ⟨h.base, h.bl.setCell (p := ⟨g + 1, 0, none⟩) (by show w.heap.size ≤ g + 1; rw [h.base]; omega) _, h.c2.other (by omega), h.c3.set _, h.c4.other (by omega)⟩
theorem RS.put {w : World} {g : Nat} {W : World} {rs : ByteArray} {cs : List Value} (h : RS w g W rs cs) (j : Nat) (v : Value) : RS w g (W.setCell ⟨g + 1 + 1, j, none⟩ v) rs (cs.set j v) :=
  ⟨h.base, h.bl.setCell (p := ⟨g + 1 + 1, j, none⟩) (by show w.heap.size ≤ g + 1 + 1; rw [h.base]; omega) _, h.c2.other (by omega), h.c3.otherj (by omega), h.c4.setj j v⟩

theorem kread_results {tmps : Array Value} {W : World} {g : Nat} {c0 c1 c2 c3 c4 c5 c6 c7 : Value} (h : tmps.getD 2 undef = .pointer (some ⟨g, 0, none⟩)) (hc : AC W g [c0, c1, c2, c3, c4, c5, c6, c7]) :
    (results Tryz.f28 tmps).run Tryz.prog W = .ok (.agg #[c0, c1, c2, c3, c4, c5, c6, c7]) W := by
  have d0 := hc.cell 0 _ rfl
  have d1 := hc.cell 1 _ rfl
  have d2 := hc.cell 2 _ rfl
  have d3 := hc.cell 3 _ rfl
  have d4 := hc.cell 4 _ rfl
  have d5 := hc.cell 5 _ rfl
  have d6 := hc.cell 6 _ rfl
  have d7 := hc.cell 7 _ rfl
  rw [Array.getD_eq_getD_getElem?] at h
  simp [results, Tryz.results28, go_sem, h, d0, d1, d2, d3, d4, d5, d6, d7]
theorem RS.start (w : World) (s : ByteArray) : RS w w.heap.size (((w.alloc (.cells #[.string ⟨#[]⟩, .slice none 0 0, .int .i64 0, .int .i64 0, .int .i64 0, .float .f64 0, .int .i64 0, .string ⟨#[]⟩] 28)).alloc (.cells #[.string s] 116)).alloc
    (.cells #[.string ⟨#[]⟩, .slice none 0 0, .int .i64 0, .int .i64 0, .int .i64 0, .float .f64 0, .int .i64 0, .string ⟨#[]⟩] 28)) s zeroV :=
  have b0 := Bl.refl w
  ⟨rfl, ((b0.alloc _).alloc _).alloc _, ((AC.new w _ rfl zeroV _).keep ((Bl.refl _).alloc _)).keep ((Bl.refl _).alloc _), (C1.new _ (w.heap.size + 1) (by simp) (.string s) _).alloc _, AC.new _ (w.heap.size + 1 + 1) (by simp) zeroV _⟩

set_option maxHeartbeats 3200000 in
set_option maxRecDepth 100000 in
theorem kread_any (s : ByteArray) (l : List UInt8) (w : World) (hs : SB s l) (hz : l.length ≤ 1000000) :
    Calls Tryz.prog 28 #[.string s] w (KRdPost w l) := by
  have hsf := store_float
  go_enter Tryz.func28, Tryz.ntmps28
  go_wp2_with fail
  have R0 := RS.start w s
  generalize w.heap.size = g at *
  generalize ((w.alloc _).alloc _).alloc _ = W0 at *
  refine (kkey_any (g + 1) s l W0 hs R0.c3 (by rw [hs.size]; exact hz)).mono ?_
  intro e W1 hp
  unfold KeyPost at hp
  cases hkp : keyP l with
  | none =>
    rw [hkp] at hp
    obtain ⟨rs, rfl, hb⟩ := hp
    have R1 := (R0.set rs).keep hb
    unfold kpanE
    go_wp2_with fail
    refine ⟨rfl, .inr ⟨rfl, R1.bl, fun V hv h => ?_⟩⟩
    obtain ⟨r, h1, -⟩ := put_parts hv h
    rw [hkp] at h1; cases h1
  | some p =>
    obtain ⟨k, r⟩ := p
    rw [hkp] at hp
    obtain ⟨rs, rfl, hrs, hb⟩ := hp
    have R1 := (R0.set rs).keep hb
    clear hb R0
    have f4 := R1.c4.frozen 0
    have q4 := R1.c4.cell 0 _ rfl
    go_wp2_with fail
    have hlen := keyP_len _ l k r (Nat.le_refl _) hkp
    have R2 := R1.put 0 (.string ⟨k.toArray⟩)
    have HS := Lib.hid hs
    clear R1 f4 q4 hs
    generalize W1.setCell ⟨g + 1 + 1, 0, none⟩ (.string ⟨k.toArray⟩) = W2 at *
    have hno : ∀ V, ValidK V → putK V = l → 6 ≤ r.length ∧ 1 ≤ (r.drop 6).length ∧ 6 ≤ ((r.drop 6).drop 1).length ∧ V.key.data.toList = k ∧
      255 - getN ((r.drop 6).take 1) = V.origin ∧ 281474976710655 - getN (((r.drop 6).drop 1).take 6) = V.tx ∧ ((r.drop 6).drop 1).drop 6 = putL V.at_ := by
      intro V hv h
      obtain ⟨r', h1, h2⟩ := put_parts hv h
      rw [hkp] at h1
      simp only [Option.some.injEq, Prod.mk.injEq] at h1
      obtain ⟨e1, e2⟩ := h1
      subst e2
      exact ⟨h2.1, h2.2.1, h2.2.2.1, e1.symm, h2.2.2.2.1, h2.2.2.2.2.1, h2.2.2.2.2.2⟩
    have HNO := Lib.hid hno
    clear hno hkp
    by_cases g6 : r.length < 6
    · refine (knum_none (g + 1) rs 6 W2 R2.c3 (by rw [hrs.size]; exact g6)).mono ?_
      rintro e w2 ⟨rfl, rfl⟩
      unfold kpanE
      go_wp2_with fail
      refine ⟨rfl, .inr ⟨rfl, R2.bl, fun V hv h => ?_⟩⟩
      have := (HNO.out V hv h).1
      omega
    · refine (knum_some (g + 1) rs r 6 W2 hrs R2.c3 (by omega) (by decide) (by decide)).mono ?_
      rintro e w2 ⟨rs3, rfl, hr3, rfl⟩
      have R3 := R2.set rs3
      clear R2 hrs
      have HNO := Lib.hid (fun V hv h => (HNO.out V hv h).2)
      generalize W2.setCell ⟨g + 1, 0, none⟩ (.string rs3) = W3 at *
      have hl3 : (r.drop 6).length ≤ l.length := by rw [List.length_drop]; omega
      generalize r.drop 6 = r3 at *
      generalize getN (r.take 6) = n6
      go_wp2_with fail
      by_cases g1 : r3.length < 1
      · refine (knum_none (g + 1) rs3 1 W3 R3.c3 (by rw [hr3.size]; exact g1)).mono ?_
        rintro e w2 ⟨rfl, rfl⟩
        unfold kpanE
        go_wp2_with fail
        refine ⟨rfl, .inr ⟨rfl, R3.bl, fun V hv h => ?_⟩⟩
        have := (HNO.out V hv h).1
        omega
      · refine (knum_some (g + 1) rs3 r3 1 W3 hr3 R3.c3 (by omega) (by decide) (by decide)).mono ?_
        rintro e w2 ⟨rs4, rfl, hr4, rfl⟩
        have R4 := R3.set rs4
        clear R3 hr3
        have HNO := Lib.hid (fun V hv h => (HNO.out V hv h).2)
        generalize W3.setCell ⟨g + 1, 0, none⟩ (.string rs4) = W4 at *
        have hl4 : (r3.drop 1).length ≤ l.length := by rw [List.length_drop]; omega
        have ho := getN1_bound r3
        generalize r3.drop 1 = r4 at *
        generalize getN (r3.take 1) = o at *
        have f4 := R4.c4.frozen 2
        have q4 := R4.c4.cell 2 _ rfl
        go_wp2_with fail
        have R5 := R4.put 2 (.int .i64 (255 - o))
        clear R4 f4 q4
        generalize W4.setCell ⟨g + 1 + 1, 2, none⟩ (.int .i64 (255 - o)) = W5 at *
        by_cases g7 : r4.length < 6
        · refine (knum_none (g + 1) rs4 6 W5 R5.c3 (by rw [hr4.size]; exact g7)).mono ?_
          rintro e w2 ⟨rfl, rfl⟩
          unfold kpanE
          go_wp2_with fail
          refine ⟨rfl, .inr ⟨rfl, R5.bl, fun V hv h => ?_⟩⟩
          have := (HNO.out V hv h).1
          omega
        · refine (knum_some (g + 1) rs4 r4 6 W5 hr4 R5.c3 (by omega) (by decide) (by decide)).mono ?_
          rintro e w2 ⟨rs5, rfl, hr5, rfl⟩
          have R6 := R5.set rs5
          clear R5 hr4
          have HNO := Lib.hid (fun V hv h => (HNO.out V hv h).2)
          generalize W5.setCell ⟨g + 1, 0, none⟩ (.string rs5) = W6 at *
          have hl5 : (r4.drop 6).length ≤ l.length := by rw [List.length_drop]; omega
          have hx := get6_bound r4
          generalize r4.drop 6 = r5 at *
          generalize getN (r4.take 6) = x at *
          have f4 := R6.c4.frozen 3
          have q4 := R6.c4.cell 3 _ rfl
          have q3 := R6.c3.cell
          have R7 := R6.put 3 (.int .i64 (281474976710655 - x))
          have q7 := R7.c3.cell
          go_wp2_with fail
          clear q4 f4 q3 q7 R6
          generalize W6.setCell ⟨g + 1 + 1, 3, none⟩ (.int .i64 (281474976710655 - x)) = W7 at *
          refine (vget_allO rs5 r5 W7 hr5 (by omega)).mono ?_
          rintro e W8 ⟨a, n, ca, xs, kk, c, rfl, hb, hc, hfar, hys⟩
          have hg2 := R7.c4.lt
          have R8 := R7.keep hb
          clear R7 hb
          have f4 := R8.c4.frozen 1
          have q4 := R8.c4.cell 1 _ rfl
          have R9 := R8.put 1 (.slice a n ca)
          have hF9 := hfar.set hg2 1 (.slice a n ca)
          have hI9 := hF9.far.1
          obtain ⟨d0, d1, d2, d3, d4, d5, d6, d7⟩ := R9.c4.ver (key := ⟨k.toArray⟩) (o := 255 - o) (t := 281474976710655 - x) (k := 0) (x := 0) (m := 0) (s := ⟨#[]⟩)
          go_wp2_with fail
          have hkz : (⟨k.toArray⟩ : ByteArray).size ≤ 140737488351232 := by rw [(SB.mk _).size]; omega
          generalize hV0 : (⟨⟨k.toArray⟩, xs, 255 - o, 281474976710655 - x, ⟨0, 0, 0, ⟨#[]⟩⟩⟩ : VerL) = V0
          have hsame : ∀ V, ValidK V → putK V = l → c = 0 ∧ validK V0 = true ∧ putK V0 = l := by
            intro V hv h
            obtain ⟨e1, e2, e3, e4⟩ := HNO.out V hv h
            obtain ⟨e5, e6⟩ := hys V.at_ hv.at_ e4
            obtain ⟨e7, e8⟩ := put_same V ⟨k.toArray⟩ xs (255 - o) (281474976710655 - x) ⟨0, 0, 0, ⟨#[]⟩⟩ e1 e6 e2 e3
            rw [hV0] at e7 e8
            exact ⟨e5, by rw [← e7]; exact (validK_iff V).2 hv, by rw [← e8]; exact h⟩
          refine (kput_any ⟨k.toArray⟩ a n ca xs (255 - o) (281474976710655 - x) 0 0 0 ⟨#[]⟩ ⟨(kputS V0).toArray⟩ (kputC V0) _ hkz hI9 (Lib.hid (by rw [hV0]; exact ⟨rfl, rfl⟩))).mono ?_
          rintro e W9 ⟨rfl, hb9⟩
          have RA := R9.keep hb9
          have hFA := hF9.keep hb9
          clear d0 d1 d2 d3 d4 d5 d6 d7 R9 R8 hI9 hb9 hfar hF9 hys f4 q4
          have HSame := Lib.hid hsame
          have HV := Lib.hid hV0
          clear hsame hV0
          rcases hc with rfl | rfl | rfl
          · cases hvk : validK V0
            · have hc1 : kputC V0 = 1 := by unfold kputC; rw [hvk]; rfl
              rw [hc1]
              generalize (⟨(kputS V0).toArray⟩ : ByteArray) = z
              go_wp2_with fail
              refine ⟨rfl, .inr ⟨rfl, RA.bl, fun V hv h => ?_⟩⟩
              have := (HSame.out V hv h).2.1
              rw [hvk] at this; cases this
            · have hc1 : kputC V0 = 0 := by unfold kputC; rw [hvk]; rfl
              have hc2 : kputS V0 = putK V0 := by unfold kputS; rw [hvk]; rfl
              rw [hc1, hc2]
              by_cases hpl : putK V0 = l
              · have hzs : (⟨(putK V0).toArray⟩ : ByteArray) = s := SB.eq (SB.mk _) (by rw [hpl]; exact HS.out)
                rw [hzs]
                obtain ⟨d0, d1, d2, d3, d4, d5, d6, d7⟩ := RA.c4.ver (key := ⟨k.toArray⟩) (o := 255 - o) (t := 281474976710655 - x) (k := 0) (x := 0) (m := 0) (s := ⟨#[]⟩)
                have f2 := RA.c2.frozen
                have q0 := RA.c2.cell 0 _ rfl
                have q1 := RA.c2.cell 1 _ rfl
                have q2 := RA.c2.cell 2 _ rfl
                have q3 := RA.c2.cell 3 _ rfl
                have q4 := RA.c2.cell 4 _ rfl
                have q5 := RA.c2.cell 5 _ rfl
                have q6 := RA.c2.cell 6 _ rfl
                have q7 := RA.c2.cell 7 _ rfl
                have RB := (((((((RA.c2.setj 0 (.string ⟨k.toArray⟩)).setj 1 (.slice a n ca)).setj 2 (.int .i64 (255 - o))).setj 3 (.int .i64 (281474976710655 - x))).setj 4 (.int .i64 0)).setj 5 (.float .f64 0)).setj 6 (.int .i64 0)).setj 7 (.string ⟨#[]⟩)
                have RL : Bl w _ := ((((((((RA.bl.setCell (p := ⟨g, 0, none⟩) (Nat.le_of_eq RA.base.symm) (.string ⟨k.toArray⟩)).setCell (p := ⟨g, 1, none⟩) (Nat.le_of_eq RA.base.symm) (.slice a n ca)).setCell (p := ⟨g, 2, none⟩) (Nat.le_of_eq RA.base.symm) (.int .i64 (255 - o))).setCell (p := ⟨g, 3, none⟩) (Nat.le_of_eq RA.base.symm) (.int .i64 (281474976710655 - x))).setCell (p := ⟨g, 4, none⟩) (Nat.le_of_eq RA.base.symm) (.int .i64 0)).setCell (p := ⟨g, 5, none⟩) (Nat.le_of_eq RA.base.symm) (.float .f64 0)).setCell (p := ⟨g, 6, none⟩) (Nat.le_of_eq RA.base.symm) (.int .i64 0)).setCell (p := ⟨g, 7, none⟩) (Nat.le_of_eq RA.base.symm) (.string ⟨#[]⟩))
                have hg : g < W7.heap.size := by omega
                have hIB := (((((((hFA.set hg 0 (.string ⟨k.toArray⟩)).set hg 1 (.slice a n ca)).set hg 2 (.int .i64 (255 - o))).set hg 3 (.int .i64 (281474976710655 - x))).set hg 4 (.int .i64 0)).set hg 5 (.float .f64 0)).set hg 6 (.int .i64 0)).set hg 7 (.string ⟨#[]⟩)
                go_wp2_with fail
                refine bodyPost_ret (kread_results rfl RB) rfl (.inl ⟨_, _, _, _, xs, _, _, rfl, hIB.mono (by have := RA.base; omega), RL, ?_, ?_⟩)
                · have := HV.out
                  rw [this]; exact (validK_iff _).1 hvk
                · have := HV.out
                  rw [this]; exact hpl
              · have q0 : ((⟨(putK V0).toArray⟩ : ByteArray).toList == s.toList) = false := by
                  rw [SB.beq (SB.mk _) HS.out]; exact decide_eq_false hpl
                generalize (⟨(putK V0).toArray⟩ : ByteArray) = z at *
                go_wp2_with fail
                refine ⟨rfl, .inr ⟨rfl, RA.bl, fun V hv h => ?_⟩⟩
                exact hpl (HSame.out V hv h).2.2
          · generalize (⟨(kputS V0).toArray⟩ : ByteArray) = z
            generalize kputC V0 = kc
            go_wp2_with fail
            refine ⟨rfl, .inr ⟨rfl, RA.bl, fun V hv h => ?_⟩⟩
            have := (HSame.out V hv h).1
            omega
          · generalize (⟨(kputS V0).toArray⟩ : ByteArray) = z
            generalize kputC V0 = kc
            go_wp2_with fail
            refine ⟨rfl, .inr ⟨rfl, RA.bl, fun V hv h => ?_⟩⟩
            have := (HSame.out V hv h).1
            omega
end Go.Proofs.YtkgpkkdcadkpmaaGreatDoor
end

/- append to what a call has made, of elements of any type, of whatever slice (nil too). By an AI agent. -/
section
namespace Go.Proofs.YtkgpkkdcadkpmaaGreatDoor
open Go.RowKit
attribute [local go_sem] eOp eOper eUpon

/-- the cells of a slice of n elements of so many cells each -/
structure SG (w : World) (size : Nat) (a : Option Addr) (n : Nat) (cs : List Value) : Prop where
  len : cs.length = n * size
  at_ : ∀ ad, a = some ad → ∀ j u, cs[j]? = some u → w.cell? (ad.add j) = some u
  nil : a = none → n = 0
  one : ∀ u ∈ cs, u.oneCell' = true
theorem SG.keep {w w' : World} {size : Nat} {a : Option Addr} {n : Nat} {cs : List Value} (h : SG w size a n cs) (hb : Bl w w') : SG w' size a n cs :=
  ⟨h.len, fun ad e j u hu => hb.cell (h.at_ ad e j u hu), h.nil, h.one⟩
/-- what is asked of the types -/
structure EL (T E : TypeId) (size bytes : Nat) : Prop where
  ty : Tryz.prog.underlying T = some (.slice E)
  info : ∃ i z, Tryz.prog.info? E = some i ∧ i.zero = some z ∧ i.size = size ∧ i.bytes = bytes ∧ z.cells.size = size
  pos : 0 < size
theorem el_of {T E : TypeId} {size bytes : Nat} (h1 : Tryz.prog.underlying T = some (.slice E)) (h2 : (Tryz.prog.info? E).map (fun i => (i.zero.map (fun z => z.cells.size), i.size, i.bytes)) = some (some size, size, bytes)) (h3 : 0 < size) : EL T E size bytes := by
  refine ⟨h1, ?_, h3⟩
  cases hi : Tryz.prog.info? E with
  | none => rw [hi] at h2; cases h2
  | some i =>
    rw [hi] at h2
    simp only [Option.map_some, Option.some.injEq, Prod.mk.injEq] at h2
    obtain ⟨g1, g2, g3⟩ := h2
    cases hz : i.zero with
    | none => rw [hz] at g1; cases g1
    | some z =>
      rw [hz] at g1
      simp only [Option.map_some, Option.some.injEq] at g1
      exact ⟨i, z, rfl, hz, g2, g3, g1⟩
theorem run_appG {w : World} {B : Nat} {T E : TypeId} {size bytes : Nat} (hT : EL T E size bytes) (ty : TypeId) (v : Value) (n : Nat) (xs : List Value) (hown : w.ownsRow B E size v n xs) (ad : Option Addr) (m c : Nat) (news : List Value) (hs : SG w size ad m news)
    (h63 : n + m ≤ maxLen) (hbytes : (n + m) * bytes ≤ 140737488355328) (hB : B ≤ w.heap.size) :
    ∃ v' w', (Builtin.append_ #[T, T] ty #[v, .slice ad m c]).run Tryz.prog w = .ok v' w' ∧ w'.ownsRow B E size v' (n + m) (xs ++ news) ∧ w.grownBy w' v.ownBlock := by
  obtain ⟨i, z, hi, hz, h1, h2, h3⟩ := hT.info
  cases ad with
  | none =>
    have hm := hs.nil rfl
    subst hm
    have e : news = [] := List.eq_nil_of_length_eq_zero (by rw [hs.len, Nat.zero_mul])
    subst e
    rw [List.append_nil, Nat.add_zero]
    obtain ⟨hl, ⟨rfl, hn⟩ | ⟨g, cap, cur, rfl, hBg, hg, hn, r⟩⟩ := hown
    · subst hn
      exact ⟨_, w, by simp [Builtin.append_, run_underlying hT.ty, sizeOf, typeInfo, hi, Builtin.lenOf, Builtin.firstCells], ⟨hl, .inl ⟨rfl, rfl⟩⟩, ⟨rfl, rfl, rfl, Nat.le_refl _, fun _ _ _ => rfl⟩⟩
    · have := run_append_room_src (P := Tryz.prog) w T T ty E i hT.ty hi g 0 n cap (.slice none 0 c) 0 [] (Src.ofNil w hT.ty c) (by omega) (fun k hk => by simp at hk) (fun k hk => by simp at hk)
      exact ⟨_, w, by simpa [World.setCells] using this, ⟨hl, .inr ⟨g, cap, cur, rfl, hBg, hg, hn, r⟩⟩, ⟨rfl, rfl, rfl, Nat.le_refl _, fun _ _ _ => rfl⟩⟩
  | some ad =>
    obtain ⟨v', w', e1, e2, e3, _⟩ := run_append_own (P := Tryz.prog) w B T ty E i z size bytes hT.ty hi hz h1 h2 h3 hT.pos v n xs hown ad m c news hs.len (hs.at_ ad rfl) hs.one h63 hbytes hB
    exact ⟨v', w', e1, e2, e3⟩
section
variable {ops : Array Oper}
theorem wpList_appG {rest : List Oper} {o : Oper} {a : Act} {w : World} {Q : Exit → Act → World → Prop} (hgd : o.guard = none) (s x : Operand) (T : TypeId)
    (ho : o.op = .call { callee := .builtin .append, args := #[s, x], argTypes := #[T, T] }) {E : TypeId} {size bytes : Nat} (hT : EL T E size bytes) (B : Nat) (v : Value) (n : Nat) (xs : List Value) (hs : a.eval s = v) (hown : w.ownsRow B E size v n xs) (hB : B ≤ w.heap.size)
    (ad : Option Addr) (m c : Nat) (news : List Value) (hx : a.eval x = .slice ad m c) (hsc : SG w size ad m news) (h63 : n + m ≤ maxLen) (hbytes : (n + m) * bytes ≤ 140737488355328)
    (h : ∀ v' w', w'.ownsRow B E size v' (n + m) (xs ++ news) → w.grownBy w' v.ownBlock → wpList Tryz.prog ops Q rest (a.put o.dst v') w') : wpList Tryz.prog ops Q (o :: rest) a w := by
  obtain ⟨v', w', hr, h2, h3⟩ := run_appG hT o.type v n xs hown ad m c news hsc h63 hbytes hB
  refine wpList_plain hgd fun _ hK => ?_
  unfold Oper.wp execOp
  simp only [ho, resolve, invoke, builtin, Sem.run_bind, Sem.run_pure, Result.andThen_ok, List.map_toArray, List.map_cons, List.map_nil, hs, hx, hr]
  exact hK _ _ (h v' w' h2 h3)
end
/-- a row that the call makes holds nothing that was there -/
theorem Bl.ownRow {B : Nat} {E : TypeId} {size : Nat} {w0 w w' : World} {v : Value} {n : Nat} {cs : List Value} (hb : Bl w0 w) (ho : w.ownsRow B E size v n cs) (hB : w0.heap.size ≤ B) (hg : w.grownBy w' v.ownBlock) : Bl w0 w' :=
  Below.grown hb hg hb.size (fun k hk => Nat.le_trans hB (World.ownsRow.lt ho k hk).1)
/-- the block that holds so many cells, in its own right -/
theorem SG.lit {w : World} {g size : Nat} {E : TypeId} {cs : List Value} (h : w.heap[g]? = some (.cells cs.toArray E (0, 0))) (hl : cs.length = 1 * size) (h1 : ∀ u ∈ cs, u.oneCell' = true) : SG w size (some ⟨g, 0, none⟩) 1 cs := by
  refine ⟨hl, fun ad e j u hu => ?_, fun e => (by cases e), h1⟩
  obtain rfl := Option.some.inj e
  rw [Addr.add_lit, Nat.zero_add, cell_of_row w g j _ E (0, 0) h]
  simpa using hu
theorem sg_ints {w : World} {a : Option Addr} {n : Nat} {xs : List Int} (h : IA w a n xs) : SG w 1 a n (xs.map (Value.int .i64)) := by
  refine ⟨by simp [h.len], fun ad e j u hu => ?_, fun e => ?_, fun u hu => by simp at hu; obtain ⟨x, _, rfl⟩ := hu; rfl⟩
  · have hjl : j < n := by
      have := (List.getElem?_eq_some_iff.1 hu).1
      simpa [h.len] using this
    obtain ⟨b, off, e', hc⟩ := h.cells j hjl
    rw [e] at e'
    obtain rfl := Option.some.inj e'
    have hjx : j < xs.length := by rw [h.len]; exact hjl
    simp [hjx] at hu
    rw [Addr.add_lit, hc j hjl, nth_eq hjx, hu]
  · subst e
    by_cases hn : 0 < n
    · obtain ⟨b, off, e', _⟩ := h.cells 0 hn
      cases e'
    · omega
end Go.Proofs.YtkgpkkdcadkpmaaGreatDoor
end

/- worlds that agree below a block. By an AI agent. -/
section
set_option linter.unusedVariables false
set_option linter.unusedSimpArgs false
namespace Go.Proofs.YtkgpkkdcadkpmaaGreatDoor
open Go.RowKit

theorem AC.below {B : Nat} {w w' : World} {g : Nat} {cs : List Value} (h : AC w g cs) (hb : Below B w w') (hg : g < B) : AC w' g cs := by
  obtain ⟨t, h⟩ := h
  exact ⟨t, by rw [hb.block g hg]; exact h⟩
theorem C1.below {B : Nat} {w w' : World} {g : Nat} {v : Value} (h : C1 w g v) (hb : Below B w w') (hg : g < B) : C1 w' g v := by
  obtain ⟨t, h⟩ := h
  exact ⟨t, by rw [hb.block g hg]; exact h⟩
theorem IA.below {B : Nat} {w w' : World} {a : Option Addr} {n : Nat} {xs : List Int} (h : IA w a n xs) (hb : Below B w w') (hg : ∀ b off, a = some ⟨b, off, none⟩ → n = 0 ∨ b < B) : IA w' a n xs := by
  refine ⟨h.len, h.cap, fun i hi => ?_, h.wf⟩
  obtain ⟨b, off, e, hc⟩ := h.cells i hi
  refine ⟨b, off, e, fun i hi => ?_⟩
  have hB : b < B := by
    have := hg b off e
    omega
  rw [← hc i hi]
  unfold World.cell?
  rw [hb.block b hB]
end Go.Proofs.YtkgpkkdcadkpmaaGreatDoor
end

/- what is the same, part by part. By an AI agent. -/
section
set_option linter.unusedVariables false
namespace Go.Proofs.YtkgpkkdcadkpmaaGreatDoor
open Go.RowKit

theorem toList_inj {s t : ByteArray} (h : s.toList = t.toList) : s = t := by
  rw [ByteArray.toList_eq, ByteArray.toList_eq] at h
  exact ByteArray.ext (Array.toList_inj.1 h)
end Go.Proofs.YtkgpkkdcadkpmaaGreatDoor
end
