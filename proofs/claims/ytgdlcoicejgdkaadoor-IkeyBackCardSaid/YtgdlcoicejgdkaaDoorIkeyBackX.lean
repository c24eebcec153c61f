/- IkeyBack, walked. By an AI agent. -/
import Derived.Test.YtgdlcoicejgdkaaDoorIkeyS
import Derived.Laws.IdiomStrings
import Derived.Laws.BitsAllLaws
namespace Go.Proofs.YtgdlcoicejgdkaaDoor
open Go.RowKit

theorem bxor_ne {a b : Nat} (h : b ≠ 0) : a ^^^ b ≠ a := by
  intro e
  have := congrArg (fun z => a ^^^ z) e
  simp only [Nat.xor_self, ← Nat.xor_assoc, Nat.zero_xor] at this
  exact h this
/-- the bytes of a string, in a row of their own -/
structure BR (W : World) (g : Nat) (l : List UInt8) : Prop where
  cells : ∀ j (hj : j < l.length), W.cell? ⟨g, j, none⟩ = some (.int .u8 (l[j].toNat : Int))
  free : ∀ j, j < l.length → W.frozen? ⟨g, j, none⟩ = false
theorem BR.new (w : World) (p : ByteArray) (cap : Nat) (e : TypeId) (l : List UInt8) (hp : SB p l) :
    BR (w.drew.alloc (.cells (bytesRow p cap) e ((bytesRow p cap).size, (bytesRow p cap).size + 1))) w.heap.size l := by
  have hl := hp.size
  have hh : (w.drew.alloc (.cells (bytesRow p cap) e ((bytesRow p cap).size, (bytesRow p cap).size + 1))).heap[w.heap.size]? = some (.cells (bytesRow p cap) e ((bytesRow p cap).size, (bytesRow p cap).size + 1)) := heap_alloc_new w.drew _
  refine ⟨fun j hj => ?_, fun j hj => ?_⟩
  · rw [cell_of_row _ _ j _ _ _ hh]
    have h2 : l[j] = p[j]'(by omega) := (hp.get j (by omega) hj).symm
    rw [h2]
    have hjs : j < p.data.size := by have : p.data.size = p.size := rfl; omega
    simp [bytesRow, Array.getElem?_append]
    rw [if_pos (by omega), Array.getElem?_eq_getElem hjs]
    rfl
  · unfold World.frozen?
    dsimp only
    rw [hh]
    simp [bytesRow]
    omega
theorem BR.set {W : World} {g : Nat} {l : List UInt8} (h : BR W g l) (K : Nat) (hK : K < l.length) (c : UInt8) : ∀ j (hj : j < (l.set K c).length), (W.setCell ⟨g, K, none⟩ (.int .u8 (c.toNat : Int))).cell? ⟨g, j, none⟩ = some (.int .u8 ((l.set K c)[j].toNat : Int)) := by
  intro j hj
  have hj2 : j < l.length := by simpa using hj
  by_cases hjk : K = j
  · subst hjk
    rw [World.cell?_setCell_same _ _ _ (h.cells K hK)]
    simp
  · rw [World.cell?_setCell_other _ _ _ _ (fun e => hjk (by cases e; rfl)), h.cells j hj2]
    simp [hjk]

set_option maxHeartbeats 3200000 in
set_option maxRecDepth 100000 in
theorem ikeyBack_walk (a : Option Addr) (n ca : Nat) (V : VerL) (at_ by_ : Int) (w : World) (hI : IA w a n V.at_) (hV : VR V) (_hat : -9223372036854775808 ≤ at_ ∧ at_ ≤ 9223372036854775807) (_hby : -9223372036854775808 ≤ by_ ∧ by_ ≤ 9223372036854775807) :
    Calls Tryd.prog 8 #[.agg #[.string V.key, .slice a n ca, .int .i64 V.origin, .int .i64 V.tx, .int .i64 V.act.k, .float .f64 V.act.x, .int .i64 V.act.n, .string V.act.s], .int .i64 at_, .int .i64 by_] w
      fun e w' => e = .returned (.bool true) ∧ Bl w w' := by
  have hsf := store_float
  have hkV := hV.key
  clear hV
  obtain ⟨key, xs, vo, t, k, x, m, s⟩ := V
  dsimp only at hI hkV ⊢
  have A1 := ver_box w key a n ca vo t k x m s
  have B1 : Bl w (w.alloc (.cells #[.string key, .slice a n ca, .int .i64 vo, .int .i64 t, .int .i64 k, .float .f64 x, .int .i64 m, .string s] 30)) := (Bl.refl w).alloc _
  go_enter Tryd.func8, Tryd.ntmps8
  go_wp2_with fail
  refine (kput_any key a n ca xs vo t k x m s ⟨(kputS ⟨key, xs, vo, t, ⟨k, x, m, s⟩⟩).toArray⟩ (kputC ⟨key, xs, vo, t, ⟨k, x, m, s⟩⟩) _ hkV (hI.keep B1) (Lib.hid ⟨SB.mk _, rfl⟩)).mono ?_
  rintro e w1 ⟨rfl, hb1⟩
  have A2 := A1.keep hb1
  have B2 : Bl w w1 := B1.trans hb1
  clear A1 B1 hb1
  cases hv : validK ⟨key, xs, vo, t, ⟨k, x, m, s⟩⟩
  · rw [show kputC ⟨key, xs, vo, t, ⟨k, x, m, s⟩⟩ = 1 from by unfold kputC; rw [hv]; rfl]
    generalize (⟨(kputS ⟨key, xs, vo, t, ⟨k, x, m, s⟩⟩).toArray⟩ : ByteArray) = z1
    go_wp2_with fail
    refine (alive5_any _).mono ?_
    rintro e w3 ⟨rfl, hb3⟩
    obtain ⟨a0, a1, a2, a3, a4, a5, a6, a7⟩ := (A2.keep hb3).ver
    have B3 := B2.trans hb3
    go_wp2_with fail
    refine (kvalid_any key a n ca xs vo t k x m s false _ hkV (hI.keep B3) (Lib.hid hv)).mono ?_
    rintro e w4 ⟨rfl, hb4⟩
    go_wp2_with fail
    go_ret
    exact ⟨rfl, B3.trans hb4⟩
  have KV := (validK_iff _).1 hv
  rw [show kputC ⟨key, xs, vo, t, ⟨k, x, m, s⟩⟩ = 0 from by unfold kputC; rw [hv]; rfl, show kputS ⟨key, xs, vo, t, ⟨k, x, m, s⟩⟩ = putK ⟨key, xs, vo, t, ⟨k, x, m, s⟩⟩ from by unfold kputS; rw [hv]; rfl]
  obtain ⟨L, hL⟩ : ∃ L, putK ⟨key, xs, vo, t, ⟨k, x, m, s⟩⟩ = L := ⟨_, rfl⟩
  rw [hL]
  have ps : SB ⟨L.toArray⟩ L := SB.mk _
  have hLl : 13 ≤ L.length ∧ L.length ≤ 1000 := by
    rw [← hL]
    unfold putK tailK
    have h1 := KV.key
    simp only [isKeyB, Bool.and_eq_true, decide_eq_true_eq] at h1
    have h1 := h1.2.1
    have h2 := (headL_len key.data.toList).2
    have h3 : key.data.toList.length = key.size := by simp
    have h4 := putL_len xs
    have h5 : xs.length ≤ 8 := KV.len.2
    simp only [List.length_append, putB_len]
    omega
  have hLz : (⟨L.toArray⟩ : ByteArray).size = L.length := ps.size
  generalize (⟨L.toArray⟩ : ByteArray) = p at *
  have HPS := Lib.hid ps
  have HKV := Lib.hid KV
  have HL := Lib.hid hL
  clear ps hv KV hL
  go_wp2_with fail
  refine (kget_any p L _ HPS.out (by omega)).mono ?_
  rintro e w2 (⟨key', a', n', ca', xs', o', t', rfl, hF, hb2, hv', hp'⟩ | ⟨rfl, hb2, hno⟩)
  rotate_left
  · exact absurd HL.out (hno _ HKV.out)
  obtain ⟨e1, e2, e3, e4⟩ := putK_inj hv' HKV.out (hp'.trans HL.out.symm)
  have e1 : key' = key := e1
  have e2 : xs' = xs := e2
  have e3 : o' = vo := e3
  have e4 : t' = t := e4
  subst e1; subst e2; subst e3; subst e4
  have A3 := A2.keep hb2
  have B3 := B2.trans hb2
  have X3 := ver_box w2 key' a' n' ca' o' t' 0 0 0 ⟨#[]⟩
  have hb3 : Bl w2 (w2.alloc (.cells #[.string key', .slice a' n' ca', .int .i64 o', .int .i64 t', .int .i64 0, .float .f64 0, .int .i64 0, .string ⟨#[]⟩] 30)) := (Bl.refl w2).alloc _
  replace A3 := A3.keep hb3
  replace B3 := B3.trans hb3
  have hI' := hF.1.keep hb3
  clear A2 B2 hb2 hv' hp' hF
  go_wp2_with fail
  clear hb3
  generalize w2.alloc (.cells #[.string key', .slice a' n' ca', .int .i64 o', .int .i64 t', .int .i64 0, .float .f64 0, .int .i64 0, .string ⟨#[]⟩] 30) = W2 at *
  generalize w2.heap.size = gx at *
  refine (kkeyOf_any p L _ HPS.out (by omega)).mono ?_
  rintro e w4 (⟨V', rfl, hb4, hv', hp'⟩ | ⟨rfl, hb4, hno⟩)
  rotate_left
  · exact absurd HL.out (hno _ HKV.out)
  obtain ⟨e1, -, -, -⟩ := putK_inj hv' HKV.out (hp'.trans HL.out.symm)
  have e1 : V'.key = key' := e1
  rw [e1]
  clear hp' hv' e1
  replace A3 := A3.keep hb4
  replace B3 := B3.trans hb4
  replace X3 := X3.keep hb4
  replace hI' := hI'.keep hb4
  clear hb4
  have Y3 := ver_box w4 key' a n ca o' t' 0 0 0 ⟨#[]⟩
  have hb5 : Bl w4 (w4.alloc (.cells #[.string key', .slice a n ca, .int .i64 o', .int .i64 t', .int .i64 0, .float .f64 0, .int .i64 0, .string ⟨#[]⟩] 30)) := (Bl.refl w4).alloc _
  have A4 := A3.keep hb5
  have B4 := B3.trans hb5
  have X4 := X3.keep hb5
  have hI4 := hI'.keep hb5
  obtain ⟨a0, a1, a2, a3, a4, a5, a6, a7⟩ := A3.ver
  obtain ⟨b0, b1, b2, b3, b4, b5, b6, b7⟩ := A4.ver
  obtain ⟨x0, x1, x2, x3, x4, x5, x6, x7⟩ := X4.ver
  obtain ⟨y0, y1, y2, y3, y4, y5, y6, y7⟩ := Y3.ver
  go_wp2_with fail
  refine (sameVer_any key' a' n' ca' xs' o' t' key' a n ca xs' o' t' true _ hI4 (hI.keep B4) (Lib.hid (by simp))).mono ?_
  rintro e w5 ⟨rfl, hb6⟩
  replace Y3 := Y3.keep hb6
  have B5 := B4.trans hb6
  clear a0 a1 a2 a3 a4 a5 a6 a7 b0 b1 b2 b3 b4 b5 b6 b7 x0 x1 x2 x3 x4 x5 x6 x7 y0 y1 y2 y3 y4 y5 y6 y7 A3 A4 X3 X4 B3 B4 hI' hI4 hb5 hb6
  generalize w4.heap.size = gw at *
  have hIw := hI.keep B5
  have hI0 := hI
  clear hI
  have q2 : ((p.size : Int) == 0) = false := by rw [beq_eq_false_iff_ne]; omega
  by_cases hb : by_ % 256 = 0
  · have q : (by_ % 256 == 0) = true := by rw [hb]; rfl
    clear hb
    go_wp2_with fail
    refine (alive5_any _).mono ?_
    rintro e w6 ⟨rfl, hb6⟩
    go_wp2_with fail
    go_ret
    exact ⟨rfl, B5.trans hb6⟩
  have q : (by_ % 256 == 0) = false := by rw [beq_eq_false_iff_ne]; exact hb
  obtain ⟨M, hM⟩ : ∃ M : Int, at_.tmod (p.size : Int) = M := ⟨_, rfl⟩
  have hM1 : M < p.size := by rw [← hM]; exact Int.tmod_lt_of_pos _ (by omega)
  have hM2 : -(p.size : Int) < M := by rw [← hM]; exact Int.lt_tmod_of_pos _ (by omega)
  obtain ⟨B, hB⟩ : ∃ B : Nat, by_ % 256 = (B : Int) := ⟨(by_ % 256).toNat, by omega⟩
  have hB0 : B ≠ 0 := by omega
  have hB8 : B < 256 := by omega
  obtain ⟨K, hK⟩ : ∃ K : Nat, K < L.length ∧ (K : Int) = if M < 0 then M + p.size else M := by
    by_cases h : M < 0
    · exact ⟨(M + p.size).toNat, by omega, by rw [if_pos h]; omega⟩
    · exact ⟨M.toNat, by omega, by rw [if_neg h]; omega⟩
  have hc8 : L[K].toNat < 256 := UInt8.toNat_lt _
  have hx8 : L[K].toNat ^^^ B < 256 := Nat.xor_lt_two_pow (n := 8) hc8 hB8
  obtain ⟨c, hc⟩ : ∃ c : UInt8, c = UInt8.ofNat (L[K].toNat ^^^ B) := ⟨_, rfl⟩
  have hcn : c.toNat = L[K].toNat ^^^ B := by rw [hc, UInt8.toNat_ofNat']; exact Nat.mod_eq_of_lt hx8
  have hxor : bits .xor .u8 (L[K].toNat : Int) (by_ % 256) = (c.toNat : Int) := by
    rw [hB, hcn]
    exact u8_xor_nat _ _ hc8 hB8
  have hne : L.set K c ≠ L := by
    intro e
    have h1 : (L.set K c)[K]'(by simp; exact hK.1) = L[K] := by simp only [e]
    rw [List.getElem_set_self] at h1
    exact bxor_ne hB0 (by rw [← hcn, h1])
  obtain ⟨cap, hcap⟩ : ∃ cap, grownCap w5 p.size 0 5 = cap := ⟨_, rfl⟩
  have hconv := run_bytes_of_string (P := Tryd.prog) w5 9 51 5 p Tryd.underlying9 Tryd.underlying51 Tryd.underlying5
  have BR0 := BR.new w5 p (grownCap w5 p.size 0 5) 5 L HPS.out
  have hbD : Bl w5 (w5.drew.alloc (.cells (bytesRow p (grownCap w5 p.size 0 5)) 5 ((bytesRow p (grownCap w5 p.size 0 5)).size, (bytesRow p (grownCap w5 p.size 0 5)).size + 1))) := ((Bl.refl w5).drew).alloc _
  rw [hcap] at hconv BR0 hbD
  have hsz5 := B5.size
  have hgw := Y3.lt
  clear hcap
  generalize w5.drew.alloc (.cells (bytesRow p cap) 5 ((bytesRow p cap).size, (bytesRow p cap).size + 1)) = BW at *
  generalize w5.heap.size = g at *
  have BS := BR0.set K hK.1 c
  have ck := BR0.cells K hK.1
  have cf := BR0.free K hK.1
  have hst := run_convert_bytes_back (P := Tryd.prog) (BW.setCell ⟨g, K, none⟩ (.int .u8 (c.toNat : Int))) 51 9 5 ⟨g, 0, none⟩ cap (L.set K c) Tryd.underlying51 Tryd.underlying5 Tryd.underlying9 (fun j hj => by
    have := BS j hj
    by_cases h : j = 0
    · subst h; simpa [Addr.add] using this
    · simpa [Addr.add, h] using this)
  rw [List.length_set, ← hLz] at hst
  have HNE := Lib.hid hne
  have B6 : Bl w (BW.setCell ⟨g, K, none⟩ (.int .u8 (c.toNat : Int))) := (B5.trans hbD).setCell (p := ⟨g, K, none⟩) hsz5 _
  have Y6 : AC (BW.setCell ⟨g, K, none⟩ (.int .u8 (c.toNat : Int))) gw (verC key' a n ca o' t' 0 0 0 ⟨#[]⟩) := (Y3.keep hbD).other (by omega)
  have hI6 := hI0.keep B6
  have PL : SB ⟨(L.set K c).toArray⟩ (L.set K c) := SB.mk _
  have hl6 : (L.set K c).length ≤ 1000 := by rw [List.length_set]; omega
  have HPL := Lib.hid PL
  have HK1 := hK.1
  have HBS := Lib.hid BS
  generalize hx8n : L[K].toNat = xk at *
  generalize hcn8 : c.toNat = cn at *
  clear BS PL hne hc hcn hx8 hB hB0 hB8 hb BR0 Y3 B5 hbD hx8n
  generalize (⟨(L.set K c).toArray⟩ : ByteArray) = p2 at *
  have hK2 : K < p.size := by omega
  have hPz : p.size ≤ 1000 := by omega
  have HLZ := Lib.hid hLz
  clear hLz
  by_cases hM0 : M < 0
  · have hKe : M + (p.size : Int) = (K : Int) := by rw [hK.2, if_pos hM0]
    clear hK
    go_wp2_with fail
    clear hconv hst hxor cf ck
    refine (kget_any p2 (L.set K c) _ HPL.out (by omega)).mono ?_
    rintro e w7 (⟨key2, a2, n2, ca2, xs2, o2, t2, rfl, hF2, hb7, hv2, hp2⟩ | ⟨rfl, hb7, hno⟩)
    · have hdiff : decide (key2 = key' ∧ xs2 = xs' ∧ o2 = o' ∧ t2 = t') = false := decide_eq_false (by
        rintro ⟨rfl, rfl, rfl, rfl⟩
        exact HNE.out (hp2.symm.trans HL.out))
      have HD := Lib.hid hdiff
      clear hdiff
      have X7 := ver_box w7 key2 a2 n2 ca2 o2 t2 0 0 0 ⟨#[]⟩
      have hb8 : Bl w7 (w7.alloc (.cells #[.string key2, .slice a2 n2 ca2, .int .i64 o2, .int .i64 t2, .int .i64 0, .float .f64 0, .int .i64 0, .string ⟨#[]⟩] 30)) := (Bl.refl w7).alloc _
      have Y7 := (Y6.keep hb7).keep hb8
      have B7 := (Bl.trans B6 hb7).trans hb8
      have hF7 := hF2.1.keep hb8
      have hI7 := hI0.keep B7
      clear Y6 B6 hb7 hI6 hF2 HBS
      go_wp2_with fail
      refine (alive5_any _).mono ?_
      rintro e w9 ⟨rfl, hb9⟩
      obtain ⟨x0, x1, x2, x3, x4, x5, x6, x7⟩ := (X7.keep hb9).ver
      obtain ⟨y0, y1, y2, y3, y4, y5, y6, y7⟩ := (Y7.keep hb9).ver
      have B9 := B7.trans hb9
      have hF9 := hF7.keep hb9
      have hI9 := hI7.keep hb9
      clear hb8 hb9 X7 Y7 B7 hF7 hI7
      go_wp2_with fail
      refine (sameVer_any key2 a2 n2 ca2 xs2 o2 t2 key' a n ca xs' o' t' false _ hF9 hI9 HD).mono ?_
      rintro e w10 ⟨rfl, hb10⟩
      go_wp2_with fail
      go_ret
      exact ⟨rfl, B9.trans hb10⟩
    · have hb8 : Bl w7 (w7.alloc (.cells #[.string ⟨#[]⟩, .slice none 0 0, .int .i64 0, .int .i64 0, .int .i64 0, .float .f64 0, .int .i64 0, .string ⟨#[]⟩] 30)) := (Bl.refl w7).alloc _
      have B7 := (Bl.trans B6 hb7).trans hb8
      clear Y6 B6 hb7 hI6 HBS
      go_wp2_with fail
      refine (alive5_any _).mono ?_
      rintro e w9 ⟨rfl, hb9⟩
      go_wp2_with fail
      go_ret
      exact ⟨rfl, B7.trans hb9⟩
  · have hKe : M = (K : Int) := by rw [hK.2, if_neg hM0]
    subst hKe
    clear hK
    go_wp2_with fail
    clear hconv hst hxor cf ck
    refine (kget_any p2 (L.set K c) _ HPL.out (by omega)).mono ?_
    rintro e w7 (⟨key2, a2, n2, ca2, xs2, o2, t2, rfl, hF2, hb7, hv2, hp2⟩ | ⟨rfl, hb7, hno⟩)
    · have hdiff : decide (key2 = key' ∧ xs2 = xs' ∧ o2 = o' ∧ t2 = t') = false := decide_eq_false (by
        rintro ⟨rfl, rfl, rfl, rfl⟩
        exact HNE.out (hp2.symm.trans HL.out))
      have HD := Lib.hid hdiff
      clear hdiff
      have X7 := ver_box w7 key2 a2 n2 ca2 o2 t2 0 0 0 ⟨#[]⟩
      have hb8 : Bl w7 (w7.alloc (.cells #[.string key2, .slice a2 n2 ca2, .int .i64 o2, .int .i64 t2, .int .i64 0, .float .f64 0, .int .i64 0, .string ⟨#[]⟩] 30)) := (Bl.refl w7).alloc _
      have Y7 := (Y6.keep hb7).keep hb8
      have B7 := (Bl.trans B6 hb7).trans hb8
      have hF7 := hF2.1.keep hb8
      have hI7 := hI0.keep B7
      clear Y6 B6 hb7 hI6 hF2 HBS
      go_wp2_with fail
      refine (alive5_any _).mono ?_
      rintro e w9 ⟨rfl, hb9⟩
      obtain ⟨x0, x1, x2, x3, x4, x5, x6, x7⟩ := (X7.keep hb9).ver
      obtain ⟨y0, y1, y2, y3, y4, y5, y6, y7⟩ := (Y7.keep hb9).ver
      have B9 := B7.trans hb9
      have hF9 := hF7.keep hb9
      have hI9 := hI7.keep hb9
      clear hb8 hb9 X7 Y7 B7 hF7 hI7
      go_wp2_with fail
      refine (sameVer_any key2 a2 n2 ca2 xs2 o2 t2 key' a n ca xs' o' t' false _ hF9 hI9 HD).mono ?_
      rintro e w10 ⟨rfl, hb10⟩
      go_wp2_with fail
      go_ret
      exact ⟨rfl, B9.trans hb10⟩
    · have hb8 : Bl w7 (w7.alloc (.cells #[.string ⟨#[]⟩, .slice none 0 0, .int .i64 0, .int .i64 0, .int .i64 0, .float .f64 0, .int .i64 0, .string ⟨#[]⟩] 30)) := (Bl.refl w7).alloc _
      have B7 := (Bl.trans B6 hb7).trans hb8
      clear Y6 B6 hb7 hI6 HBS
      go_wp2_with fail
      refine (alive5_any _).mono ?_
      rintro e w9 ⟨rfl, hb9⟩
      go_wp2_with fail
      go_ret
      exact ⟨rfl, B7.trans hb9⟩
end Go.Proofs.YtgdlcoicejgdkaaDoor
