import Derived.Test.YtfmabjoindlfeaaGreatQTxnTellsUptoP20
import Derived.Test.YtfmabjoindlfeaaGreatQTxnTellsUptoP29
import Derived.Test.YtfmabjoindlfeaaGreatQTxnTellsUptoP18
import Derived.Laws.MathBits
import Derived.Test.YtfmabjoindlfeaaGreatQTxnTellsUptoP9
import Derived.Deep.DeepCutAuto
import Derived.Outline
import Derived.Test.YtfmabjoindlfeaaGreatQTxnTellsUptoP23

/- real.Get. By an AI agent. -/
section
namespace Go.Proofs.YtfmabjoindlfeaaGreat
open Go.RowKit

theorem rget_no (s : ByteArray) (w : World) (hs : s.size ≠ 8) : Calls Tryz.prog 205 #[.string s] w fun e w' => e = .returned (.tuple #[.float .f64 0, .int .i64 4]) ∧ w = w' := by
  go_enter Tryz.func205, Tryz.ntmps205
  go_wp2_with fail
  go_ret2
  exact ⟨rfl, rfl⟩

theorem selfN {x : Nat} (hx : x < two64) : (FloatKind.f64.format.order x x != some .eq) = nanB x := self_nan hx
theorem back_hi {v : Nat} (hv : v < two64) (k : two63 ≤ v) : ∃ f : Nat, bits .andNot .u64 (v : Int) 9223372036854775808 = (f : Int) ∧ backW v = f ∧ (FloatKind.f64.format.order f f != some .eq) = nanB f := by
  have h : backW v = v - two63 := by unfold backW; rw [if_pos k]
  exact ⟨backW v, by rw [h]; exact andNot_top v hv k, rfl, selfN (backW_lt hv)⟩
theorem back_lo {v : Nat} (hv : v < two64) (k : ¬ two63 ≤ v) : ∃ f : Nat, bits .xor .u64 IntKind.u64.max (v : Int) = (f : Int) ∧ backW v = f ∧ (FloatKind.f64.format.order f f != some .eq) = nanB f := by
  have h : backW v = two64 - 1 - v := by unfold backW; rw [if_neg k]
  exact ⟨backW v, by rw [h]; exact xor_max v hv, rfl, selfN (backW_lt hv)⟩

set_option maxHeartbeats 1600000 in
set_option maxRecDepth 100000 in
theorem rget_any (s : ByteArray) (w : World) (hs : s.size = 8) :
    Calls Tryz.prog 205 #[.string s] w fun e w' => e = .returned (.tuple #[.float .f64 (getR (getN s.data.toList).toNat).1, .int .i64 (getR (getN s.data.toList).toNat).2]) ∧ w = w' := by
  have hfb := run_frombits
  go_enter Tryz.func205, Tryz.ntmps205
  go_wp2_with fail
  go_loop [4, 10] (fun v i => ∃ (k : Nat) (u : Int), k ≤ 8 ∧ i = .int .i64 k ∧ v = .int .u64 u ∧ u = getN (s.data.toList.take k)) (fun _ i => 8 - (intOf i).toNat)
  case atStart => exact ⟨0, 0, Nat.zero_le _, rfl, rfl, rfl⟩
  case round =>
    obtain ⟨k, u, hk, rfl, rfl, ha⟩ := hrel
    have hbd := getN_bound (s.data.toList.take k)
    rw [← ha] at hbd
    have HA := Lib.hid ha; clear ha
    by_cases hlt : k < 8
    · have hlt2 : k < s.size := by omega
      have h6 : u * 256 + 255 < 18446744073709551616 := by
        have h2 := hbd.2
        have : (s.data.toList.take k).length ≤ 7 := Nat.le_trans (List.length_take_le _ _) (by omega)
        have h3 : (256 : Int) ^ (s.data.toList.take k).length ≤ 256 ^ 7 := by
          have := Nat.pow_le_pow_right (show 0 < 256 by decide) this
          exact_mod_cast this
        omega
      have h0 := hbd.1
      clear hbd
      have HO := Lib.hid (or_u8 u s[k].toNat h0 h6 (by omega) (by have := UInt8.toNat_lt s[k]; omega))
      have HT := Lib.hid (getN_take hlt2)
      go_wp2
      go_round
      case rel => exact ⟨k + 1, _, by omega, by go_num, rfl, by rw [wraps_u64' _ (by omega) (by have := UInt8.toNat_lt s[k]; omega), HO.out, HT.out, HA.out]⟩
      case measure => simp [intOf]; omega
    · have HE := Lib.hid (show s.data.toList.take k = s.data.toList from List.take_of_length_le (by simp; omega))
      rw [HE.out] at HA
      clear HE
      have hu : u < 18446744073709551616 := by
        have h2 := hbd.2
        have h4 : (s.data.toList.take k).length ≤ 8 := Nat.le_trans (List.length_take_le _ _) (by omega)
        have h3 : (256 : Int) ^ (s.data.toList.take k).length ≤ 256 ^ 8 := by
          have := Nat.pow_le_pow_right (show 0 < 256 by decide) h4
          exact_mod_cast this
        omega
      obtain ⟨v, rfl⟩ := Int.eq_ofNat_of_zero_le hbd.1
      have hv : v < two64 := by unfold two64; omega
      clear hbd hu
      have EV := Lib.hid (show (getN s.data.toList).toNat = v by rw [← HA.out]; simp)
      clear HA
      by_cases h0 : v = 0
      · subst h0
        go_wp2_with fail
        refine (nan_is _).mono ?_
        rintro e w1 ⟨rfl, rfl⟩
        go_wp2_with fail
        go_ret2
        exact ⟨by rw [EV.out]; rfl, rfl⟩
      · have q0 : ((v : Int) == 0) = false := by simpa using h0
        have ha := and_top v hv
        by_cases k1 : two63 ≤ v
        · rw [if_pos k1] at ha
          obtain ⟨f, hn, hB0, hs⟩ := back_hi hv k1
          have hB := Lib.hid hB0
          have HV := Lib.hid h0
          clear h0 k1 hB0
          cases hf : nanB f
          · rw [hf] at hs
            go_wp2_with fail
            go_ret2
            exact ⟨by rw [EV.out]; unfold getR; rw [if_neg HV.out, hB.out, hf]; rfl, rfl⟩
          · rw [hf] at hs
            go_wp2_with fail
            go_ret2
            exact ⟨by rw [EV.out]; unfold getR; rw [if_neg HV.out, hB.out, hf]; rfl, rfl⟩
        · rw [if_neg k1] at ha
          have hsg : IntKind.u64.signed = false := rfl
          obtain ⟨f, hn, hB0, hs⟩ := back_lo hv k1
          have hB := Lib.hid hB0
          have HV := Lib.hid h0
          clear h0 k1 hB0
          cases hf : nanB f
          · rw [hf] at hs
            go_wp2_with fail
            go_ret2
            exact ⟨by rw [EV.out]; unfold getR; rw [if_neg HV.out, hB.out, hf]; rfl, rfl⟩
          · rw [hf] at hs
            go_wp2_with fail
            go_ret2
            exact ⟨by rw [EV.out]; unfold getR; rw [if_neg HV.out, hB.out, hf]; rfl, rfl⟩
end Go.Proofs.YtfmabjoindlfeaaGreat
end

/- op.read. · op.want, op.num, op.read. · op.Get. By an AI agent. -/
section
namespace Go.Proofs.YtfmabjoindlfeaaGreat
open Go.RowKit

/-- the panic of what can't be read -/
def panE : Ending := .panicked [{ v := .iface 49 (.int .i64 4), recovered := false }]
theorem want_yes (w : World) : Calls Tryz.prog 199 #[.bool true] w fun e w' => e = .returned (.tuple #[]) ∧ w = w' := by
  go_enter Tryz.func199, Tryz.ntmps199
  go_wp2_with fail
  go_end0
  exact ⟨rfl, rfl⟩
theorem want_no (w : World) : Calls Tryz.prog 199 #[.bool false] w fun e w' => e = panE ∧ w = w' := by
  go_enter Tryz.func199, Tryz.ntmps199
  go_wp2_with fail
  exact ⟨rfl, rfl, rfl⟩
/-- a number, or the panic -/
def onumE (m : List UInt8) : Ending := if m.length = 8 ∧ (getR (getN m).toNat).2 = 0 then .returned (.float .f64 (getR (getN m).toNat).1) else panE
theorem onum_any (s : ByteArray) (m : List UInt8) (w : World) (hs : SB s m) :
    Calls Tryz.prog 200 #[.string s] w fun e w' => e = onumE m ∧ w = w' := by
  have HS := Lib.hid hs
  have hz := hs.size
  by_cases h8 : s.size = 8
  · have hl : m.length = 8 := by omega
    have hm : s.data.toList = m := hs
    have hc : (getR (getN m).toNat).2 = 0 ∨ (getR (getN m).toNat).2 = 4 := by
      unfold getR
      split
      · exact .inl rfl
      · split
        · exact .inr rfl
        · exact .inl rfl
    have HG := Lib.hid (fun W => rget_any s W h8)
    rw [hm] at HG
    have HE := Lib.hid (show onumE m = if m.length = 8 ∧ (getR (getN m).toNat).2 = 0 then .returned (.float .f64 (getR (getN m).toNat).1) else panE from rfl)
    generalize onumE m = E at *
    generalize getR (getN m).toNat = r at *
    obtain ⟨f, c⟩ := r
    simp only at hc
    clear hm hs
    rcases hc with rfl | rfl
    · have HE2 : Hid (E = .returned (.float .f64 f)) := Lib.hid (by rw [HE.out, if_pos ⟨hl, rfl⟩])
      clear HE hl hz
      go_enter Tryz.func200, Tryz.ntmps200
      go_wp2_with fail
      refine (HG.out _).mono ?_
      rintro e w' ⟨rfl, rfl⟩
      go_wp2_with fail
      refine (want_yes _).mono ?_
      rintro e w' ⟨rfl, rfl⟩
      go_wp2_with fail
      go_ret
      exact ⟨HE2.out.symm, rfl⟩
    · have HE2 : Hid (E = panE) := Lib.hid (by rw [HE.out, if_neg (fun h => absurd h.2 (by simp))])
      clear HE hl hz
      go_enter Tryz.func200, Tryz.ntmps200
      go_wp2_with fail
      refine (HG.out _).mono ?_
      rintro e w' ⟨rfl, rfl⟩
      go_wp2_with fail
      refine (want_no _).mono ?_
      rintro e w' ⟨rfl, rfl⟩
      unfold panE
      go_wp2_with fail
      exact ⟨rfl, HE2.out.symm, rfl⟩
  · have HE2 : Hid (onumE m = panE) := Lib.hid (if_neg (fun h => by have := h.1; omega))
    generalize onumE m = E at *
    clear hz hs HS
    go_enter Tryz.func200, Tryz.ntmps200
    go_wp2_with fail
    refine (rget_no s _ h8).mono ?_
    rintro e w' ⟨rfl, rfl⟩
    go_wp2_with fail
    refine (want_no _).mono ?_
    rintro e w' ⟨rfl, rfl⟩
    unfold panE
    go_wp2_with fail
    exact ⟨rfl, HE2.out.symm, rfl⟩
end Go.Proofs.YtfmabjoindlfeaaGreat

namespace Go.Proofs.YtfmabjoindlfeaaGreat
open Go.RowKit

/-- an act, or the panic -/
def readE (r : ActL × Int) : Ending := if r.2 = 0 then .returned (.agg #[.int .i64 r.1.k, .float .f64 r.1.x, .int .i64 r.1.n, .string r.1.s]) else panE
theorem clone_any (s : ByteArray) (w : World) (hs : s.size ≤ 1025) : Calls Tryz.prog 140 #[.string s] w fun e w' => e = .returned (.string s) ∧ Bl w w' := by
  go_enter Tryz.func140, Tryz.ntmps140
  go_wp2_with fail
  refine (Tryz.stringslite_Clone s _ (by omega)).mono ?_
  rintro e w' ⟨rfl, hb⟩
  go_wp2_with fail
  go_ret
  exact ⟨rfl, hb⟩
/-- the two boxes of op.read -/
structure RB (w W : World) (cs : List Value) : Prop where
  bl : Bl w W
  r : AC W w.heap.size [.int .i64 0, .float .f64 0, .int .i64 0, .string ⟨#[]⟩]
  t : AC W (w.heap.size + 1) cs
theorem RB.keep {w W W' : World} {cs : List Value} (h : RB w W cs) (k : Bl W W') : RB w W' cs := ⟨h.bl.trans k, h.r.keep k, h.t.keep k⟩
theorem RB.new (w : World) (T U : TypeId) (cs : List Value) : RB w ((w.alloc (.cells #[.int .i64 0, .float .f64 0, .int .i64 0, .string ⟨#[]⟩] T)).alloc (.cells cs.toArray U)) cs :=
  ⟨((Bl.refl w).alloc _).alloc _, (AC.new w _ rfl [.int .i64 0, .float .f64 0, .int .i64 0, .string ⟨#[]⟩] T).keep ((Bl.refl _).alloc _), AC.new _ (w.heap.size + 1) (by simp) cs U⟩
theorem RB.cells {w W : World} {a b c d : Value} (h : RB w W [a, b, c, d]) :
    W.cell? ⟨w.heap.size, 0, none⟩ = some (.int .i64 0) ∧ W.cell? ⟨w.heap.size, 1, none⟩ = some (.float .f64 0) ∧ W.cell? ⟨w.heap.size, 2, none⟩ = some (.int .i64 0) ∧ W.cell? ⟨w.heap.size, 3, none⟩ = some (.string ⟨#[]⟩) ∧
    W.cell? ⟨w.heap.size + 1, 0, none⟩ = some a ∧ W.cell? ⟨w.heap.size + 1, 1, none⟩ = some b ∧ W.cell? ⟨w.heap.size + 1, 2, none⟩ = some c ∧ W.cell? ⟨w.heap.size + 1, 3, none⟩ = some d :=
  ⟨h.r.cell 0 _ rfl, h.r.cell 1 _ rfl, h.r.cell 2 _ rfl, h.r.cell 3 _ rfl, h.t.cell 0 _ rfl, h.t.cell 1 _ rfl, h.t.cell 2 _ rfl, h.t.cell 3 _ rfl⟩
theorem RB.thaw {w W : World} {cs : List Value} (h : RB w W cs) : (∀ j, W.frozen? ⟨w.heap.size, j, none⟩ = false) ∧ (∀ j, W.frozen? ⟨w.heap.size + 1, j, none⟩ = false) := ⟨h.r.frozen, h.t.frozen⟩

theorem AC.put {W : World} {g j : Nat} {cs : List Value} (h : AC W g cs) (v : Value) : AC (W.setCell ⟨g, j, none⟩ v) g (cs.set j v) := by
  obtain ⟨t, h⟩ := h
  refine ⟨t, ?_⟩
  rw [heap_setCell_same W g j _ t v h]
  simp
theorem RB.put {w W : World} {cs : List Value} (h : RB w W cs) (j : Nat) (v : Value) : RB w (W.setCell ⟨w.heap.size + 1, j, none⟩ v) (cs.set j v) :=
  ⟨h.bl.setCell (p := ⟨w.heap.size + 1, j, none⟩) (Nat.le_succ _) v, h.r.other (by omega), h.t.put v⟩

set_option maxRecDepth 100000 in
theorem read_nil (s : ByteArray) (w : World) (h : s.toList.isEmpty = true) : Calls Tryz.prog 188 #[.string s] w fun e w' => e = panE ∧ Bl w w' := by
  go_enter Tryz.func188, Tryz.ntmps188
  go_wp2_with fail
  refine (want_no _).mono ?_
  rintro e w' ⟨rfl, rfl⟩
  unfold panE
  go_wp2_with fail
  exact ⟨rfl, rfl, (Bl.refl w).alloc _⟩
set_option maxHeartbeats 1600000 in
set_option maxRecDepth 100000 in
theorem read_bad (s r : ByteArray) (w : World) (h : s.toList.isEmpty = false) (hp : 0 < s.size) (hr : s.extract 1 s.size = r) (kv : Int) (hc : wrap64 (s[0].toNat : Int) = kv) (q0 : (kv == 0) = false) (q1 : (kv == 1) = false) (q2 : (kv == 2) = false) (q3 : (kv == 3) = false) (q4 : (kv == 4) = false) :
    Calls Tryz.prog 188 #[.string s] w fun e w' => e = panE ∧ Bl w w' := by
  have hsf := store_float
  go_enter Tryz.func188, Tryz.ntmps188
  go_wp2_with fail
  refine (want_yes _).mono ?_
  rintro e w' ⟨rfl, rfl⟩
  go_upto_region 4 with fail
  have G := RB.new w 61 61 [.int .i64 kv, .float .f64 0, .int .i64 0, .string ⟨#[]⟩]
  generalize (w.alloc (.cells #[.int .i64 0, .float .f64 0, .int .i64 0, .string ⟨#[]⟩] 61)).alloc (.cells #[.int .i64 kv, .float .f64 0, .int .i64 0, .string ⟨#[]⟩] 61) = W at *
  obtain ⟨r0, r1, r2', r3, t0, t1, t2, t3⟩ := G.cells
  obtain ⟨fr, ft⟩ := G.thaw
  go_wp2_with fail
  refine (want_no _).mono ?_
  rintro e w' ⟨rfl, rfl⟩
  unfold panE
  go_wp2_with fail
  exact ⟨rfl, rfl, G.bl⟩
set_option maxHeartbeats 1600000 in
set_option maxRecDepth 100000 in
theorem read_clear_no (s r : ByteArray) (w : World) (h : s.toList.isEmpty = false) (hp : 0 < s.size) (hr : s.extract 1 s.size = r) (hc : wrap64 (s[0].toNat : Int) = 4) (q : r.toList.isEmpty = false) :
    Calls Tryz.prog 188 #[.string s] w fun e w' => e = panE ∧ Bl w w' := by
  have hsf := store_float
  go_enter Tryz.func188, Tryz.ntmps188
  go_wp2_with fail
  refine (want_yes _).mono ?_
  rintro e w' ⟨rfl, rfl⟩
  go_upto_region 4 with fail
  have G := RB.new w 61 61 [.int .i64 4, .float .f64 0, .int .i64 0, .string ⟨#[]⟩]
  generalize (w.alloc (.cells #[.int .i64 0, .float .f64 0, .int .i64 0, .string ⟨#[]⟩] 61)).alloc (.cells #[.int .i64 4, .float .f64 0, .int .i64 0, .string ⟨#[]⟩] 61) = W at *
  obtain ⟨r0, r1, r2', r3, t0, t1, t2, t3⟩ := G.cells
  obtain ⟨fr, ft⟩ := G.thaw
  go_wp2_with fail
  refine (want_no _).mono ?_
  rintro e w' ⟨rfl, rfl⟩
  unfold panE
  go_wp2_with fail
  exact ⟨rfl, rfl, G.bl⟩
set_option maxHeartbeats 1600000 in
set_option maxRecDepth 100000 in
theorem read_clear (s r : ByteArray) (w : World) (h : s.toList.isEmpty = false) (hp : 0 < s.size) (hr : s.extract 1 s.size = r) (hc : wrap64 (s[0].toNat : Int) = 4) (q : r.toList.isEmpty = true) :
    Calls Tryz.prog 188 #[.string s] w fun e w' => e = .returned (.agg #[.int .i64 4, .float .f64 0, .int .i64 0, .string ⟨#[]⟩]) ∧ Bl w w' := by
  have hsf := store_float
  go_enter Tryz.func188, Tryz.ntmps188
  go_wp2_with fail
  refine (want_yes _).mono ?_
  rintro e w' ⟨rfl, rfl⟩
  go_upto_region 4 with fail
  have G := RB.new w 61 61 [.int .i64 4, .float .f64 0, .int .i64 0, .string ⟨#[]⟩]
  generalize (w.alloc (.cells #[.int .i64 0, .float .f64 0, .int .i64 0, .string ⟨#[]⟩] 61)).alloc (.cells #[.int .i64 4, .float .f64 0, .int .i64 0, .string ⟨#[]⟩] 61) = W at *
  obtain ⟨r0, r1, r2', r3, t0, t1, t2, t3⟩ := G.cells
  obtain ⟨fr, ft⟩ := G.thaw
  go_wp2_with fail
  refine (want_yes _).mono ?_
  rintro e w' ⟨rfl, rfl⟩
  go_wp2_with fail
  have R := G.r.set4 (.int .i64 4) (.float .f64 0) (.int .i64 0) (.string ⟨#[]⟩)
  obtain ⟨d0, d1, d2, d3⟩ := R.act
  refine bodyPost_ret (v := .agg #[.int .i64 4, .float .f64 0, .int .i64 0, .string ⟨#[]⟩]) (by simp [results, Tryz.results188, go_sem, d0, d1, d2, d3]) rfl ⟨rfl, G.bl.store4 (Nat.le_refl _) _ _ _ _⟩
set_option maxHeartbeats 1600000 in
set_option maxRecDepth 100000 in
theorem read_num2_no (s r : ByteArray) (w : World) (h : s.toList.isEmpty = false) (hp : 0 < s.size) (hr : s.extract 1 s.size = r) (hc : wrap64 (s[0].toNat : Int) = 2) (m : List UInt8) (HS : Hid (SB r m)) (HE : Hid (onumE m = panE)) :
    Calls Tryz.prog 188 #[.string s] w fun e w' => e = panE ∧ Bl w w' := by
  have hsf := store_float
  go_enter Tryz.func188, Tryz.ntmps188
  go_wp2_with fail
  refine (want_yes _).mono ?_
  rintro e w' ⟨rfl, rfl⟩
  go_upto_region 4 with fail
  have G := RB.new w 61 61 [.int .i64 2, .float .f64 0, .int .i64 0, .string ⟨#[]⟩]
  generalize (w.alloc (.cells #[.int .i64 0, .float .f64 0, .int .i64 0, .string ⟨#[]⟩] 61)).alloc (.cells #[.int .i64 2, .float .f64 0, .int .i64 0, .string ⟨#[]⟩] 61) = W at *
  obtain ⟨r0, r1, r2', r3, t0, t1, t2, t3⟩ := G.cells
  obtain ⟨fr, ft⟩ := G.thaw
  go_wp2_with fail
  refine (onum_any r m _ HS.out).mono ?_
  rintro e w' ⟨rfl, rfl⟩
  rw [HE.out]
  unfold panE
  go_wp2_with fail
  exact ⟨rfl, rfl, G.bl⟩
set_option maxHeartbeats 1600000 in
set_option maxRecDepth 100000 in
theorem read_num2 (s r : ByteArray) (w : World) (h : s.toList.isEmpty = false) (hp : 0 < s.size) (hr : s.extract 1 s.size = r) (hc : wrap64 (s[0].toNat : Int) = 2) (m : List UInt8) (x : Nat) (HS : Hid (SB r m)) (HE : Hid (onumE m = .returned (.float .f64 x))) :
    Calls Tryz.prog 188 #[.string s] w fun e w' => e = .returned (.agg #[.int .i64 2, .float .f64 x, .int .i64 0, .string ⟨#[]⟩]) ∧ Bl w w' := by
  have hsf := store_float
  go_enter Tryz.func188, Tryz.ntmps188
  go_wp2_with fail
  refine (want_yes _).mono ?_
  rintro e w' ⟨rfl, rfl⟩
  go_upto_region 4 with fail
  have G := RB.new w 61 61 [.int .i64 2, .float .f64 0, .int .i64 0, .string ⟨#[]⟩]
  generalize (w.alloc (.cells #[.int .i64 0, .float .f64 0, .int .i64 0, .string ⟨#[]⟩] 61)).alloc (.cells #[.int .i64 2, .float .f64 0, .int .i64 0, .string ⟨#[]⟩] 61) = W at *
  obtain ⟨r0, r1, r2', r3, t0, t1, t2, t3⟩ := G.cells
  obtain ⟨fr, ft⟩ := G.thaw
  go_wp2_with fail
  refine (onum_any r m _ HS.out).mono ?_
  rintro e w' ⟨rfl, rfl⟩
  rw [HE.out]
  go_wp2_with fail
  have G := G.put 1 (.float .f64 x)
  have R := G.r.set4 (.int .i64 2) (.float .f64 x) (.int .i64 0) (.string ⟨#[]⟩)
  obtain ⟨d0, d1, d2, d3⟩ := R.act
  refine bodyPost_ret (v := .agg #[.int .i64 2, .float .f64 x, .int .i64 0, .string ⟨#[]⟩]) (by simp [results, Tryz.results188, go_sem, d0, d1, d2, d3]) rfl ⟨rfl, G.bl.store4 (Nat.le_refl _) _ _ _ _⟩
set_option maxHeartbeats 1600000 in
set_option maxRecDepth 100000 in
theorem read_num3_no (s r : ByteArray) (w : World) (h : s.toList.isEmpty = false) (hp : 0 < s.size) (hr : s.extract 1 s.size = r) (hc : wrap64 (s[0].toNat : Int) = 3) (m : List UInt8) (HS : Hid (SB r m)) (HE : Hid (onumE m = panE)) :
    Calls Tryz.prog 188 #[.string s] w fun e w' => e = panE ∧ Bl w w' := by
  have hsf := store_float
  go_enter Tryz.func188, Tryz.ntmps188
  go_wp2_with fail
  refine (want_yes _).mono ?_
  rintro e w' ⟨rfl, rfl⟩
  go_upto_region 4 with fail
  have G := RB.new w 61 61 [.int .i64 3, .float .f64 0, .int .i64 0, .string ⟨#[]⟩]
  generalize (w.alloc (.cells #[.int .i64 0, .float .f64 0, .int .i64 0, .string ⟨#[]⟩] 61)).alloc (.cells #[.int .i64 3, .float .f64 0, .int .i64 0, .string ⟨#[]⟩] 61) = W at *
  obtain ⟨r0, r1, r2', r3, t0, t1, t2, t3⟩ := G.cells
  obtain ⟨fr, ft⟩ := G.thaw
  go_wp2_with fail
  refine (onum_any r m _ HS.out).mono ?_
  rintro e w' ⟨rfl, rfl⟩
  rw [HE.out]
  unfold panE
  go_wp2_with fail
  exact ⟨rfl, rfl, G.bl⟩
set_option maxHeartbeats 1600000 in
set_option maxRecDepth 100000 in
theorem read_num3 (s r : ByteArray) (w : World) (h : s.toList.isEmpty = false) (hp : 0 < s.size) (hr : s.extract 1 s.size = r) (hc : wrap64 (s[0].toNat : Int) = 3) (m : List UInt8) (x : Nat) (HS : Hid (SB r m)) (HE : Hid (onumE m = .returned (.float .f64 x))) :
    Calls Tryz.prog 188 #[.string s] w fun e w' => e = .returned (.agg #[.int .i64 3, .float .f64 x, .int .i64 0, .string ⟨#[]⟩]) ∧ Bl w w' := by
  have hsf := store_float
  go_enter Tryz.func188, Tryz.ntmps188
  go_wp2_with fail
  refine (want_yes _).mono ?_
  rintro e w' ⟨rfl, rfl⟩
  go_upto_region 4 with fail
  have G := RB.new w 61 61 [.int .i64 3, .float .f64 0, .int .i64 0, .string ⟨#[]⟩]
  generalize (w.alloc (.cells #[.int .i64 0, .float .f64 0, .int .i64 0, .string ⟨#[]⟩] 61)).alloc (.cells #[.int .i64 3, .float .f64 0, .int .i64 0, .string ⟨#[]⟩] 61) = W at *
  obtain ⟨r0, r1, r2', r3, t0, t1, t2, t3⟩ := G.cells
  obtain ⟨fr, ft⟩ := G.thaw
  go_wp2_with fail
  refine (onum_any r m _ HS.out).mono ?_
  rintro e w' ⟨rfl, rfl⟩
  rw [HE.out]
  go_wp2_with fail
  have G := G.put 1 (.float .f64 x)
  have R := G.r.set4 (.int .i64 3) (.float .f64 x) (.int .i64 0) (.string ⟨#[]⟩)
  obtain ⟨d0, d1, d2, d3⟩ := R.act
  refine bodyPost_ret (v := .agg #[.int .i64 3, .float .f64 x, .int .i64 0, .string ⟨#[]⟩]) (by simp [results, Tryz.results188, go_sem, d0, d1, d2, d3]) rfl ⟨rfl, G.bl.store4 (Nat.le_refl _) _ _ _ _⟩
set_option maxHeartbeats 1600000 in
set_option maxRecDepth 100000 in
theorem read_set_nil (s r : ByteArray) (w : World) (h : s.toList.isEmpty = false) (hp : 0 < s.size) (hr : s.extract 1 s.size = r) (hc : wrap64 (s[0].toNat : Int) = 0) (q : r.toList.isEmpty = true) :
    Calls Tryz.prog 188 #[.string s] w fun e w' => e = panE ∧ Bl w w' := by
  have hsf := store_float
  go_enter Tryz.func188, Tryz.ntmps188
  go_wp2_with fail
  refine (want_yes _).mono ?_
  rintro e w' ⟨rfl, rfl⟩
  go_upto_region 4 with fail
  have G := RB.new w 61 61 [.int .i64 0, .float .f64 0, .int .i64 0, .string ⟨#[]⟩]
  generalize (w.alloc (.cells #[.int .i64 0, .float .f64 0, .int .i64 0, .string ⟨#[]⟩] 61)).alloc (.cells #[.int .i64 0, .float .f64 0, .int .i64 0, .string ⟨#[]⟩] 61) = W at *
  obtain ⟨r0, r1, r2', r3, t0, t1, t2, t3⟩ := G.cells
  obtain ⟨fr, ft⟩ := G.thaw
  go_wp2_with fail
  refine (want_no _).mono ?_
  rintro e w' ⟨rfl, rfl⟩
  unfold panE
  go_wp2_with fail
  exact ⟨rfl, rfl, G.bl⟩
set_option maxHeartbeats 1600000 in
set_option maxRecDepth 100000 in
theorem read_set_bad (s r : ByteArray) (w : World) (h : s.toList.isEmpty = false) (hp : 0 < s.size) (hr : s.extract 1 s.size = r) (hc : wrap64 (s[0].toNat : Int) = 0) (q : r.toList.isEmpty = false) (rp : 0 < r.size) (p0 : ((r[0].toNat : Int) == 110) = false) (p1 : ((r[0].toNat : Int) == 116) = false) :
    Calls Tryz.prog 188 #[.string s] w fun e w' => e = panE ∧ Bl w w' := by
  have hsf := store_float
  go_enter Tryz.func188, Tryz.ntmps188
  go_wp2_with fail
  refine (want_yes _).mono ?_
  rintro e w' ⟨rfl, rfl⟩
  go_upto_region 4 with fail
  have G := RB.new w 61 61 [.int .i64 0, .float .f64 0, .int .i64 0, .string ⟨#[]⟩]
  generalize (w.alloc (.cells #[.int .i64 0, .float .f64 0, .int .i64 0, .string ⟨#[]⟩] 61)).alloc (.cells #[.int .i64 0, .float .f64 0, .int .i64 0, .string ⟨#[]⟩] 61) = W at *
  obtain ⟨r0, r1, r2', r3, t0, t1, t2, t3⟩ := G.cells
  obtain ⟨fr, ft⟩ := G.thaw
  go_wp2_with fail
  refine (want_yes _).mono ?_
  rintro e w' ⟨rfl, rfl⟩
  go_wp2_with fail
  refine (want_no _).mono ?_
  rintro e w' ⟨rfl, rfl⟩
  unfold panE
  go_wp2_with fail
  exact ⟨rfl, rfl, G.bl⟩
set_option maxHeartbeats 1600000 in
set_option maxRecDepth 100000 in
theorem read_setn_no (s r : ByteArray) (w : World) (h : s.toList.isEmpty = false) (hp : 0 < s.size) (hr : s.extract 1 s.size = r) (hc : wrap64 (s[0].toNat : Int) = 0) (q : r.toList.isEmpty = false) (rp : 0 < r.size) (r2 : ByteArray) (hr2 : r.extract 1 r.size = r2) (p0 : ((r[0].toNat : Int) == 110) = true) (m : List UInt8) (HS : Hid (SB r2 m)) (HE : Hid (onumE m = panE)) :
    Calls Tryz.prog 188 #[.string s] w fun e w' => e = panE ∧ Bl w w' := by
  have hsf := store_float
  go_enter Tryz.func188, Tryz.ntmps188
  go_wp2_with fail
  refine (want_yes _).mono ?_
  rintro e w' ⟨rfl, rfl⟩
  go_upto_region 4 with fail
  have G := RB.new w 61 61 [.int .i64 0, .float .f64 0, .int .i64 0, .string ⟨#[]⟩]
  generalize (w.alloc (.cells #[.int .i64 0, .float .f64 0, .int .i64 0, .string ⟨#[]⟩] 61)).alloc (.cells #[.int .i64 0, .float .f64 0, .int .i64 0, .string ⟨#[]⟩] 61) = W at *
  obtain ⟨r0, r1, r2', r3, t0, t1, t2, t3⟩ := G.cells
  obtain ⟨fr, ft⟩ := G.thaw
  go_wp2_with fail
  refine (want_yes _).mono ?_
  rintro e w' ⟨rfl, rfl⟩
  go_wp2_with fail
  refine (onum_any r2 m _ HS.out).mono ?_
  rintro e w' ⟨rfl, rfl⟩
  rw [HE.out]
  unfold panE
  go_wp2_with fail
  exact ⟨rfl, rfl, G.bl⟩
set_option maxHeartbeats 1600000 in
set_option maxRecDepth 100000 in
theorem read_setn (s r : ByteArray) (w : World) (h : s.toList.isEmpty = false) (hp : 0 < s.size) (hr : s.extract 1 s.size = r) (hc : wrap64 (s[0].toNat : Int) = 0) (q : r.toList.isEmpty = false) (rp : 0 < r.size) (r2 : ByteArray) (hr2 : r.extract 1 r.size = r2) (p0 : ((r[0].toNat : Int) == 110) = true) (m : List UInt8) (x : Nat) (HS : Hid (SB r2 m)) (HE : Hid (onumE m = .returned (.float .f64 x))) :
    Calls Tryz.prog 188 #[.string s] w fun e w' => e = .returned (.agg #[.int .i64 0, .float .f64 x, .int .i64 0, .string ⟨#[]⟩]) ∧ Bl w w' := by
  have hsf := store_float
  go_enter Tryz.func188, Tryz.ntmps188
  go_wp2_with fail
  refine (want_yes _).mono ?_
  rintro e w' ⟨rfl, rfl⟩
  go_upto_region 4 with fail
  have G := RB.new w 61 61 [.int .i64 0, .float .f64 0, .int .i64 0, .string ⟨#[]⟩]
  generalize (w.alloc (.cells #[.int .i64 0, .float .f64 0, .int .i64 0, .string ⟨#[]⟩] 61)).alloc (.cells #[.int .i64 0, .float .f64 0, .int .i64 0, .string ⟨#[]⟩] 61) = W at *
  obtain ⟨r0, r1, r2', r3, t0, t1, t2, t3⟩ := G.cells
  obtain ⟨fr, ft⟩ := G.thaw
  go_wp2_with fail
  refine (want_yes _).mono ?_
  rintro e w' ⟨rfl, rfl⟩
  go_wp2_with fail
  refine (onum_any r2 m _ HS.out).mono ?_
  rintro e w' ⟨rfl, rfl⟩
  rw [HE.out]
  go_wp2_with fail
  have G := G.put 1 (.float .f64 x)
  have R := G.r.set4 (.int .i64 0) (.float .f64 x) (.int .i64 0) (.string ⟨#[]⟩)
  obtain ⟨d0, d1, d2, d3⟩ := R.act
  refine bodyPost_ret (v := .agg #[.int .i64 0, .float .f64 x, .int .i64 0, .string ⟨#[]⟩]) (by simp [results, Tryz.results188, go_sem, d0, d1, d2, d3]) rfl ⟨rfl, G.bl.store4 (Nat.le_refl _) _ _ _ _⟩
set_option maxHeartbeats 1600000 in
set_option maxRecDepth 100000 in
theorem read_sett_no (s r : ByteArray) (w : World) (h : s.toList.isEmpty = false) (hp : 0 < s.size) (hr : s.extract 1 s.size = r) (hc : wrap64 (s[0].toNat : Int) = 0) (q : r.toList.isEmpty = false) (rp : 0 < r.size) (p0 : ((r[0].toNat : Int) == 110) = false) (p1 : ((r[0].toNat : Int) == 116) = true) (hl : r.size ≤ 1 ∨ (1 < r.size ∧ decide ((r.size : Int) ≤ 1025) = false)) :
    Calls Tryz.prog 188 #[.string s] w fun e w' => e = panE ∧ Bl w w' := by
  have hsf := store_float
  go_enter Tryz.func188, Tryz.ntmps188
  go_wp2_with fail
  refine (want_yes _).mono ?_
  rintro e w' ⟨rfl, rfl⟩
  go_upto_region 4 with fail
  have G := RB.new w 61 61 [.int .i64 0, .float .f64 0, .int .i64 0, .string ⟨#[]⟩]
  generalize (w.alloc (.cells #[.int .i64 0, .float .f64 0, .int .i64 0, .string ⟨#[]⟩] 61)).alloc (.cells #[.int .i64 0, .float .f64 0, .int .i64 0, .string ⟨#[]⟩] 61) = W at *
  obtain ⟨r0, r1, r2', r3, t0, t1, t2, t3⟩ := G.cells
  obtain ⟨fr, ft⟩ := G.thaw
  go_wp2_with fail
  refine (want_yes _).mono ?_
  rintro e w' ⟨rfl, rfl⟩
  rcases hl with hl | ⟨hl0, hl⟩
  all_goals
    go_wp2_with fail
    refine (want_no _).mono ?_
    rintro e w' ⟨rfl, rfl⟩
    unfold panE
    go_wp2_with fail
    exact ⟨rfl, rfl, G.bl⟩
set_option maxHeartbeats 1600000 in
set_option maxRecDepth 100000 in
theorem read_sett (s r : ByteArray) (w : World) (h : s.toList.isEmpty = false) (hp : 0 < s.size) (hr : s.extract 1 s.size = r) (hc : wrap64 (s[0].toNat : Int) = 0) (q : r.toList.isEmpty = false) (rp : 0 < r.size) (r2 : ByteArray) (hr2 : r.extract 1 r.size = r2) (p0 : ((r[0].toNat : Int) == 110) = false) (p1 : ((r[0].toNat : Int) == 116) = true) (hl0 : 1 < r.size) (hl : decide ((r.size : Int) ≤ 1025) = true) (hz2 : r2.size ≤ 1025) :
    Calls Tryz.prog 188 #[.string s] w fun e w' => e = .returned (.agg #[.int .i64 0, .float .f64 0, .int .i64 0, .string r2]) ∧ Bl w w' := by
  have hsf := store_float
  go_enter Tryz.func188, Tryz.ntmps188
  go_wp2_with fail
  refine (want_yes _).mono ?_
  rintro e w' ⟨rfl, rfl⟩
  go_upto_region 4 with fail
  have G := RB.new w 61 61 [.int .i64 0, .float .f64 0, .int .i64 0, .string ⟨#[]⟩]
  generalize (w.alloc (.cells #[.int .i64 0, .float .f64 0, .int .i64 0, .string ⟨#[]⟩] 61)).alloc (.cells #[.int .i64 0, .float .f64 0, .int .i64 0, .string ⟨#[]⟩] 61) = W at *
  obtain ⟨r0, r1, r2', r3, t0, t1, t2, t3⟩ := G.cells
  obtain ⟨fr, ft⟩ := G.thaw
  go_wp2_with fail
  refine (want_yes _).mono ?_
  rintro e w' ⟨rfl, rfl⟩
  go_wp2_with fail
  refine (want_yes _).mono ?_
  rintro e w' ⟨rfl, rfl⟩
  go_wp2_with fail
  refine (clone_any r2 _ hz2).mono ?_
  rintro e w' ⟨rfl, hb1⟩
  have G := G.keep hb1
  clear r0 r1 r2' r3 t0 t1 t2 t3 fr ft hb1
  obtain ⟨r0, r1, r2', r3, t0, t1, t2, t3⟩ := G.cells
  obtain ⟨fr, ft⟩ := G.thaw
  go_wp2_with fail
  have G := G.put 3 (.string r2)
  have R := G.r.set4 (.int .i64 0) (.float .f64 0) (.int .i64 0) (.string r2)
  obtain ⟨d0, d1, d2, d3⟩ := R.act
  refine bodyPost_ret (v := .agg #[.int .i64 0, .float .f64 0, .int .i64 0, .string r2]) (by simp [results, Tryz.results188, go_sem, d0, d1, d2, d3]) rfl ⟨rfl, G.bl.store4 (Nat.le_refl _) _ _ _ _⟩
set_option maxHeartbeats 1600000 in
set_option maxRecDepth 100000 in
theorem read_add_no (s r : ByteArray) (w : World) (h : s.toList.isEmpty = false) (hp : 0 < s.size) (hr : s.extract 1 s.size = r) (hc : wrap64 (s[0].toNat : Int) = 1) (q : ((r.size : Int) == 8) = false) :
    Calls Tryz.prog 188 #[.string s] w fun e w' => e = panE ∧ Bl w w' := by
  have hsf := store_float
  go_enter Tryz.func188, Tryz.ntmps188
  go_wp2_with fail
  refine (want_yes _).mono ?_
  rintro e w' ⟨rfl, rfl⟩
  go_upto_region 4 with fail
  have G := RB.new w 61 61 [.int .i64 1, .float .f64 0, .int .i64 0, .string ⟨#[]⟩]
  generalize (w.alloc (.cells #[.int .i64 0, .float .f64 0, .int .i64 0, .string ⟨#[]⟩] 61)).alloc (.cells #[.int .i64 1, .float .f64 0, .int .i64 0, .string ⟨#[]⟩] 61) = W at *
  obtain ⟨r0, r1, r2', r3, t0, t1, t2, t3⟩ := G.cells
  obtain ⟨fr, ft⟩ := G.thaw
  go_wp2_with fail
  refine (want_no _).mono ?_
  rintro e w' ⟨rfl, rfl⟩
  unfold panE
  go_wp2_with fail
  exact ⟨rfl, rfl, G.bl⟩
set_option maxHeartbeats 1600000 in
set_option maxRecDepth 100000 in
theorem read_add (s r : ByteArray) (w : World) (h : s.toList.isEmpty = false) (hp : 0 < s.size) (hr : s.extract 1 s.size = r) (hc : wrap64 (s[0].toNat : Int) = 1) (_q : ((r.size : Int) == 8) = true) (h8 : r.size = 8) (v : Int) (hv : Hid (wrap64 (getN r.data.toList) = v)) :
    Calls Tryz.prog 188 #[.string s] w fun e w' => e = .returned (.agg #[.int .i64 1, .float .f64 0, .int .i64 v, .string ⟨#[]⟩]) ∧ Bl w w' := by
  have hsf := store_float
  go_enter Tryz.func188, Tryz.ntmps188
  go_wp2_with fail
  refine (want_yes _).mono ?_
  rintro e w' ⟨rfl, rfl⟩
  go_upto_region 4 with fail
  have G := RB.new w 61 61 [.int .i64 1, .float .f64 0, .int .i64 0, .string ⟨#[]⟩]
  generalize (w.alloc (.cells #[.int .i64 0, .float .f64 0, .int .i64 0, .string ⟨#[]⟩] 61)).alloc (.cells #[.int .i64 1, .float .f64 0, .int .i64 0, .string ⟨#[]⟩] 61) = W at *
  obtain ⟨r0, r1, r2', r3, t0, t1, t2, t3⟩ := G.cells
  obtain ⟨fr, ft⟩ := G.thaw
  go_wp2_with fail
  refine (want_yes _).mono ?_
  rintro e w' ⟨rfl, rfl⟩
  go_wp2_with fail
  go_loop [4, 53] (fun v i => ∃ (k : Nat) (u : Int), k ≤ 8 ∧ i = .int .i64 k ∧ v = .int .u64 u ∧ u = getN (r.data.toList.take k)) (fun _ i => 8 - (intOf i).toNat)
  case atStart => exact ⟨0, 0, Nat.zero_le _, rfl, rfl, rfl⟩
  case round =>
    obtain ⟨k, u, hk, rfl, rfl, ha⟩ := hrel
    have hbd := getN_bound (r.data.toList.take k)
    rw [← ha] at hbd
    have HA := Lib.hid ha; clear ha
    by_cases hlt : k < 8
    · have hlt2 : k < r.size := by omega
      have h6 : u * 256 + 255 < 18446744073709551616 := by
        have h2 := hbd.2
        have : (r.data.toList.take k).length ≤ 7 := Nat.le_trans (List.length_take_le _ _) (by omega)
        have h3 : (256 : Int) ^ (r.data.toList.take k).length ≤ 256 ^ 7 := by
          have := Nat.pow_le_pow_right (show 0 < 256 by decide) this
          exact_mod_cast this
        omega
      have h0 := hbd.1
      clear hbd
      have HO := Lib.hid (or_u8 u r[k].toNat h0 h6 (by omega) (by have := UInt8.toNat_lt r[k]; omega))
      have HT := Lib.hid (getN_take hlt2)
      go_wp2
      go_round
      case rel => exact ⟨k + 1, _, by omega, by go_num, rfl, by rw [wraps_u64' _ (by omega) (by have := UInt8.toNat_lt r[k]; omega), HO.out, HT.out, HA.out]⟩
      case measure => simp [intOf]; omega
    · have HE := Lib.hid (show r.data.toList.take k = r.data.toList from List.take_of_length_le (by simp; omega))
      rw [HE.out] at HA
      have HV : wrap64 u = v := by rw [HA.out]; exact hv.out
      clear HE hbd hv
      subst HV
      go_wp2_with fail
      have G := G.put 2 (.int .i64 (wrap64 u))
      have R := G.r.set4 (.int .i64 1) (.float .f64 0) (.int .i64 (wrap64 u)) (.string ⟨#[]⟩)
      obtain ⟨d0, d1, d2, d3⟩ := R.act
      refine bodyPost_ret (v := .agg #[.int .i64 1, .float .f64 0, .int .i64 (wrap64 u), .string ⟨#[]⟩]) (by simp [results, Tryz.results188, go_sem, d0, d1, d2, d3]) rfl ⟨rfl, G.bl.store4 (Nat.le_refl _) _ _ _ _⟩

theorem SB.rest {s : ByteArray} {c : UInt8} {l : List UInt8} (h : SB s (c :: l)) : SB (s.extract 1 s.size) l := by
  have hz := h.size
  unfold SB at *
  rw [ByteArray.data_extract, Array.toList_extract, List.extract_eq_take_drop, h]
  simp at hz
  simp [hz]
theorem SB.head {s : ByteArray} {c : UInt8} {l : List UInt8} (h : SB s (c :: l)) (hp : 0 < s.size) : s[0] = c := by
  have := SB.get h 0 hp (by simp)
  simpa using this
theorem SB.empty {s : ByteArray} {l : List UInt8} (h : SB s l) : s.toList.isEmpty = l.isEmpty := by
  rw [ByteArray.toList_eq]; rw [SB] at h; rw [h]
theorem num_cases (k : Int) (m : List UInt8) : (∃ x, onumE m = .returned (.float .f64 x) ∧ numA k m = (⟨k, x, 0, nilS⟩, 0)) ∨ (onumE m = panE ∧ numA k m = badA) := by
  unfold onumE numA
  by_cases h : m.length = 8 ∧ (getR (getN m).toNat).2 = 0
  · exact .inl ⟨_, if_pos h, if_pos h⟩
  · exact .inr ⟨if_neg h, if_neg h⟩
theorem readE_bad : readE badA = panE := if_neg (by decide)
theorem readE_ok (a : ActL) : readE (a, 0) = .returned (.agg #[.int .i64 a.k, .float .f64 a.x, .int .i64 a.n, .string a.s]) := if_pos rfl
theorem kind_wrap (c : UInt8) : wrap64 (c.toNat : Int) = (c.toNat : Int) := by
  have := UInt8.toNat_lt c
  unfold wrap64; omega
/-- op.read -/
theorem read_any (s : ByteArray) (l : List UInt8) (w : World) (hs : SB s l) : Calls Tryz.prog 188 #[.string s] w fun e w' => e = readE (getA l) ∧ Bl w w' := by
  have hE := hs.empty
  cases l with
  | nil =>
    rw [show getA [] = badA from rfl, readE_bad]
    exact read_nil s w hE
  | cons c t =>
    have hp : 0 < s.size := by rw [hs.size]; simp
    have hr := hs.rest
    have hc := hs.head hp
    have hk := kind_wrap c
    have h : s.toList.isEmpty = false := hE
    have hkc : wrap64 (s[0].toNat : Int) = (c.toNat : Int) := by rw [hc]; exact hk
    have hrE := hr.empty
    have hrz := hr.size
    generalize hrr : s.extract 1 s.size = r at *
    by_cases h0 : c = 0
    · subst h0
      rw [show getA (0 :: t) = setA t from rfl]
      cases t with
      | nil =>
        rw [show setA [] = badA from rfl, readE_bad]
        exact read_set_nil s r w h hp hrr hkc hrE
      | cons d t =>
        have rp : 0 < r.size := by rw [hrz]; simp
        have hd := hr.head rp
        have hr2 := hr.rest
        have hz2 := hr2.size
        generalize hrr2 : r.extract 1 r.size = r2 at *
        by_cases d1 : d = 110
        · subst d1
          have p0 : ((r[0].toNat : Int) == 110) = true := by rw [hd]; rfl
          rw [show setA (110 :: t) = numA 0 t from rfl]
          rcases num_cases 0 t with ⟨x, e1, e2⟩ | ⟨e1, e2⟩
          · rw [e2, readE_ok]
            exact read_setn s r w h hp hrr hkc hrE rp r2 hrr2 p0 t x (Lib.hid hr2) (Lib.hid e1)
          · rw [e2, readE_bad]
            exact read_setn_no s r w h hp hrr hkc hrE rp r2 hrr2 p0 t (Lib.hid hr2) (Lib.hid e1)
        · have hd1 : d.toNat ≠ 110 := fun h => d1 (UInt8.toNat_inj.1 h)
          have p0 : ((r[0].toNat : Int) == 110) = false := by rw [hd]; simp; omega
          by_cases d2 : d = 116
          · subst d2
            have p1 : ((r[0].toNat : Int) == 116) = true := by rw [hd]; rfl
            have e : setA (116 :: t) = if 2 ≤ (116 :: t).length ∧ (116 :: t).length ≤ 1025 then (⟨0, 0, 0, ⟨t.toArray⟩⟩, 0) else badA := rfl
            rw [e]
            by_cases hl : 2 ≤ ((116 : UInt8) :: t).length ∧ ((116 : UInt8) :: t).length ≤ 1025
            · rw [if_pos hl, readE_ok]
              have e2 : r2 = ⟨t.toArray⟩ := SB.eq hr2 (SB.mk t)
              rw [← e2]
              exact read_sett s r w h hp hrr hkc hrE rp r2 hrr2 p0 p1 (by omega) (decide_eq_true (by omega)) (by rw [hz2]; have := hl.2; simp at this; omega)
            · rw [if_neg hl, readE_bad]
              refine read_sett_no s r w h hp hrr hkc hrE rp p0 p1 ?_
              by_cases h1 : r.size ≤ 1
              · exact .inl h1
              · exact .inr ⟨by omega, decide_eq_false (by omega)⟩
          · have hd2 : d.toNat ≠ 116 := fun h => d2 (UInt8.toNat_inj.1 h)
            have p1 : ((r[0].toNat : Int) == 116) = false := by rw [hd]; simp; omega
            rw [show setA (d :: t) = badA by unfold setA; rw [if_neg (by simp), if_neg (by simpa using d1), if_neg (by simpa using d2)], readE_bad]
            exact read_set_bad s r w h hp hrr hkc hrE rp p0 p1
    · have e : getA (c :: t) = if c = 1 then (if t.length = 8 then (⟨1, 0, wrap64 (getN t), nilS⟩, 0) else badA) else if c = 2 then numA 2 t else if c = 3 then numA 3 t else if c = 4 then (if t = [] then (⟨4, 0, 0, nilS⟩, 0) else badA) else badA := by
        unfold getA; rw [if_neg (by simp), if_neg (by simpa using h0)]; rfl
      rw [e]
      by_cases h1 : c = 1
      · subst h1
        rw [if_pos rfl]
        by_cases h8 : t.length = 8
        · rw [if_pos h8, readE_ok]
          have hz8 : r.size = 8 := by omega
          exact read_add s r w h hp hrr hkc (by rw [hz8]; rfl) hz8 _ (Lib.hid (by rw [show r.data.toList = t from hr]))
        · rw [if_neg h8, readE_bad]
          exact read_add_no s r w h hp hrr hkc (by simp; omega)
      · rw [if_neg h1]
        by_cases h2 : c = 2
        · subst h2
          rw [if_pos rfl]
          rcases num_cases 2 t with ⟨x, e1, e2⟩ | ⟨e1, e2⟩
          · rw [e2, readE_ok]
            exact read_num2 s r w h hp hrr hkc t x (Lib.hid hr) (Lib.hid e1)
          · rw [e2, readE_bad]
            exact read_num2_no s r w h hp hrr hkc t (Lib.hid hr) (Lib.hid e1)
        · rw [if_neg h2]
          by_cases h3 : c = 3
          · subst h3
            rw [if_pos rfl]
            rcases num_cases 3 t with ⟨x, e1, e2⟩ | ⟨e1, e2⟩
            · rw [e2, readE_ok]
              exact read_num3 s r w h hp hrr hkc t x (Lib.hid hr) (Lib.hid e1)
            · rw [e2, readE_bad]
              exact read_num3_no s r w h hp hrr hkc t (Lib.hid hr) (Lib.hid e1)
          · rw [if_neg h3]
            by_cases h4 : c = 4
            · subst h4
              rw [if_pos rfl]
              by_cases ht : t = []
              · subst ht
                rw [if_pos rfl, readE_ok]
                exact read_clear s r w h hp hrr hkc hrE
              · rw [if_neg ht, readE_bad]
                exact read_clear_no s r w h hp hrr hkc (by rw [hrE]; simpa using ht)
            · rw [if_neg h4, readE_bad]
              have k0 : c.toNat ≠ 0 := fun h => h0 (UInt8.toNat_inj.1 h)
              have k1 : c.toNat ≠ 1 := fun h => h1 (UInt8.toNat_inj.1 h)
              have k2 : c.toNat ≠ 2 := fun h => h2 (UInt8.toNat_inj.1 h)
              have k3 : c.toNat ≠ 3 := fun h => h3 (UInt8.toNat_inj.1 h)
              have k4 : c.toNat ≠ 4 := fun h => h4 (UInt8.toNat_inj.1 h)
              exact read_bad s r w h hp hrr _ hkc (by simp; omega) (by simp; omega) (by simp; omega) (by simp; omega) (by simp; omega)
end Go.Proofs.YtfmabjoindlfeaaGreat

namespace Go.Proofs.YtfmabjoindlfeaaGreat
open Go.RowKit

theorem gcatch_idle (a0 a1 : Addr) (w : World) :
    CallsD Tryz.prog 187 #[.pointer (some a0), .pointer (some a1)] .returning w fun e u' w' => e = .returned (.tuple #[]) ∧ u' = .returning ∧ w' = w := by
  refine callsD_of_wpS Tryz.func187 rfl fun c₀ cs hu => ?_
  apply wpS_seq
  apply wpS_region
  simp [wpOpsS, go_sem, recoverD, hu, Tryz.ntmps187, Exit.thenS]
  apply wpS_seq
  apply wpS_region
  simp [wpOpsS, go_sem, Exit.thenS]
  refine wpS_cond (t := false) (by simp [Act.eval, Array.replicate]) ?_
  simp only [Bool.false_eq_true, if_false]
  refine wpS_of_wp (wp_skip ?_)
  cases c₀
  simp_all [bodyPostS, results, Tryz.results187]

set_option maxHeartbeats 800000 in
set_option maxRecDepth 100000 in
theorem gcatch_code (g0 g1 : Nat) (c : Int) (v1 : Value) (older : List PanicEntry) (w : World) (k x n s : Value) (h0 : AC w g0 [k, x, n, s]) (h1 : AC w g1 [v1]) (n01 : g0 ≠ g1) :
    CallsD Tryz.prog 187 #[.pointer (some ⟨g0, 0, none⟩), .pointer (some ⟨g1, 0, none⟩)] (.panicking ({ v := .iface 49 (.int .i64 c), recovered := false } :: older)) w fun e u' w' =>
      e = .returned (.tuple #[]) ∧ u' = .panicking ({ v := .iface 49 (.int .i64 c), recovered := true } :: older) ∧ w' = (((((w.setCell ⟨g0, 0, none⟩ (.int .i64 0)).setCell ⟨g0, 1, none⟩ (.float .f64 0)).setCell ⟨g0, 2, none⟩ (.int .i64 0)).setCell ⟨g0, 3, none⟩ (.string ⟨#[]⟩)).setCell ⟨g1, 0, none⟩ (.int .i64 c)) := by
  have hsf := store_float
  have f0 := h0.frozen
  have k0 := h0.cell 0 _ rfl
  have k1 := h0.cell 1 _ rfl
  have k2 := h0.cell 2 _ rfl
  have k3 := h0.cell 3 _ rfl
  have H4 := h1.other4 (g' := g0) (Ne.symm n01) (.int .i64 0) (.float .f64 0) (.int .i64 0) (.string ⟨#[]⟩)
  have e0 := H4.cell 0 _ rfl
  have ef := H4.frozen 0
  refine callsD_of_wpS Tryz.func187 rfl fun c₀ cs hu => ?_
  apply wpS_seq
  apply wpS_region
  simp [wpOpsS, go_sem, recoverD, hu, Tryz.ntmps187, Exit.thenS]
  apply wpS_seq
  apply wpS_region
  simp [wpOpsS, go_sem, Exit.thenS]
  refine wpS_cond (t := true) (by simp [Act.eval, Array.replicate]) ?_
  simp only [if_true]
  apply wpS_seq
  apply wpS_region
  simp [wpOpsS, go_sem, Exit.thenS, assert_code, recoverD]
  apply wpS_seq
  apply wpS_seq
  apply wpS_region
  simp [wpOpsS, go_sem, Exit.thenS, recoverD]
  refine wpS_cond (t := false) (by simp [Act.eval, Array.replicate]) ?_
  simp only [Bool.false_eq_true, if_false]
  refine wpS_of_wp (wp_skip ?_)
  simp only [Exit.thenS]
  apply wpS_region
  simp [wpOpsS, go_sem, hsf, f0, k0, k1, k2, k3, e0, ef, recoverD, bodyPostS, results, Tryz.results187]

/-- the two boxes of op.Get -/
structure GB (w W : World) (cs : List Value) (e : Int) : Prop where
  bl : Bl w W
  r : AC W w.heap.size cs
  t : AC W (w.heap.size + 1) [.int .i64 e]
theorem GB.keep {w W W' : World} {cs : List Value} {e : Int} (h : GB w W cs e) (k : Bl W W') : GB w W' cs e := ⟨h.bl.trans k, h.r.keep k, h.t.keep k⟩
theorem GB.new (w : World) (T U : TypeId) (cs : List Value) (e : Int) : GB w ((w.alloc (.cells cs.toArray T)).alloc (.cells #[.int .i64 e] U)) cs e :=
  ⟨((Bl.refl w).alloc _).alloc _, (AC.new w _ rfl cs T).keep ((Bl.refl _).alloc _), AC.new _ (w.heap.size + 1) (by simp) [.int .i64 e] U⟩
theorem GB.set {w W : World} {a0 b0 c0 d0 : Value} {e0 : Int} (h : GB w W [a0, b0, c0, d0] e0) (a b c d : Value) (e : Int) :
    GB w (((((W.setCell ⟨w.heap.size, 0, none⟩ a).setCell ⟨w.heap.size, 1, none⟩ b).setCell ⟨w.heap.size, 2, none⟩ c).setCell ⟨w.heap.size, 3, none⟩ d).setCell ⟨w.heap.size + 1, 0, none⟩ (.int .i64 e)) [a, b, c, d] e :=
  ⟨(h.bl.store4 (Nat.le_refl _) a b c d).setCell (p := ⟨w.heap.size + 1, 0, none⟩) (Nat.le_succ _) _, (h.r.set4 a b c d).other (by omega), (h.t.other4 (by omega) a b c d).put _⟩
theorem get_results {tmps : Array Value} {w : World} {g0 g1 : Nat} {k n : Int} {x : Nat} {s : ByteArray} {v1 : Int} (h0 : tmps.getD 2 undef = .pointer (some ⟨g0, 0, none⟩)) (h1 : tmps.getD 3 undef = .pointer (some ⟨g1, 0, none⟩))
    (d0 : AC w g0 [.int .i64 k, .float .f64 x, .int .i64 n, .string s]) (d1 : AC w g1 [.int .i64 v1]) :
    (results Tryz.f141 tmps).run Tryz.prog w = .ok (.tuple #[.agg #[.int .i64 k, .float .f64 x, .int .i64 n, .string s], .int .i64 v1]) w := by
  rw [Array.getD_eq_getD_getElem?] at h0 h1
  obtain ⟨c0, c1, c2, c3⟩ := d0.act
  have c4 := d1.cell 0 _ rfl
  simp [results, Tryz.results141, go_sem, h0, h1, c0, c1, c2, c3, c4]

set_option maxHeartbeats 1600000 in
set_option maxRecDepth 100000 in
theorem oget_ok (s : ByteArray) (k : Int) (x : Nat) (n : Int) (z : ByteArray) (w : World) (H : Hid (∀ w, Calls Tryz.prog 188 #[.string s] w fun e w' => e = .returned (.agg #[.int .i64 k, .float .f64 x, .int .i64 n, .string z]) ∧ Bl w w')) :
    Calls Tryz.prog 141 #[.string s] w fun e w' => e = .returned (.tuple #[.agg #[.int .i64 k, .float .f64 x, .int .i64 n, .string z], .int .i64 0]) ∧ Bl w w' := by
  have hmf := hmf
  have hsf := store_float
  go_enter_defers Tryz.func141, Tryz.ntmps141
  go_wp2_with fail
  have G := GB.new w 61 49 [.int .i64 0, .float .f64 0, .int .i64 0, .string ⟨#[]⟩] 0
  generalize (w.alloc (.cells #[.int .i64 0, .float .f64 0, .int .i64 0, .string ⟨#[]⟩] 61)).alloc (.cells #[.int .i64 0] 49) = W at *
  refine (H.out _).mono ?_
  rintro e w1 ⟨rfl, hb1⟩
  have G := G.keep hb1
  clear hb1
  obtain ⟨c0, c1, c2, c3⟩ := G.r.act
  have fr := G.r.frozen
  have H4 := G.t.other4 (g' := w.heap.size) (by omega) (.int .i64 k) (.float .f64 x) (.int .i64 n) (.string z)
  have e0 := H4.cell 0 _ rfl
  have ef := H4.frozen 0
  go_wp2_with fail
  refine leaves_cons (f := 187) (args := #[.pointer (some ⟨w.heap.size, 0, none⟩), .pointer (some ⟨w.heap.size + 1, 0, none⟩)]) (by simp) (by simp [go_sem]) ?_
  refine (gcatch_idle _ _ _).mono ?_
  rintro e u' w'' ⟨rfl, rfl, rfl⟩
  have G := G.set (.int .i64 k) (.float .f64 x) (.int .i64 n) (.string z) 0
  exact leaves_ret (get_results rfl rfl G.r G.t) ⟨rfl, G.bl⟩
set_option maxHeartbeats 1600000 in
set_option maxRecDepth 100000 in
theorem oget_bad (s : ByteArray) (w : World) (H : Hid (∀ w, Calls Tryz.prog 188 #[.string s] w fun e w' => e = panE ∧ Bl w w')) :
    Calls Tryz.prog 141 #[.string s] w fun e w' => e = .returned (.tuple #[.agg #[.int .i64 0, .float .f64 0, .int .i64 0, .string ⟨#[]⟩], .int .i64 4]) ∧ Bl w w' := by
  have hmf := hmf
  have hsf := store_float
  go_enter_defers Tryz.func141, Tryz.ntmps141
  go_wp2_with fail
  have G := GB.new w 61 49 [.int .i64 0, .float .f64 0, .int .i64 0, .string ⟨#[]⟩] 0
  generalize (w.alloc (.cells #[.int .i64 0, .float .f64 0, .int .i64 0, .string ⟨#[]⟩] 61)).alloc (.cells #[.int .i64 0] 49) = W at *
  refine (H.out _).mono ?_
  rintro e w1 ⟨rfl, hb1⟩
  unfold panE
  have G := G.keep hb1
  clear hb1
  refine leaves_cons (f := 187) (args := #[.pointer (some ⟨w.heap.size, 0, none⟩), .pointer (some ⟨w.heap.size + 1, 0, none⟩)]) (by simp) (by simp [go_sem]) ?_
  refine (gcatch_code w.heap.size (w.heap.size + 1) 4 _ [] _ _ _ _ _ G.r G.t (by omega)).mono ?_
  rintro e u' w'' ⟨rfl, rfl, rfl⟩
  have G := G.set (.int .i64 0) (.float .f64 0) (.int .i64 0) (.string ⟨#[]⟩) 4
  exact leaves_back (get_results rfl rfl G.r G.t) ⟨rfl, G.bl⟩
/-- op.Get -/
theorem oget_any (s : ByteArray) (l : List UInt8) (w : World) (hs : SB s l) :
    Calls Tryz.prog 141 #[.string s] w fun e w' => e = .returned (.tuple #[.agg #[.int .i64 (getA l).1.k, .float .f64 (getA l).1.x, .int .i64 (getA l).1.n, .string (getA l).1.s], .int .i64 (getA l).2]) ∧ Bl w w' := by
  have hr := fun w => read_any s l w hs
  have hb : (getA l).2 = 0 ∨ getA l = badA := by
    have hn : ∀ k m, (numA k m).2 = 0 ∨ numA k m = badA := fun k m => by unfold numA; split; exact .inl rfl; exact .inr rfl
    unfold getA setA
    (repeat' split) <;> first | exact .inl rfl | exact .inr rfl | exact hn _ _
  rcases hb with h | h
  · have e : getA l = ((getA l).1, 0) := by rw [← h]
    rw [e] at hr
    rw [h]
    exact oget_ok s _ _ _ _ w (Lib.hid (fun w => by have := hr w; rwa [readE_ok] at this))
  · rw [h] at hr ⊢
    exact oget_bad s w (Lib.hid (fun w => by have := hr w; rwa [readE_bad] at this))
end Go.Proofs.YtfmabjoindlfeaaGreat
end

/- txn: num, want, reader's take and num. By an AI agent. -/
section
set_option linter.unusedVariables false
set_option linter.unusedSimpArgs false
namespace Go.Proofs.YtfmabjoindlfeaaGreat
open Go.RowKit

theorem tnum_any (v : Int) (n : Nat) (w : World) (hv : 0 ≤ v) (hn : 1 ≤ n) (hn1 : n ≤ 7) (hvn : v / 2 ^ (8 * n) = 0) :
    Calls Tryz.prog 28 #[.int .i64 v, .int .i64 n] w fun e w' => e = .returned (.string (strL (numB v n))) ∧ Bl w w' := by
  have H := Lib.hid (fun w => put_any v n w hv hn hn1 hvn)
  go_enter Tryz.func28, Tryz.ntmps28
  go_wp2_with fail
  refine (H.out _).mono ?_
  rintro e w' ⟨rfl, hb⟩
  rw [strL_nums]
  go_wp2_with fail
  go_ret
  exact ⟨rfl, hb⟩
theorem tnum1 (v : Int) (w : World) (h0 : 0 ≤ v) (h1 : v < 256) :
    Calls Tryz.prog 28 #[.int .i64 v, .int .i64 1] w fun e w' => e = .returned (.string (strL (numB v 1))) ∧ Bl w w' :=
  tnum_any v 1 w h0 (by decide) (by decide) (by rw [show (2 : Int) ^ (8 * 1) = 256 by decide]; omega)
theorem tnum2 (v : Int) (w : World) (h0 : 0 ≤ v) (h1 : v < 65536) :
    Calls Tryz.prog 28 #[.int .i64 v, .int .i64 2] w fun e w' => e = .returned (.string (strL (numB v 2))) ∧ Bl w w' :=
  tnum_any v 2 w h0 (by decide) (by decide) (by rw [show (2 : Int) ^ (8 * 2) = 65536 by decide]; omega)
theorem tnum4 (v : Int) (w : World) (h0 : 0 ≤ v) (h1 : v < 4294967296) :
    Calls Tryz.prog 28 #[.int .i64 v, .int .i64 4] w fun e w' => e = .returned (.string (strL (numB v 4))) ∧ Bl w w' :=
  tnum_any v 4 w h0 (by decide) (by decide) (by rw [show (2 : Int) ^ (8 * 4) = 4294967296 by decide]; omega)

theorem tnum6 (v : Int) (w : World) (h0 : 0 ≤ v) (h1 : v < 281474976710656) :
    Calls Tryz.prog 28 #[.int .i64 v, .int .i64 6] w fun e w' => e = .returned (.string (strL (numB v 6))) ∧ Bl w w' :=
  tnum_any v 6 w h0 (by decide) (by decide) (by rw [show (2 : Int) ^ (8 * 6) = 281474976710656 by decide]; omega)
theorem twant_yes (w : World) : Calls Tryz.prog 136 #[.bool true] w fun e w' => e = .returned (.tuple #[]) ∧ w = w' := by
  go_enter Tryz.func136, Tryz.ntmps136
  go_wp2_with fail
  go_end0
  exact ⟨rfl, rfl⟩
theorem twant_no (w : World) : Calls Tryz.prog 136 #[.bool false] w fun e w' => e = panE ∧ w = w' := by
  go_enter Tryz.func136, Tryz.ntmps136
  go_wp2_with fail
  exact ⟨rfl, rfl, rfl⟩
theorem ttake_some (b : Nat) (l : List UInt8) (n : Nat) (w : World) (hc : C1 w b (.string (strL l))) (hn : n ≤ l.length) :
    Calls Tryz.prog 139 #[.pointer (some ⟨b, 0, none⟩), .int .i64 n] w fun e w' => e = .returned (.string (strL (l.take n))) ∧ w' = w.setCell ⟨b, 0, none⟩ (.string (strL (l.drop n))) := by
  have h0 := hc.cell
  have hf := hc.frozen
  have z := strL_size l
  have e1 := strL_take l n
  have e2 := strL_drop l n
  rw [z] at e2
  clear hc
  generalize strL (l.take n) = q1 at *
  generalize strL (l.drop n) = q2 at *
  generalize strL l = s at *
  go_enter Tryz.func139, Tryz.ntmps139
  go_wp2_with fail
  refine (twant_yes _).mono ?_
  rintro e w' ⟨rfl, rfl⟩
  go_wp2_with fail
  go_ret
  exact ⟨rfl, rfl⟩
theorem ttake_none (b : Nat) (l : List UInt8) (n : Nat) (w : World) (hc : C1 w b (.string (strL l))) (hn : l.length < n) :
    Calls Tryz.prog 139 #[.pointer (some ⟨b, 0, none⟩), .int .i64 n] w fun e w' => e = panE ∧ w = w' := by
  have h0 := hc.cell
  have z := strL_size l
  have q : decide (n ≤ l.length) = false := by rw [decide_eq_false_iff_not]; omega
  clear hc
  generalize strL l = s at *
  go_enter Tryz.func139, Tryz.ntmps139
  go_wp2_with fail
  refine (twant_no _).mono ?_
  rintro e w' ⟨rfl, rfl⟩
  unfold panE
  go_wp2_with fail
  exact ⟨rfl, rfl, rfl⟩
theorem ttake_any (b : Nat) (l : List UInt8) (n : Nat) (w : World) (hc : C1 w b (.string (strL l))) :
    Calls Tryz.prog 139 #[.pointer (some ⟨b, 0, none⟩), .int .i64 n] w fun e w' =>
      (∃ t r, rdTake n l = some (t, r) ∧ e = .returned (.string (strL t)) ∧ w' = w.setCell ⟨b, 0, none⟩ (.string (strL r))) ∨ (rdTake n l = none ∧ e = panE ∧ w = w') := by
  unfold rdTake
  by_cases hn : n ≤ l.length
  · rw [if_pos hn]
    refine (ttake_some b l n w hc hn).mono ?_
    rintro e w' ⟨rfl, rfl⟩
    exact .inl ⟨_, _, rfl, rfl, rfl⟩
  · rw [if_neg hn]
    refine (ttake_none b l n w hc (by omega)).mono ?_
    rintro e w' ⟨rfl, rfl⟩
    exact .inr ⟨rfl, rfl, rfl⟩
theorem tnumR_some (b : Nat) (l : List UInt8) (n : Nat) (w : World) (hc : C1 w b (.string (strL l))) (hn : n ≤ l.length) (h1 : 1 ≤ n) (h7 : n ≤ 7) :
    Calls Tryz.prog 137 #[.pointer (some ⟨b, 0, none⟩), .int .i64 n] w fun e w' => e = .returned (.int .i64 (getN (l.take n))) ∧ w' = w.setCell ⟨b, 0, none⟩ (.string (strL (l.drop n))) := by
  have HG := Lib.hid (fun w => getL_any (l.take n) w (by rw [List.length_take]; omega) (by rw [List.length_take]; omega))
  go_enter Tryz.func137, Tryz.ntmps137
  go_wp2_with fail
  refine (ttake_some b l n _ hc hn).mono ?_
  rintro e w1 ⟨rfl, rfl⟩
  go_wp2_with fail
  refine (HG.out _).mono ?_
  rintro e w1 ⟨rfl, rfl⟩
  go_wp2_with fail
  go_ret
  exact ⟨rfl, rfl⟩
theorem tnumR_none (b : Nat) (l : List UInt8) (n : Nat) (w : World) (hc : C1 w b (.string (strL l))) (hn : l.length < n) :
    Calls Tryz.prog 137 #[.pointer (some ⟨b, 0, none⟩), .int .i64 n] w fun e w' => e = panE ∧ w = w' := by
  go_enter Tryz.func137, Tryz.ntmps137
  go_wp2_with fail
  refine (ttake_none b l n _ hc hn).mono ?_
  rintro e w1 ⟨rfl, rfl⟩
  unfold panE
  go_wp2_with fail
  exact ⟨rfl, rfl, rfl⟩
theorem tnumR_any (b : Nat) (l : List UInt8) (n : Nat) (w : World) (hc : C1 w b (.string (strL l))) (h1 : 1 ≤ n) (h7 : n ≤ 7) :
    Calls Tryz.prog 137 #[.pointer (some ⟨b, 0, none⟩), .int .i64 n] w fun e w' =>
      (∃ v r, rdNum n l = some (v, r) ∧ e = .returned (.int .i64 v) ∧ w' = w.setCell ⟨b, 0, none⟩ (.string (strL r))) ∨ (rdNum n l = none ∧ e = panE ∧ w = w') := by
  unfold rdNum
  by_cases hn : n ≤ l.length
  · rw [if_pos hn]
    refine (tnumR_some b l n w hc hn h1 h7).mono ?_
    rintro e w' ⟨rfl, rfl⟩
    exact .inl ⟨_, _, rfl, rfl, rfl⟩
  · rw [if_neg hn]
    refine (tnumR_none b l n w hc (by omega)).mono ?_
    rintro e w' ⟨rfl, rfl⟩
    exact .inr ⟨rfl, rfl, rfl⟩
end Go.Proofs.YtfmabjoindlfeaaGreat
end
