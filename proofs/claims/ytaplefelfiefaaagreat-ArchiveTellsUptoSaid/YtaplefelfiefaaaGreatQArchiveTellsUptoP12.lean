import Derived.Test.YtaplefelfiefaaaGreatQArchiveTellsUptoP1
import Derived.Test.YtaplefelfiefaaaGreatQArchiveTellsUptoP2
import Derived.Outline
import Derived.Deep.RegionLaw
import Derived.Deep.AppendLies

/- real.Min. By an AI agent. -/
section
set_option linter.unusedVariables false
namespace Go.Proofs.YtaplefelfiefaaaGreat
open Go.RowKit Ieee

theorem rmin_any (x y : Nat) (w : World) (hx : x < two64) (hy : y < two64) : Calls Tryz.prog 198 #[.float .f64 x, .float .f64 y] w fun e w' => e = .returned (.float .f64 (rmin x y)) ∧ Bl w w' := by
  by_cases h : 0 < cmpN (fkey x) (fkey y)
  · have HR := Lib.hid (show rmin x y = y from if_pos h)
    go_enter Tryz.func198, Tryz.ntmps198
    go_wp2_with fail
    refine (rcompare_any x y _ hx hy).mono ?_
    rintro e w1 ⟨rfl, hb1⟩
    go_wp2_with fail
    go_ret
    exact ⟨congrArg (fun b => Ending.returned (.float .f64 b)) HR.out.symm, hb1⟩
  · have HR := Lib.hid (show rmin x y = x from if_neg h)
    go_enter Tryz.func198, Tryz.ntmps198
    go_wp2_with fail
    refine (rcompare_any x y _ hx hy).mono ?_
    rintro e w1 ⟨rfl, hb1⟩
    go_wp2_with fail
    go_ret
    exact ⟨congrArg (fun b => Ending.returned (.float .f64 b)) HR.out.symm, hb1⟩
end Go.Proofs.YtaplefelfiefaaaGreat
end

/- ikey.IsKey; op.Fits; op.registers, joined; op.After. By an AI agent. -/
section
namespace Go.Proofs.YtaplefelfiefaaaGreat
open Go.RowKit

theorem u8_num (c : UInt8) (k : Nat) (hk : k < 256) : decide (c.toNat = k) = (c == UInt8.ofNat k) := by
  rw [Bool.eq_iff_iff, decide_eq_true_eq, beq_iff_eq]
  constructor
  · rintro rfl; simp
  · rintro rfl; simp; omega
theorem idx5 (c : UInt8) : decide (0 ≤ Lib.indexByte [114, 116, 99, 120, 110] c) = (decide (c.toNat = 114) || (decide (c.toNat = 116) || (decide (c.toNat = 99) || (decide (c.toNat = 120) || decide (c.toNat = 110))))) := by
  rw [u8_num c 114 (by decide), u8_num c 116 (by decide), u8_num c 99 (by decide), u8_num c 120 (by decide), u8_num c 110 (by decide)]
  have h : ∀ n : Fin 256, decide (0 ≤ Lib.indexByte [114, 116, 99, 120, 110] (UInt8.ofNat n.val)) = ((UInt8.ofNat n.val) == UInt8.ofNat 114 || ((UInt8.ofNat n.val) == UInt8.ofNat 116 || ((UInt8.ofNat n.val) == UInt8.ofNat 99 || ((UInt8.ofNat n.val) == UInt8.ofNat 120 || (UInt8.ofNat n.val) == UInt8.ofNat 110)))) := by decide +kernel
  have h1 := h ⟨c.toNat, c.toNat_lt⟩
  have h2 : UInt8.ofNat c.toNat = c := UInt8.ofNat_toNat
  simp only [h2] at h1
  exact h1
set_option maxRecDepth 100000 in
theorem isKey_any (s : ByteArray) (w : World) (hs : s.size ≤ 140737488351232) : Calls Tryz.prog 46 #[.string s] w fun e w' => e = .returned (.bool (isKeyB s)) ∧ w = w' := by
  by_cases h0 : s.toList = []
  · go_enter Tryz.func46, Tryz.ntmps46
    go_wp2_with fail
    go_ret
    exact ⟨ret_bool (by simp [isKeyB, h0]), rfl⟩
  · have hp := pos_of h0
    have h1 : s.toList.isEmpty = false := by simpa using h0
    by_cases h64 : s.size ≤ 64
    · have HI := Lib.hid (idx5 (s[0]'hp))
      have HH := Lib.hid (hd_get hp)
      have H1 := Lib.hid h1
      clear h0
      go_enter Tryz.func46, Tryz.ntmps46
      go_wp2_with (first | (refine (Tryz.strings_IndexByte _ _ _).mono ?_; rintro e w' ⟨rfl, rfl⟩) | fail)
      go_ret
      refine ⟨ret_bool ?_, rfl⟩
      have h2 : (s[0]'hp).toNat.toUInt8 = s[0]'hp := by simp
      have h3 : (s.toList.isEmpty) = false := H1.out
      simp [isKeyB, h3, h64, ← HH.out, ← HI.out]
    · clear h0
      go_enter Tryz.func46, Tryz.ntmps46
      go_wp2_with fail
      go_ret
      exact ⟨ret_bool (by simp [isKeyB, h64]), rfl⟩

end Go.Proofs.YtaplefelfiefaaaGreat

namespace Go.Proofs.YtaplefelfiefaaaGreat
open Go.RowKit

theorem key_pos {key : ByteArray} (h : isKeyB key = true) : 0 < key.size := by
  refine pos_of fun h0 => ?_
  simp [isKeyB, h0] at h
theorem hd_lt (key : ByteArray) : hd key < 256 := UInt8.toNat_lt _

set_option maxHeartbeats 1600000 in
set_option maxRecDepth 100000 in
theorem fits_any (key : ByteArray) (a : ActL) (w : World) (hkey : key.size ≤ 140737488351232) (ok : a.Ok) : Calls Tryz.prog 47 #[.string key, a.v] w fun e w' => e = .returned (.bool (fitsB key a)) ∧ Bl w w' := by
  obtain ⟨k, x, n, s⟩ := a
  have OK := Lib.hid ok
  obtain ⟨hk, hx, hn, hs⟩ := ok
  simp only at hk hx hn hs
  show Calls Tryz.prog 47 #[.string key, .agg #[.int .i64 k, .float .f64 x, .int .i64 n, .string s]] w _
  cases hi : isKeyB key
  · have HI := Lib.hid hi
    go_enter Tryz.func47, Tryz.ntmps47
    go_wp2_with fail
    refine (isKey_any key _ hkey).mono ?_
    rintro e w1 ⟨rfl, rfl⟩
    rw [hi]
    clear hi
    go_wp2_with fail
    go_ret
    exact ⟨ret_bool (by simp [fitsB, HI.out]), (Bl.refl w).alloc _⟩
  · have HI := Lib.hid hi
    have hp := key_pos hi
    have HH := Lib.hid (hd_get hp)
    have HLT := Lib.hid (hd_lt key)
    go_enter Tryz.func47, Tryz.ntmps47
    go_wp2_with fail
    refine (isKey_any key _ hkey).mono ?_
    rintro e w1 ⟨rfl, rfl⟩
    rw [hi]
    clear hi
    go_wp2_with fail
    refine (right_any ⟨k, x, n, s⟩ _ OK.out).mono ?_
    rintro e w1 ⟨rfl, hb1⟩
    obtain ⟨c0, c1, c2, c3⟩ := ((AC.new w _ rfl [_, _, _, _] _).keep hb1).act
    have hbw := ((Bl.refl w).alloc _).trans hb1
    cases hr : rightB ⟨k, x, n, s⟩
    · have HR := Lib.hid hr; clear hr
      go_wp2_with fail
      go_ret
      exact ⟨ret_bool (by simp [fitsB, HR.out]), hbw⟩
    · have HR := Lib.hid hr; clear hr
      clear hb1
      go_wp2_with (first | (refine (nought_any _ _ hx).mono ?_; rintro e w' ⟨rfl, hb⟩; have d0 := hb.cell c0) | fail)
      all_goals (go_ret; refine ⟨ret_bool ?_, ?_⟩)
      all_goals first | exact hbw | exact hbw.trans (by assumption) | skip
      all_goals (
        have h1 := HH.out
        have h2 := HR.out
        have h3 := HI.out
        have h4 := key_head h3
        clear HH HR HI HLT OK
        unfold fitsB
        rcases h4 with h4 | h4 | h4 | h4 | h4 <;> simp_all
        all_goals first | omega | (rw [Bool.eq_iff_iff]; simp) | skip)
end Go.Proofs.YtaplefelfiefaaaGreat

namespace Go.Proofs.YtaplefelfiefaaaGreat
open Go.RowKit

theorem first_byte {s : ByteArray} (c : UInt8) (h : 1 ≤ s.size) : ((s.extract 0 1).toList == [c]) = decide (hd s = c.toNat) := by
  obtain ⟨⟨l⟩⟩ := s
  cases l with
  | nil => exact absurd h (by decide)
  | cons a l =>
    have e : ((⟨⟨a :: l⟩⟩ : ByteArray).extract 0 1).toList = [a] := by
      rw [ByteArray.toList_eq, ByteArray.data_extract]
      simp
    rw [e, Bool.eq_iff_iff, beq_iff_eq, decide_eq_true_eq]
    show [a] = [c] ↔ a.toNat = c.toNat
    simp [UInt8.toNat_inj]
set_option maxRecDepth 100000 in
theorem prefix_any (s : ByteArray) (c : UInt8) (w : World) (hs : s.size ≤ 140737488351232) : Calls Tryz.prog 196 #[.string s, .string ⟨#[c]⟩] w fun e w' => e = .returned (.bool (decide (1 ≤ s.size) && decide (hd s = c.toNat))) ∧ w = w' := by
  by_cases h1 : 1 ≤ s.size
  · go_enter Tryz.func196, Tryz.ntmps196
    go_wp2
    go_ret
    exact ⟨ret_bool (by rw [first_byte c h1]; simp [h1]), rfl⟩
  · go_enter Tryz.func196, Tryz.ntmps196
    go_wp2
    go_ret
    exact ⟨ret_bool (by simp), rfl⟩
theorem hd_empty {key : ByteArray} (h : ¬ 1 ≤ key.size) : hd key = 0 := by
  obtain ⟨⟨l⟩⟩ := key
  cases l with
  | nil => rfl
  | cons a l => exact absurd (by simp [ByteArray.size]) h
theorem hd_and (key : ByteArray) (c : Nat) (hc : c ≠ 0) : (decide (1 ≤ key.size) && decide (hd key = c)) = decide (hd key = c) := by
  by_cases h : 1 ≤ key.size
  · simp [h]
  · rw [hd_empty h]; simp [Ne.symm hc]
theorem registers_any (key : ByteArray) (w : World) (hs : key.size ≤ 140737488351232) : Calls Tryz.prog 145 #[.string key] w fun e w' => e = .returned (.bool (regB key)) ∧ w = w' := by
  have e1 : (114 : UInt8).toNat = 114 := rfl
  have e2 : (116 : UInt8).toNat = 116 := rfl
  have H1 := Lib.hid (hd_and key 114 (by decide))
  have H2 := Lib.hid (hd_and key 116 (by decide))
  cases hp : (decide (1 ≤ key.size) && decide (hd key = (114 : UInt8).toNat))
  · have HP := Lib.hid hp
    go_enter Tryz.func145, Tryz.ntmps145
    go_wp2_with fail
    refine (prefix_any key 114 _ hs).mono ?_
    rintro e w' ⟨rfl, rfl⟩
    rw [hp]
    clear hp
    go_wp2_with fail
    refine (prefix_any key 116 _ hs).mono ?_
    rintro e w' ⟨rfl, rfl⟩
    go_wp2_with fail
    go_ret
    exact ⟨ret_bool (by rw [regB, ← H1.out, ← H2.out]; have := HP.out; rw [e1] at this; rw [this]; simp), rfl⟩
  · have HP := Lib.hid hp
    go_enter Tryz.func145, Tryz.ntmps145
    go_wp2_with fail
    refine (prefix_any key 114 _ hs).mono ?_
    rintro e w' ⟨rfl, rfl⟩
    rw [hp]
    clear hp
    go_wp2_with fail
    go_ret
    exact ⟨ret_bool (by rw [regB, ← H1.out]; have := HP.out; rw [e1] at this; rw [this]; simp), rfl⟩


set_option maxHeartbeats 1600000 in
set_option maxRecDepth 100000 in
theorem joined_any (a b : ActL) (w : World) (oa : a.Ok) (ob : b.Ok) : Calls Tryz.prog 146 #[a.v, b.v] w fun e w' => e = .returned (joined a b).v ∧ Bl w w' := by
  obtain ⟨k, x, n, s⟩ := a
  obtain ⟨l, y, m, t⟩ := b
  obtain ⟨hk, hx, hn, hs⟩ := oa
  obtain ⟨hl, hy, hm, ht⟩ := ob
  simp only at hk hx hn hs hl hy hm ht
  show Calls Tryz.prog 146 #[.agg #[.int .i64 k, .float .f64 x, .int .i64 n, .string s], .agg #[.int .i64 l, .float .f64 y, .int .i64 m, .string t]] w _
  have hsf := store_float
  by_cases h1 : l = 1
  · subst h1
    go_enter Tryz.func146, Tryz.ntmps146
    go_wp2_with fail
    refine bodyPost_ret (v := (joined ⟨k, x, n, s⟩ ⟨1, y, m, t⟩).v) (by simp [results, Tryz.results146, go_sem, joined, ActL.v, nilS]) rfl ⟨rfl, ?_⟩
    exact (((Bl.refl w).alloc _).alloc _).alloc _
  · have q1 : (l == 1) = false := by simpa using h1
    by_cases h2 : l = 2
    · subst h2
      clear h1
      go_enter Tryz.func146, Tryz.ntmps146
      go_wp2_with fail
      have hB := (((Bl.refl w).alloc (.cells [.int .i64 k, .float .f64 x, .int .i64 n, .string s].toArray 66)).alloc (.cells [.int .i64 2, .float .f64 y, .int .i64 m, .string t].toArray 66)).alloc (.cells [.int .i64 0, .float .f64 0, .int .i64 0, .string ⟨#[]⟩].toArray 66)
      have hA := (((AC.new w _ rfl [.int .i64 k, .float .f64 x, .int .i64 n, .string s] 66).keep ((Bl.refl _).alloc (.cells [.int .i64 2, .float .f64 y, .int .i64 m, .string t].toArray 66))).keep ((Bl.refl _).alloc (.cells [.int .i64 0, .float .f64 0, .int .i64 0, .string ⟨#[]⟩].toArray 66))).act
      have hC := ((AC.new (w.alloc (.cells [.int .i64 k, .float .f64 x, .int .i64 n, .string s].toArray 66)) (w.heap.size + 1) (by simp) [.int .i64 2, .float .f64 y, .int .i64 m, .string t] 66).keep ((Bl.refl _).alloc (.cells [.int .i64 0, .float .f64 0, .int .i64 0, .string ⟨#[]⟩].toArray 66))).act
      have hD := AC.new ((w.alloc (.cells [.int .i64 k, .float .f64 x, .int .i64 n, .string s].toArray 66)).alloc (.cells [.int .i64 2, .float .f64 y, .int .i64 m, .string t].toArray 66)) (w.heap.size + 1 + 1) (by simp) [.int .i64 0, .float .f64 0, .int .i64 0, .string ⟨#[]⟩] 66
      obtain ⟨_, a1, _, _⟩ := hA
      obtain ⟨b0, b1, _, _⟩ := hC
      generalize (((w.alloc (.cells [.int .i64 k, .float .f64 x, .int .i64 n, .string s].toArray 66)).alloc (.cells [.int .i64 2, .float .f64 y, .int .i64 m, .string t].toArray 66)).alloc (.cells [.int .i64 0, .float .f64 0, .int .i64 0, .string ⟨#[]⟩].toArray 66)) = W at *
      go_region_law (go_simp; refine (rmax_any x y _ hx hy).mono ?_; rintro e w' ⟨rfl, hb'⟩; have HB := Bl.ofDrew hb'; have a1' := HB.cell a1; have b0' := HB.cell b0; have b1' := HB.cell b1; have hD' := hD.keep HB; obtain ⟨d0, d1, d2, d3⟩ := hD'.act; have f0 := hD'.frozen 0; have f1 := hD'.frozen 1; have f2 := hD'.frozen 2; have f3 := hD'.frozen 3; dsimp only)
      all_goals (
        have HBW := hB.trans HB
        go_wp2_with fail
        have hN : ∀ j, w.heap.size ≤ (⟨w.heap.size + 1 + 1, j, none⟩ : Addr).block := fun j => by show w.heap.size ≤ w.heap.size + 1 + 1; omega
        refine bodyPost_ret (v := (joined ⟨k, x, n, s⟩ ⟨2, y, m, t⟩).v) (by simp [results, Tryz.results146, go_sem, joined, ActL.v, nilS, d0, d1, d2, d3]) rfl ⟨rfl, ?_⟩
        exact (((HBW.setCell (hN _) _).setCell (hN _) _).setCell (hN _) _).setCell (hN _) _)
    · have q2 : (l == 2) = false := by simpa using h2
      by_cases h3 : l = 3
      · subst h3
        clear h1 h2
        go_enter Tryz.func146, Tryz.ntmps146
        go_wp2_with fail
        have hB := (((Bl.refl w).alloc (.cells [.int .i64 k, .float .f64 x, .int .i64 n, .string s].toArray 66)).alloc (.cells [.int .i64 3, .float .f64 y, .int .i64 m, .string t].toArray 66)).alloc (.cells [.int .i64 0, .float .f64 0, .int .i64 0, .string ⟨#[]⟩].toArray 66)
        have hA := (((AC.new w _ rfl [.int .i64 k, .float .f64 x, .int .i64 n, .string s] 66).keep ((Bl.refl _).alloc (.cells [.int .i64 3, .float .f64 y, .int .i64 m, .string t].toArray 66))).keep ((Bl.refl _).alloc (.cells [.int .i64 0, .float .f64 0, .int .i64 0, .string ⟨#[]⟩].toArray 66))).act
        have hC := ((AC.new (w.alloc (.cells [.int .i64 k, .float .f64 x, .int .i64 n, .string s].toArray 66)) (w.heap.size + 1) (by simp) [.int .i64 3, .float .f64 y, .int .i64 m, .string t] 66).keep ((Bl.refl _).alloc (.cells [.int .i64 0, .float .f64 0, .int .i64 0, .string ⟨#[]⟩].toArray 66))).act
        have hD := AC.new ((w.alloc (.cells [.int .i64 k, .float .f64 x, .int .i64 n, .string s].toArray 66)).alloc (.cells [.int .i64 3, .float .f64 y, .int .i64 m, .string t].toArray 66)) (w.heap.size + 1 + 1) (by simp) [.int .i64 0, .float .f64 0, .int .i64 0, .string ⟨#[]⟩] 66
        obtain ⟨_, a1, _, _⟩ := hA
        obtain ⟨b0, b1, _, _⟩ := hC
        generalize (((w.alloc (.cells [.int .i64 k, .float .f64 x, .int .i64 n, .string s].toArray 66)).alloc (.cells [.int .i64 3, .float .f64 y, .int .i64 m, .string t].toArray 66)).alloc (.cells [.int .i64 0, .float .f64 0, .int .i64 0, .string ⟨#[]⟩].toArray 66)) = W at *
        go_region_law (go_simp; refine (rmin_any x y _ hx hy).mono ?_; rintro e w' ⟨rfl, hb'⟩; have HB := Bl.ofDrew hb'; have a1' := HB.cell a1; have b0' := HB.cell b0; have b1' := HB.cell b1; have hD' := hD.keep HB; obtain ⟨d0, d1, d2, d3⟩ := hD'.act; have f0 := hD'.frozen 0; have f1 := hD'.frozen 1; have f2 := hD'.frozen 2; have f3 := hD'.frozen 3; dsimp only)
        all_goals (
          have HBW := hB.trans HB
          go_wp2_with fail
          have hN : ∀ j, w.heap.size ≤ (⟨w.heap.size + 1 + 1, j, none⟩ : Addr).block := fun j => by show w.heap.size ≤ w.heap.size + 1 + 1; omega
          refine bodyPost_ret (v := (joined ⟨k, x, n, s⟩ ⟨3, y, m, t⟩).v) (by simp [results, Tryz.results146, go_sem, joined, ActL.v, nilS, d0, d1, d2, d3]) rfl ⟨rfl, ?_⟩
          exact (((HBW.setCell (hN _) _).setCell (hN _) _).setCell (hN _) _).setCell (hN _) _)
      · have q3 : (l == 3) = false := by simpa using h3
        have HJ := Lib.hid (show joined ⟨k, x, n, s⟩ ⟨l, y, m, t⟩ = ⟨l, y, m, t⟩ by simp [joined, h1, h2, h3])
        clear h1 h2 h3
        go_enter Tryz.func146, Tryz.ntmps146
        go_wp2_with fail
        rw [HJ.out]
        refine bodyPost_ret (v := ActL.v ⟨l, y, m, t⟩) (by simp [results, Tryz.results146, go_sem, ActL.v]) rfl ⟨rfl, ?_⟩
        exact (((Bl.refl w).alloc _).alloc _).alloc _
end Go.Proofs.YtaplefelfiefaaaGreat

namespace Go.Proofs.YtaplefelfiefaaaGreat
open Go.RowKit

structure A3 (w W : World) (vb : Bool) (vx : Nat) (vn : Int) (vs : ByteArray) (k : Int) (x : Nat) (n : Int) (s : ByteArray) : Prop where
  bl : Bl w W
  v : AC W w.heap.size [.bool vb, .float .f64 vx, .int .i64 vn, .string vs]
  a : AC W (w.heap.size + 1) [.int .i64 k, .float .f64 x, .int .i64 n, .string s]
  r : AC W (w.heap.size + 1 + 1) [.bool false, .float .f64 0, .int .i64 0, .string ⟨#[]⟩]
theorem A3.keep {w W W' : World} {vb : Bool} {vx : Nat} {vn : Int} {vs : ByteArray} {k : Int} {x : Nat} {n : Int} {s : ByteArray} (h : A3 w W vb vx vn vs k x n s) (hb : Bl W W') : A3 w W' vb vx vn vs k x n s :=
  ⟨h.bl.trans hb, h.v.keep hb, h.a.keep hb, h.r.keep hb⟩
theorem A3.new (w : World) (vb : Bool) (vx : Nat) (vn : Int) (vs : ByteArray) (k : Int) (x : Nat) (n : Int) (s : ByteArray) (T U V : TypeId) :
    A3 w (((w.alloc (.cells #[.bool vb, .float .f64 vx, .int .i64 vn, .string vs] T)).alloc (.cells #[.int .i64 k, .float .f64 x, .int .i64 n, .string s] U)).alloc (.cells #[.bool false, .float .f64 0, .int .i64 0, .string ⟨#[]⟩] V)) vb vx vn vs k x n s := by
  refine ⟨(((Bl.refl w).alloc _).alloc _).alloc _, ?_, ?_, ?_⟩
  · exact ((AC.new w _ rfl [_, _, _, _] _).keep ((Bl.refl _).alloc _)).keep ((Bl.refl _).alloc _)
  · exact (AC.new _ (w.heap.size + 1) (by simp) [_, _, _, _] _).keep ((Bl.refl _).alloc _)
  · exact AC.new _ (w.heap.size + 1 + 1) (by simp) [_, _, _, _] _

set_option maxHeartbeats 3200000 in
set_option maxRecDepth 100000 in
theorem after_any (key : ByteArray) (v : ValL) (a : ActL) (w : World) (hkey : key.size ≤ 140737488351232) (ov : v.Ok) (oa : a.Ok) :
    Calls Tryz.prog 49 #[.string key, v.v, a.v] w fun e w' => e = .returned (afterL key v a).v ∧ Bl w w' := by
  obtain ⟨k, x, n, s⟩ := a
  obtain ⟨vb, vx, vn, vs⟩ := v
  have OA := Lib.hid oa
  obtain ⟨hk, hx, hn, hs⟩ := oa
  obtain ⟨hvx, hvn, hvs⟩ := ov
  simp only at hk hx hn hs hvx hvn hvs
  show Calls Tryz.prog 49 #[.string key, .agg #[.bool vb, .float .f64 vx, .int .i64 vn, .string vs], .agg #[.int .i64 k, .float .f64 x, .int .i64 n, .string s]] w _
  have hsf := store_float
  go_enter Tryz.func49, Tryz.ntmps49
  go_wp2_with fail
  refine (fits_any key ⟨k, x, n, s⟩ _ hkey OA.out).mono ?_
  rintro e w1 ⟨rfl, hb1⟩
  have G := (A3.new w vb vx vn vs k x n s _ _ _).keep hb1
  clear hb1
  obtain ⟨v0, v1, v2, v3⟩ := G.v.val
  obtain ⟨a0, a1, a2, a3⟩ := G.a.act
  obtain ⟨r0, r1, r2, r3⟩ := G.r.val
  have f0 := G.r.frozen 0
  have f1 := G.r.frozen 1
  have f2 := G.r.frozen 2
  have f3 := G.r.frozen 3
  cases hf : fitsB key ⟨k, x, n, s⟩
  · have HF := Lib.hid (show afterL key ⟨vb, vx, vn, vs⟩ ⟨k, x, n, s⟩ = ⟨vb, vx, vn, vs⟩ by simp [afterL, hf])
    clear hf
    go_wp2_with fail
    rw [HF.out]
    refine bodyPost_ret (v := ValL.v ⟨vb, vx, vn, vs⟩) (by simp [results, Tryz.results49, go_sem, ValL.v, r0, r1, r2, r3]) rfl ⟨rfl, ?_⟩
    exact G.bl.store4 (by omega) _ _ _ _
  · -- the end, from what the act has become
    cases hth : (vb && !regB key)
    · have HF := Lib.hid (show afterL key ⟨vb, vx, vn, vs⟩ ⟨k, x, n, s⟩ = valOf ⟨k, x, n, s⟩ by simp only [afterL, hf, hth]; rfl)
      have HTH := Lib.hid hth
      have hreg : vb = false ∨ regB key = true := by
        cases vb
        · exact .inl rfl
        · right; simpa using hth
      clear hf hth
      by_cases h4 : k = 4
      · subst h4
        rcases hreg with rfl | hreg
        · go_wp2_with fail
          rw [HF.out]
          refine bodyPost_ret (v := (valOf ⟨4, x, n, s⟩).v) (by simp [results, Tryz.results49, go_sem, ValL.v, valOf, noVal, nilS, r0, r1, r2, r3]) rfl ⟨rfl, ?_⟩
          exact G.bl.store4 (by omega) _ _ _ _
        · cases vb
          · go_wp2_with fail
            rw [HF.out]
            refine bodyPost_ret (v := (valOf ⟨4, x, n, s⟩).v) (by simp [results, Tryz.results49, go_sem, ValL.v, valOf, noVal, nilS, r0, r1, r2, r3]) rfl ⟨rfl, ?_⟩
            exact G.bl.store4 (by omega) _ _ _ _
          · go_wp2_with fail
            refine (registers_any key _ hkey).mono ?_
            rintro e w' ⟨rfl, rfl⟩
            rw [hreg]
            go_wp2_with fail
            rw [HF.out]
            refine bodyPost_ret (v := (valOf ⟨4, x, n, s⟩).v) (by simp [results, Tryz.results49, go_sem, ValL.v, valOf, noVal, nilS, r0, r1, r2, r3]) rfl ⟨rfl, ?_⟩
            exact G.bl.store4 (by omega) _ _ _ _
      · have q4 : (k == 4) = false := by simpa using h4
        have HV := Lib.hid (show valOf ⟨k, x, n, s⟩ = ⟨true, x, n, s⟩ by simp [valOf, h4])
        clear h4
        rcases hreg with rfl | hreg
        · go_wp2_with fail
          rw [HF.out, HV.out]
          refine bodyPost_ret (v := ValL.v ⟨true, x, n, s⟩) (by simp [results, Tryz.results49, go_sem, ValL.v, r0, r1, r2, r3]) rfl ⟨rfl, ?_⟩
          exact G.bl.store4 (by omega) _ _ _ _
        · cases vb
          · go_wp2_with fail
            rw [HF.out, HV.out]
            refine bodyPost_ret (v := ValL.v ⟨true, x, n, s⟩) (by simp [results, Tryz.results49, go_sem, ValL.v, r0, r1, r2, r3]) rfl ⟨rfl, ?_⟩
            exact G.bl.store4 (by omega) _ _ _ _
          · go_wp2_with fail
            refine (registers_any key _ hkey).mono ?_
            rintro e w' ⟨rfl, rfl⟩
            rw [hreg]
            go_wp2_with fail
            rw [HF.out, HV.out]
            refine bodyPost_ret (v := ValL.v ⟨true, x, n, s⟩) (by simp [results, Tryz.results49, go_sem, ValL.v, r0, r1, r2, r3]) rfl ⟨rfl, ?_⟩
            exact G.bl.store4 (by omega) _ _ _ _
    · obtain ⟨rfl, hreg⟩ : vb = true ∧ regB key = false := by simpa using hth
      have HF := Lib.hid (show afterL key ⟨true, vx, vn, vs⟩ ⟨k, x, n, s⟩ = valOf (joined ⟨k, vx, vn, nilS⟩ ⟨k, x, n, s⟩) by simp only [afterL, hf, hth]; rfl)
      clear hf hth
      go_wp2_with fail
      refine (registers_any key _ hkey).mono ?_
      rintro e w' ⟨rfl, rfl⟩
      rw [hreg]
      have ca0 := fun o => ((Bl.refl w1).alloc o).cell a0
      have ca1 := fun o => ((Bl.refl w1).alloc o).cell a1
      have ca2 := fun o => ((Bl.refl w1).alloc o).cell a2
      have ca3 := fun o => ((Bl.refl w1).alloc o).cell a3
      go_wp2_with fail
      clear ca0 ca1 ca2 ca3
      refine (joined_any ⟨k, vx, vn, nilS⟩ ⟨k, x, n, s⟩ _ ⟨hk, hvx, hvn, by show (0 : Nat) ≤ _; omega⟩ OA.out).mono ?_
      rintro e w2 ⟨rfl, hb2⟩
      generalize joined ⟨k, vx, vn, nilS⟩ ⟨k, x, n, s⟩ = J at *
      obtain ⟨jk, jx, jn, js⟩ := J
      have G := G.keep (((Bl.refl w1).alloc _).trans hb2)
      clear v0 v1 v2 v3 a0 a1 a2 a3 r0 r1 r2 r3 f0 f1 f2 f3
      obtain ⟨a0, a1, a2, a3⟩ := G.a.act
      obtain ⟨r0, r1, r2, r3⟩ := G.r.val
      have f0 := G.r.frozen 0
      have f1 := G.r.frozen 1
      have f2 := G.r.frozen 2
      have f3 := G.r.frozen 3
      have g0 := G.a.frozen 0
      have g1 := G.a.frozen 1
      have g2 := G.a.frozen 2
      have g3 := G.a.frozen 3
      rw [show ActL.v ⟨jk, jx, jn, js⟩ = .agg #[.int .i64 jk, .float .f64 jx, .int .i64 jn, .string js] from rfl]
      have hbs := (G.bl.store4 (g := w.heap.size + 1) (by omega) (.int .i64 jk) (.float .f64 jx) (.int .i64 jn) (.string js))
      by_cases h4 : jk = 4
      · subst h4
        go_wp2_with fail
        rw [HF.out]
        refine bodyPost_ret (v := (valOf ⟨4, jx, jn, js⟩).v) (by simp [results, Tryz.results49, go_sem, ValL.v, valOf, noVal, nilS, r0, r1, r2, r3]) rfl ⟨rfl, ?_⟩
        exact hbs.store4 (by omega) _ _ _ _
      · have q4 : (jk == 4) = false := by simpa using h4
        have HV := Lib.hid (show valOf ⟨jk, jx, jn, js⟩ = ⟨true, jx, jn, js⟩ by simp [valOf, h4])
        clear h4
        go_wp2_with fail
        rw [HF.out, HV.out]
        refine bodyPost_ret (v := ValL.v ⟨true, jx, jn, js⟩) (by simp [results, Tryz.results49, go_sem, ValL.v, r0, r1, r2, r3]) rfl ⟨rfl, ?_⟩
        exact hbs.store4 (by omega) _ _ _ _

end Go.Proofs.YtaplefelfiefaaaGreat
end

/- contracts of the package op with structs taken apart. By an AI agent. -/
section
namespace Go.Proofs.YtaplefelfiefaaaGreat
open Go.RowKit

theorem after_agg (key : ByteArray) (vb : Bool) (vx : Nat) (vn : Int) (vs : ByteArray) (k : Int) (x : Nat) (n : Int) (s : ByteArray) (rb : Bool) (rx : Nat) (rn : Int) (rs : ByteArray) (w : World)
    (h : Hid (afterL key ⟨vb, vx, vn, vs⟩ ⟨k, x, n, s⟩ = ⟨rb, rx, rn, rs⟩)) (hkey : key.size ≤ 140737488351232) (ov : Hid (ValL.Ok ⟨vb, vx, vn, vs⟩)) (oa : Hid (ActL.Ok ⟨k, x, n, s⟩)) :
    Calls Tryz.prog 49 #[.string key, .agg #[.bool vb, .float .f64 vx, .int .i64 vn, .string vs], .agg #[.int .i64 k, .float .f64 x, .int .i64 n, .string s]] w fun e w' => e = .returned (.agg #[.bool rb, .float .f64 rx, .int .i64 rn, .string rs]) ∧ Bl w w' := by
  refine (after_any key ⟨vb, vx, vn, vs⟩ ⟨k, x, n, s⟩ w hkey ov.out oa.out).mono ?_
  rintro e w' ⟨rfl, hb⟩
  rw [h.out]
  exact ⟨rfl, hb⟩
theorem fits_agg (key : ByteArray) (k : Int) (x : Nat) (n : Int) (s : ByteArray) (r : Bool) (w : World)
    (h : Hid (fitsB key ⟨k, x, n, s⟩ = r)) (hkey : key.size ≤ 140737488351232) (oa : Hid (ActL.Ok ⟨k, x, n, s⟩)) :
    Calls Tryz.prog 47 #[.string key, .agg #[.int .i64 k, .float .f64 x, .int .i64 n, .string s]] w fun e w' => e = .returned (.bool r) ∧ Bl w w' := by
  refine (fits_any key ⟨k, x, n, s⟩ w hkey oa.out).mono ?_
  rintro e w' ⟨rfl, hb⟩
  rw [h.out]
  exact ⟨rfl, hb⟩
end Go.Proofs.YtaplefelfiefaaaGreat
end
