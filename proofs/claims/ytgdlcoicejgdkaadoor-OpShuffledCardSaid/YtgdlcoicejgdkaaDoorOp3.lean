/- op.registers, joined. By an AI agent. -/
import Derived.Test.YtgdlcoicejgdkaaDoorOp2
import Derived.Deep.RegionLaw
import Derived.Deep.AppendLies
namespace Go.Proofs.YtgdlcoicejgdkaaDoor
open Go.RowKit

theorem first_byte {s : ByteArray} (c : UInt8) (h : 1 ≤ s.size) : ((s.extract 0 1).toList == [c]) = decide (hd s = c.toNat) := by
  obtain ⟨⟨l⟩⟩ := s
  cases l with
  | nil => exact absurd h (by decide)
  | cons a l =>
    have e : ((⟨⟨a :: l⟩⟩ : ByteArray).extract 0 1).toList = [a] := by
      rw [ByteArray.toList_eq, ByteArray.data_extract]
      simp
    rw [e, Bool.eq_iff_iff, beq_iff_eq, decide_eq_true_eq]
    show [a] = [c] ↔ a.toNat = c.toNat
    simp [UInt8.toNat_inj]
set_option maxRecDepth 100000 in
theorem prefix_any (s : ByteArray) (c : UInt8) (w : World) (hs : s.size ≤ 140737488351232) : Calls Tryd.prog 110 #[.string s, .string ⟨#[c]⟩] w fun e w' => e = .returned (.bool (decide (1 ≤ s.size) && decide (hd s = c.toNat))) ∧ w = w' := by
  by_cases h1 : 1 ≤ s.size
  · go_enter Tryd.func110, Tryd.ntmps110
    go_wp2
    go_ret
    exact ⟨ret_bool (by rw [first_byte c h1]; simp [h1]), rfl⟩
  · go_enter Tryd.func110, Tryd.ntmps110
    go_wp2
    go_ret
    exact ⟨ret_bool (by simp), rfl⟩
theorem hd_empty {key : ByteArray} (h : ¬ 1 ≤ key.size) : hd key = 0 := by
  obtain ⟨⟨l⟩⟩ := key
  cases l with
  | nil => rfl
  | cons a l => exact absurd (by simp [ByteArray.size]) h
theorem hd_and (key : ByteArray) (c : Nat) (hc : c ≠ 0) : (decide (1 ≤ key.size) && decide (hd key = c)) = decide (hd key = c) := by
  by_cases h : 1 ≤ key.size
  · simp [h]
  · rw [hd_empty h]; simp [Ne.symm hc]
theorem registers_any (key : ByteArray) (w : World) (hs : key.size ≤ 140737488351232) : Calls Tryd.prog 64 #[.string key] w fun e w' => e = .returned (.bool (regB key)) ∧ w = w' := by
  have e1 : (114 : UInt8).toNat = 114 := rfl
  have e2 : (116 : UInt8).toNat = 116 := rfl
  have H1 := Lib.hid (hd_and key 114 (by decide))
  have H2 := Lib.hid (hd_and key 116 (by decide))
  cases hp : (decide (1 ≤ key.size) && decide (hd key = (114 : UInt8).toNat))
  · have HP := Lib.hid hp
    go_enter Tryd.func64, Tryd.ntmps64
    go_wp2_with fail
    refine (prefix_any key 114 _ hs).mono ?_
    rintro e w' ⟨rfl, rfl⟩
    rw [hp]
    clear hp
    go_wp2_with fail
    refine (prefix_any key 116 _ hs).mono ?_
    rintro e w' ⟨rfl, rfl⟩
    go_wp2_with fail
    go_ret
    exact ⟨ret_bool (by rw [regB, ← H1.out, ← H2.out]; have := HP.out; rw [e1] at this; rw [this]; simp), rfl⟩
  · have HP := Lib.hid hp
    go_enter Tryd.func64, Tryd.ntmps64
    go_wp2_with fail
    refine (prefix_any key 114 _ hs).mono ?_
    rintro e w' ⟨rfl, rfl⟩
    rw [hp]
    clear hp
    go_wp2_with fail
    go_ret
    exact ⟨ret_bool (by rw [regB, ← H1.out]; have := HP.out; rw [e1] at this; rw [this]; simp), rfl⟩

theorem store_float (a : Addr) (b : Nat) (w : World) : (store a (.float .f64 b)).run Tryd.prog w = stored Tryd.prog w a (.float .f64 b) .plain := run_store Tryd.prog w a _ .plain rfl

set_option maxHeartbeats 1600000 in
set_option maxRecDepth 100000 in
theorem joined_any (a b : ActL) (w : World) (oa : a.Ok) (ob : b.Ok) : Calls Tryd.prog 96 #[a.v, b.v] w fun e w' => e = .returned (joined a b).v ∧ Bl w w' := by
  obtain ⟨k, x, n, s⟩ := a
  obtain ⟨l, y, m, t⟩ := b
  obtain ⟨hk, hx, hn, hs⟩ := oa
  obtain ⟨hl, hy, hm, ht⟩ := ob
  simp only at hk hx hn hs hl hy hm ht
  show Calls Tryd.prog 96 #[.agg #[.int .i64 k, .float .f64 x, .int .i64 n, .string s], .agg #[.int .i64 l, .float .f64 y, .int .i64 m, .string t]] w _
  have hsf := store_float
  by_cases h1 : l = 1
  · subst h1
    go_enter Tryd.func96, Tryd.ntmps96
    go_wp2_with fail
    refine bodyPost_ret (v := (joined ⟨k, x, n, s⟩ ⟨1, y, m, t⟩).v) (by simp [results, Tryd.results96, go_sem, joined, ActL.v, nilS]) rfl ⟨rfl, ?_⟩
    exact (((Bl.refl w).alloc _).alloc _).alloc _
  · have q1 : (l == 1) = false := by simpa using h1
    by_cases h2 : l = 2
    · subst h2
      clear h1
      go_enter Tryd.func96, Tryd.ntmps96
      go_wp2_with fail
      have hB := (((Bl.refl w).alloc (.cells [.int .i64 k, .float .f64 x, .int .i64 n, .string s].toArray 28)).alloc (.cells [.int .i64 2, .float .f64 y, .int .i64 m, .string t].toArray 28)).alloc (.cells [.int .i64 0, .float .f64 0, .int .i64 0, .string ⟨#[]⟩].toArray 28)
      have hA := (((AC.new w _ rfl [.int .i64 k, .float .f64 x, .int .i64 n, .string s] 28).keep ((Bl.refl _).alloc (.cells [.int .i64 2, .float .f64 y, .int .i64 m, .string t].toArray 28))).keep ((Bl.refl _).alloc (.cells [.int .i64 0, .float .f64 0, .int .i64 0, .string ⟨#[]⟩].toArray 28))).act
      have hC := ((AC.new (w.alloc (.cells [.int .i64 k, .float .f64 x, .int .i64 n, .string s].toArray 28)) (w.heap.size + 1) (by simp) [.int .i64 2, .float .f64 y, .int .i64 m, .string t] 28).keep ((Bl.refl _).alloc (.cells [.int .i64 0, .float .f64 0, .int .i64 0, .string ⟨#[]⟩].toArray 28))).act
      have hD := AC.new ((w.alloc (.cells [.int .i64 k, .float .f64 x, .int .i64 n, .string s].toArray 28)).alloc (.cells [.int .i64 2, .float .f64 y, .int .i64 m, .string t].toArray 28)) (w.heap.size + 1 + 1) (by simp) [.int .i64 0, .float .f64 0, .int .i64 0, .string ⟨#[]⟩] 28
      obtain ⟨_, a1, _, _⟩ := hA
      obtain ⟨b0, b1, _, _⟩ := hC
      generalize (((w.alloc (.cells [.int .i64 k, .float .f64 x, .int .i64 n, .string s].toArray 28)).alloc (.cells [.int .i64 2, .float .f64 y, .int .i64 m, .string t].toArray 28)).alloc (.cells [.int .i64 0, .float .f64 0, .int .i64 0, .string ⟨#[]⟩].toArray 28)) = W at *
      go_region_law (go_simp; refine (rmax_any x y _ hx hy).mono ?_; rintro e w' ⟨rfl, hb'⟩; have HB := Bl.ofDrew hb'; have a1' := HB.cell a1; have b0' := HB.cell b0; have b1' := HB.cell b1; have hD' := hD.keep HB; obtain ⟨d0, d1, d2, d3⟩ := hD'.act; have f0 := hD'.frozen 0; have f1 := hD'.frozen 1; have f2 := hD'.frozen 2; have f3 := hD'.frozen 3; dsimp only)
      all_goals (
        have HBW := hB.trans HB
        go_wp2_with fail
        have hN : ∀ j, w.heap.size ≤ (⟨w.heap.size + 1 + 1, j, none⟩ : Addr).block := fun j => by show w.heap.size ≤ w.heap.size + 1 + 1; omega
        refine bodyPost_ret (v := (joined ⟨k, x, n, s⟩ ⟨2, y, m, t⟩).v) (by simp [results, Tryd.results96, go_sem, joined, ActL.v, nilS, d0, d1, d2, d3]) rfl ⟨rfl, ?_⟩
        exact (((HBW.setCell (hN _) _).setCell (hN _) _).setCell (hN _) _).setCell (hN _) _)
    · have q2 : (l == 2) = false := by simpa using h2
      by_cases h3 : l = 3
      · subst h3
        clear h1 h2
        go_enter Tryd.func96, Tryd.ntmps96
        go_wp2_with fail
        have hB := (((Bl.refl w).alloc (.cells [.int .i64 k, .float .f64 x, .int .i64 n, .string s].toArray 28)).alloc (.cells [.int .i64 3, .float .f64 y, .int .i64 m, .string t].toArray 28)).alloc (.cells [.int .i64 0, .float .f64 0, .int .i64 0, .string ⟨#[]⟩].toArray 28)
        have hA := (((AC.new w _ rfl [.int .i64 k, .float .f64 x, .int .i64 n, .string s] 28).keep ((Bl.refl _).alloc (.cells [.int .i64 3, .float .f64 y, .int .i64 m, .string t].toArray 28))).keep ((Bl.refl _).alloc (.cells [.int .i64 0, .float .f64 0, .int .i64 0, .string ⟨#[]⟩].toArray 28))).act
        have hC := ((AC.new (w.alloc (.cells [.int .i64 k, .float .f64 x, .int .i64 n, .string s].toArray 28)) (w.heap.size + 1) (by simp) [.int .i64 3, .float .f64 y, .int .i64 m, .string t] 28).keep ((Bl.refl _).alloc (.cells [.int .i64 0, .float .f64 0, .int .i64 0, .string ⟨#[]⟩].toArray 28))).act
        have hD := AC.new ((w.alloc (.cells [.int .i64 k, .float .f64 x, .int .i64 n, .string s].toArray 28)).alloc (.cells [.int .i64 3, .float .f64 y, .int .i64 m, .string t].toArray 28)) (w.heap.size + 1 + 1) (by simp) [.int .i64 0, .float .f64 0, .int .i64 0, .string ⟨#[]⟩] 28
        obtain ⟨_, a1, _, _⟩ := hA
        obtain ⟨b0, b1, _, _⟩ := hC
        generalize (((w.alloc (.cells [.int .i64 k, .float .f64 x, .int .i64 n, .string s].toArray 28)).alloc (.cells [.int .i64 3, .float .f64 y, .int .i64 m, .string t].toArray 28)).alloc (.cells [.int .i64 0, .float .f64 0, .int .i64 0, .string ⟨#[]⟩].toArray 28)) = W at *
        go_region_law (go_simp; refine (rmin_any x y _ hx hy).mono ?_; rintro e w' ⟨rfl, hb'⟩; have HB := Bl.ofDrew hb'; have a1' := HB.cell a1; have b0' := HB.cell b0; have b1' := HB.cell b1; have hD' := hD.keep HB; obtain ⟨d0, d1, d2, d3⟩ := hD'.act; have f0 := hD'.frozen 0; have f1 := hD'.frozen 1; have f2 := hD'.frozen 2; have f3 := hD'.frozen 3; dsimp only)
        all_goals (
          have HBW := hB.trans HB
          go_wp2_with fail
          have hN : ∀ j, w.heap.size ≤ (⟨w.heap.size + 1 + 1, j, none⟩ : Addr).block := fun j => by show w.heap.size ≤ w.heap.size + 1 + 1; omega
          refine bodyPost_ret (v := (joined ⟨k, x, n, s⟩ ⟨3, y, m, t⟩).v) (by simp [results, Tryd.results96, go_sem, joined, ActL.v, nilS, d0, d1, d2, d3]) rfl ⟨rfl, ?_⟩
          exact (((HBW.setCell (hN _) _).setCell (hN _) _).setCell (hN _) _).setCell (hN _) _)
      · have q3 : (l == 3) = false := by simpa using h3
        have HJ := Lib.hid (show joined ⟨k, x, n, s⟩ ⟨l, y, m, t⟩ = ⟨l, y, m, t⟩ by simp [joined, h1, h2, h3])
        clear h1 h2 h3
        go_enter Tryd.func96, Tryd.ntmps96
        go_wp2_with fail
        rw [HJ.out]
        refine bodyPost_ret (v := ActL.v ⟨l, y, m, t⟩) (by simp [results, Tryd.results96, go_sem, ActL.v]) rfl ⟨rfl, ?_⟩
        exact (((Bl.refl w).alloc _).alloc _).alloc _
end Go.Proofs.YtgdlcoicejgdkaaDoor
