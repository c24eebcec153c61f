import Derived.Test.YtibabgokmacnaaaGreatQGossipPlaysUptoP36
import Derived.Test.YtibabgokmacnaaaGreatQGossipPlaysUptoP30

/- proto.Reader.Next: its ways. By an AI agent. -/
section
set_option linter.unusedVariables false
set_option linter.unusedSimpArgs false
namespace Go.Proofs.YtibabgokmacnaaaGreat
open Go.RowKit

theorem get4_any (l : List UInt8) (w : World) (h : 4 ≤ l.length) :
    Calls Tryz.prog 62 #[.string (strL (l.take 4))] w fun e w' => e = .returned (.tuple #[.int .i64 (getN (l.take 4)), .int .i64 0]) ∧ w = w' :=
  get_any (strL (l.take 4)) w (by rw [strL_size, List.length_take]; omega) (by rw [strL_size, List.length_take]; omega)
theorem next_short (g : Nat) (l : List UInt8) (w : World) (h : RB2 w g l false) (hl : l.length < 4) :
    Calls Tryz.prog 149 #[.pointer (some ⟨g, 0, none⟩)] w fun e w' => e = .returned (.tuple #[.string ⟨#[]⟩, .bool false]) ∧ w = w' := by
  have c0 := AC.cell h 0 _ rfl
  have c1 := AC.cell h 1 _ rfl
  have z1 := strL_size l
  generalize strL l = s at *
  go_enter Tryz.func149, Tryz.ntmps149
  go_wp2_with fail
  go_ret2
  exact ⟨rfl, rfl⟩
theorem next_wait (g : Nat) (l : List UInt8) (n : Nat) (w : World) (h : RB2 w g l false) (hl : 4 ≤ l.length) (hz : l.length ≤ 140737488351232) (hn : getN (l.take 4) = n) (hn1 : n ≤ 65536) (hn2 : l.length < 8 + n) :
    Calls Tryz.prog 149 #[.pointer (some ⟨g, 0, none⟩)] w fun e w' => e = .returned (.tuple #[.string ⟨#[]⟩, .bool false]) ∧ w = w' := by
  have c0 := AC.cell h 0 _ rfl
  have c1 := AC.cell h 1 _ rfl
  have z1 := strL_size l
  have hq := strL_ext l 0 4
  rw [List.drop_zero, show 4 - 0 = 4 from rfl] at hq
  have G := Lib.hid (fun w => get4_any l w hl)
  rw [hn] at G
  clear hn
  generalize strL (l.take 4) = q at *
  generalize strL l = s at *
  go_enter Tryz.func149, Tryz.ntmps149
  go_wp2_with fail
  refine (G.out _).mono ?_
  rintro e w' ⟨rfl, rfl⟩
  go_wp2_with fail
  go_ret2
  exact ⟨rfl, rfl⟩
theorem next_over (g : Nat) (l : List UInt8) (n : Nat) (w : World) (h : RB2 w g l false) (hl : 4 ≤ l.length) (hz : l.length ≤ 140737488351232) (hn : getN (l.take 4) = n) (hn1 : 65536 < n) (hn3 : n < 4294967296) :
    Calls Tryz.prog 149 #[.pointer (some ⟨g, 0, none⟩)] w fun e w' => e = .returned (.tuple #[.string ⟨#[]⟩, .bool false]) ∧ w' = (w.setCell ⟨g, 0, none⟩ (.string (strL []))).setCell ⟨g, 1, none⟩ (.bool true) := by
  have c0 := AC.cell h 0 _ rfl
  have c1 := AC.cell h 1 _ rfl
  have f0 := AC.frozen h 0
  have h' := AC.setj h 0 (.string ⟨#[]⟩)
  have d1 := AC.cell h' 1 _ rfl
  have f1 := AC.frozen h' 1
  have z1 := strL_size l
  have hq := strL_ext l 0 4
  rw [List.drop_zero, show 4 - 0 = 4 from rfl] at hq
  have G := Lib.hid (fun w => get4_any l w hl)
  rw [hn] at G
  clear hn h h'
  generalize strL (l.take 4) = q at *
  generalize strL l = s at *
  go_enter Tryz.func149, Tryz.ntmps149
  go_wp2_with fail
  refine (G.out _).mono ?_
  rintro e w' ⟨rfl, rfl⟩
  go_wp2_with fail
  go_ret2
  exact ⟨rfl, rfl⟩
/-- the facts of a whole frame, as the ways ask for them -/
structure Whole (l : List UInt8) (n : Nat) (q p c r : ByteArray) (m : Nat) : Prop where
  g1 : ∀ w, Calls Tryz.prog 62 #[.string q] w fun e w' => e = .returned (.tuple #[.int .i64 (n : Int), .int .i64 0]) ∧ w = w'
  g2 : ∀ w, Calls Tryz.prog 62 #[.string p] w fun e w' => e = .returned (.tuple #[.int .i64 (getN ((l.drop 4).take 4)), .int .i64 0]) ∧ w = w'
  g3 : ∀ w, Calls Tryz.prog 207 #[.string c] w fun e w' => e = .returned (.int .i64 (m : Int)) ∧ w = w'
  g4 : ∀ w, Calls Tryz.prog 208 #[.string c] w fun e w' => e = .returned (.string c) ∧ Bl w w'
theorem whole_of (l : List UInt8) (n : Nat) (hn : getN (l.take 4) = n) (hn1 : n ≤ 65536) (hn2 : 8 + n ≤ l.length) :
    Whole l n (strL (l.take 4)) (strL ((l.drop 4).take 4)) (strL ((l.drop 8).take n)) (strL (l.drop (8 + n))) (sumL ((l.drop 8).take n)) where
  g1 := fun w => by
    have := get4_any l w (by omega)
    rwa [hn] at this
  g2 := fun w => get4_any (l.drop 4) w (by rw [List.length_drop]; omega)
  g3 := fun w => sum_any (strL ((l.drop 8).take n)) w (by rw [strL_size, List.length_take]; omega)
  g4 := fun w => cloneB_any (strL ((l.drop 8).take n)) w (by rw [strL_size, List.length_take]; omega)
theorem next_bads (g : Nat) (l : List UInt8) (n : Nat) (q p c r : ByteArray) (m : Nat) (k : Int) (w : World) (h : RB2 w g l false) (hz : l.length ≤ 140737488351232) (HW : Hid (Whole l n q p c r m)) (hn1 : n ≤ 65536) (hn2 : 8 + n ≤ l.length)
    (hq : (strL l).extract 0 4 = q) (hp : (strL l).extract 4 8 = p) (hc : (strL l).extract 8 (8 + n) = c) (hk : getN ((l.drop 4).take 4) = k) (hs : ((m : Int) == k) = false) :
    Calls Tryz.prog 149 #[.pointer (some ⟨g, 0, none⟩)] w fun e w' => e = .returned (.tuple #[.string ⟨#[]⟩, .bool false]) ∧ w' = (w.setCell ⟨g, 0, none⟩ (.string (strL []))).setCell ⟨g, 1, none⟩ (.bool true) := by
  have c0 := AC.cell h 0 _ rfl
  have c1 := AC.cell h 1 _ rfl
  have f0 := AC.frozen h 0
  have h' := AC.setj h 0 (.string ⟨#[]⟩)
  have d1 := AC.cell h' 1 _ rfl
  have f1 := AC.frozen h' 1
  have z1 := strL_size l
  have G1 := Lib.hid HW.out.g1
  have G2 := Lib.hid HW.out.g2
  rw [hk] at G2
  have G3 := Lib.hid HW.out.g3
  clear hk h h' HW
  generalize strL l = s at *
  go_enter Tryz.func149, Tryz.ntmps149
  go_wp2_with fail
  refine (G1.out _).mono ?_
  rintro e w' ⟨rfl, rfl⟩
  go_wp2_with fail
  refine (G2.out _).mono ?_
  rintro e w' ⟨rfl, rfl⟩
  go_wp2_with fail
  refine (G3.out _).mono ?_
  rintro e w' ⟨rfl, rfl⟩
  go_wp2_with fail
  go_ret2
  exact ⟨rfl, rfl⟩
theorem next_whole (g : Nat) (l : List UInt8) (n : Nat) (q p c r : ByteArray) (m : Nat) (w : World) (h : RB2 w g l false) (hz : l.length ≤ 140737488351232) (HW : Hid (Whole l n q p c r m)) (hn1 : n ≤ 65536) (hn2 : 8 + n ≤ l.length)
    (hq : (strL l).extract 0 4 = q) (hp : (strL l).extract 4 8 = p) (hc : (strL l).extract 8 (8 + n) = c) (hr : (strL l).extract (8 + n) (strL l).size = r) (hk : getN ((l.drop 4).take 4) = m) :
    Calls Tryz.prog 149 #[.pointer (some ⟨g, 0, none⟩)] w fun e w' => e = .returned (.tuple #[.string c, .bool true]) ∧ Bl (w.setCell ⟨g, 0, none⟩ (.string r)) w' := by
  have c0 := AC.cell h 0 _ rfl
  have c1 := AC.cell h 1 _ rfl
  have f0 := AC.frozen h 0
  have z1 := strL_size l
  have G1 := Lib.hid HW.out.g1
  have G2 := Lib.hid HW.out.g2
  rw [hk] at G2
  have G3 := Lib.hid HW.out.g3
  have G4 := Lib.hid HW.out.g4
  rw [z1] at hr
  clear hk h HW
  generalize strL l = s at *
  go_enter Tryz.func149, Tryz.ntmps149
  go_wp2_with fail
  refine (G1.out _).mono ?_
  rintro e w' ⟨rfl, rfl⟩
  go_wp2_with fail
  refine (G2.out _).mono ?_
  rintro e w' ⟨rfl, rfl⟩
  go_wp2_with fail
  refine (G3.out _).mono ?_
  rintro e w' ⟨rfl, rfl⟩
  go_wp2_with fail
  refine (G4.out _).mono ?_
  rintro e w' ⟨rfl, hb⟩
  go_wp2_with fail
  go_ret2
  exact ⟨rfl, hb⟩
theorem lenF_int (l : List UInt8) : getN (l.take 4) = (lenF l : Int) := by
  unfold lenF
  rw [Int.toNat_of_nonneg (getN4 l).1]
theorem drop4 (l : List UInt8) (a b : Nat) : (strL l).extract a b = strL ((l.drop a).take (b - a)) := strL_ext l a b
theorem headF_zero {l : List UInt8} (h : headF l = 0) : l.length < 4 ∨ (4 ≤ l.length ∧ lenF l ≤ 65536 ∧ l.length < 8 + lenF l) := by
  unfold headF at h
  rw [lenF_int l] at h
  split at h
  · left; assumption
  · right
    split at h
    · cases h
    · split at h
      · omega
      · split at h <;> cases h
theorem headF_one {l : List UInt8} (h : headF l = 1) : 4 ≤ l.length ∧ lenF l ≤ 65536 ∧ 8 + lenF l ≤ l.length ∧ getN ((l.drop 4).take 4) = (sumL (bodyF l) : Int) := by
  unfold headF at h
  have e : (l.drop 8).take (getN (l.take 4)).toNat = bodyF l := rfl
  rw [e, lenF_int l] at h
  split at h
  · cases h
  · split at h
    · cases h
    · split at h
      · cases h
      · split at h
        · rename_i h1
          exact ⟨by omega, by omega, by omega, h1.symm⟩
        · cases h
theorem headF_two {l : List UInt8} (h : headF l = 2) : 4 ≤ l.length ∧ (65536 < lenF l ∨ (lenF l ≤ 65536 ∧ 8 + lenF l ≤ l.length ∧ getN ((l.drop 4).take 4) ≠ (sumL (bodyF l) : Int))) := by
  unfold headF at h
  have e : (l.drop 8).take (getN (l.take 4)).toNat = bodyF l := rfl
  rw [e, lenF_int l] at h
  split at h
  · cases h
  · split at h
    · exact ⟨by omega, .inl (by omega)⟩
    · split at h
      · cases h
      · split at h
        · cases h
        · rename_i h1
          exact ⟨by omega, .inr ⟨by omega, by omega, fun x => h1 x.symm⟩⟩
theorem headF_cases (l : List UInt8) : headF l = 0 ∨ headF l = 1 ∨ headF l = 2 := by
  unfold headF
  (repeat' split) <;> simp
theorem next0 (g : Nat) (l : List UInt8) (w : World) (h : RB2 w g l false) (hz : l.length ≤ 140737488351232) (hh : headF l = 0) :
    Calls Tryz.prog 149 #[.pointer (some ⟨g, 0, none⟩)] w fun e w' => e = .returned (.tuple #[.string ⟨#[]⟩, .bool false]) ∧ w = w' := by
  rcases headF_zero hh with h1 | ⟨h1, h2, h3⟩
  · exact next_short g l w h h1
  · exact next_wait g l (lenF l) w h h1 hz (lenF_int l) h2 h3
theorem next1 (g : Nat) (l : List UInt8) (w : World) (h : RB2 w g l false) (hz : l.length ≤ 140737488351232) (hh : headF l = 1) :
    Calls Tryz.prog 149 #[.pointer (some ⟨g, 0, none⟩)] w fun e w' => e = .returned (.tuple #[.string (strL (bodyF l)), .bool true]) ∧ Bl (w.setCell ⟨g, 0, none⟩ (.string (strL (restF l)))) w' := by
  obtain ⟨h1, h2, h3, h4⟩ := headF_one hh
  have HW := whole_of l (lenF l) (lenF_int l) h2 h3
  refine next_whole g l (lenF l) _ _ _ _ _ w h hz (Lib.hid HW) h2 h3 ?_ ?_ ?_ ?_ h4
  · rw [strL_ext, List.drop_zero]
  · rw [strL_ext]
  · rw [strL_ext, show 8 + lenF l - 8 = lenF l by omega]; rfl
  · rw [strL_ext, strL_size, List.take_of_length_le (by rw [List.length_drop]; omega)]; rfl
theorem next2 (g : Nat) (l : List UInt8) (w : World) (h : RB2 w g l false) (hz : l.length ≤ 140737488351232) (hh : headF l = 2) :
    Calls Tryz.prog 149 #[.pointer (some ⟨g, 0, none⟩)] w fun e w' => e = .returned (.tuple #[.string ⟨#[]⟩, .bool false]) ∧ w' = (w.setCell ⟨g, 0, none⟩ (.string (strL []))).setCell ⟨g, 1, none⟩ (.bool true) := by
  obtain ⟨h1, h2 | ⟨h2, h3, h4⟩⟩ := headF_two hh
  · have := (getN4 l).2
    rw [lenF_int l] at this
    exact next_over g l (lenF l) w h h1 hz (lenF_int l) h2 (by omega)
  · have HW := whole_of l (lenF l) (lenF_int l) h2 h3
    refine next_bads g l (lenF l) _ _ _ _ _ _ w h hz (Lib.hid HW) h2 h3 ?_ ?_ ?_ rfl ?_
    · rw [strL_ext, List.drop_zero]
    · rw [strL_ext]
    · rw [strL_ext, show 8 + lenF l - 8 = lenF l by omega]
    · rw [beq_eq_false_iff_ne]
      exact fun x => h4 x.symm
end Go.Proofs.YtibabgokmacnaaaGreat
end

/- math.NaN. By an AI agent. -/
section
namespace Go.Proofs.YtibabgokmacnaaaGreat
open Go.RowKit

theorem nan_is (w : World) : Calls Tryz.prog 142 #[] w fun e w' => e = .returned (.float .f64 nanW) ∧ w = w' := by
  have hrb := run_frombits
  go_enter Tryz.func142, Tryz.ntmps142
  go_wp2_with fail
  go_ret
  exact ⟨rfl, rfl⟩
end Go.Proofs.YtibabgokmacnaaaGreat
end
