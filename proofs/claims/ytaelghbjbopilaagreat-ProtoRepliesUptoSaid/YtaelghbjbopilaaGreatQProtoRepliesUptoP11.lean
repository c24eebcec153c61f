import Derived.Test.YtaelghbjbopilaaGreatQProtoRepliesUptoP10
import Derived.Test.YtaelghbjbopilaaGreatQProtoRepliesUptoP2
import Derived.StillTailTactics
import Derived.Test.YtaelghbjbopilaaGreatQProtoRepliesUptoP7

/- proto.num, text, vector, Frame; proto.Reader. By an AI agent. -/
section
set_option linter.unusedVariables false
set_option linter.unusedSimpArgs false
namespace Go.Proofs.YtaelghbjbopilaaGreat
open Go.RowKit

theorem num_any (v : Int) (n : Nat) (w : World) (hv : 0 ≤ v) (hn : 1 ≤ n) (hn1 : n ≤ 7) (hvn : v / 2 ^ (8 * n) = 0) :
    Calls Tryz.prog 24 #[.int .i64 v, .int .i64 n] w fun e w' => e = .returned (.string (strL (numB v n))) ∧ Bl w w' := by
  have H := Lib.hid (fun w => put_any v n w hv hn hn1 hvn)
  go_enter Tryz.func24, Tryz.ntmps24
  go_wp2_with fail
  refine (H.out _).mono ?_
  rintro e w' ⟨rfl, hb⟩
  rw [strL_nums]
  go_wp2_with fail
  go_ret
  exact ⟨rfl, hb⟩
theorem num4_any (v : Nat) (w : World) (hv : v < 4294967296) :
    Calls Tryz.prog 24 #[.int .i64 v, .int .i64 4] w fun e w' => e = .returned (.string (strL (numB v 4))) ∧ Bl w w' :=
  num_any v 4 w (by omega) (by decide) (by decide) (by omega)
theorem text_any (l : List UInt8) (w : World) (hl : l.length < 4294967296) :
    Calls Tryz.prog 27 #[.string (strL l)] w fun e w' => e = .returned (.string (strL (textB l))) ∧ Bl w w' := by
  have H := Lib.hid (fun w => num4_any l.length w hl)
  have hz := strL_size l
  have hz2 := strL_size (numB (l.length : Int) 4)
  rw [numB_len] at hz2
  have HA := Lib.hid (strL_app (numB (l.length : Int) 4) l)
  generalize strL (numB (l.length : Int) 4) = q at *
  go_enter Tryz.func27, Tryz.ntmps27
  go_wp2_with fail
  refine (H.out _).mono ?_
  rintro e w' ⟨rfl, hb⟩
  go_wp2_with fail
  go_ret
  exact ⟨by rw [HA.out]; rfl, hb⟩
theorem vector_any (a : Option Addr) (n ca : Nat) (xs : List Int) (w : World) (hx : IA w a n xs) :
    Calls Tryz.prog 25 #[.slice a n ca] w fun e w' => e = .returned (.string (strL (vecB xs))) ∧ Bl w w' := by
  have HX := Lib.hid hx
  clear hx
  go_enter Tryz.func25, Tryz.ntmps25
  go_wp2_with fail
  have hP : Calls Tryz.prog 121 #[.slice a n ca] w fun e w' => ∃ c, e = .returned (.tuple #[.string (strL (vecS xs)), .int .i64 c]) ∧ Bl w w' := by
    unfold vecS
    cases hv : validL xs
    · refine (vput_no a n ca xs w HX.out hv).mono ?_
      rintro e w' ⟨rfl, rfl⟩
      exact ⟨1, rfl, Bl.refl _⟩
    · refine (vput_yes a n ca xs w HX.out hv).mono ?_
      rintro e w' ⟨rfl, hb⟩
      exact ⟨0, rfl, hb⟩
  refine hP.mono ?_
  rintro e w1 ⟨c, rfl, hb⟩
  clear hP
  have H := Lib.hid (fun w => text_any (vecS xs) w (by have := vecS_len xs; omega))
  generalize strL (vecS xs) = q at *
  go_wp2_with fail
  refine (H.out _).mono ?_
  rintro e w2 ⟨rfl, hb2⟩
  go_wp2_with fail
  go_ret
  exact ⟨rfl, hb.trans hb2⟩

/-! ### frames -/
def frameL (l : List UInt8) : List UInt8 := numB (l.length : Int) 4 ++ (numB (sumL l : Int) 4 ++ l)
theorem frameL_len (l : List UInt8) : (frameL l).length = 8 + l.length := by
  unfold frameL
  rw [List.length_append, List.length_append, numB_len, numB_len]; omega
theorem frame_yes (l : List UInt8) (w : World) (hl : l.length ≤ 65536) :
    Calls Tryz.prog 16 #[.string (strL l)] w fun e w' => e = .returned (.tuple #[.string (strL (frameL l)), .int .i64 0]) ∧ Bl w w' := by
  have H1 := Lib.hid (fun w => num4_any l.length w (by omega))
  have H2 := Lib.hid (fun w => num4_any (sumL l) w (sumL_lt l))
  have H3 := Lib.hid (fun w => sum_any (strL l) w (by rw [strL_size]; omega))
  rw [show (strL l).data.toList = l from rfl] at H3
  have hz := strL_size l
  have hz2 := strL_size (numB (l.length : Int) 4)
  have hz3 := strL_size (numB (sumL l : Int) 4)
  rw [numB_len] at hz2 hz3
  have HA := Lib.hid (strL_app (numB (l.length : Int) 4) (numB (sumL l : Int) 4))
  have hz4 := strL_size (numB (l.length : Int) 4 ++ numB (sumL l : Int) 4)
  rw [List.length_append, numB_len, numB_len] at hz4
  have HB := Lib.hid (strL_app (numB (l.length : Int) 4 ++ numB (sumL l : Int) 4) l)
  rw [List.append_assoc] at HB
  generalize strL (numB (l.length : Int) 4 ++ numB (sumL l : Int) 4) = q3 at *
  generalize strL (numB (l.length : Int) 4) = q1 at *
  generalize strL (numB (sumL l : Int) 4) = q2 at *
  have hz5 : (q1 ++ q2).size = 8 := by rw [HA.out, hz4]
  generalize hsum : sumL l = r at *
  go_enter Tryz.func16, Tryz.ntmps16
  go_wp2_with fail
  refine (H1.out _).mono ?_
  rintro e w1 ⟨rfl, hb1⟩
  go_wp2_with fail
  refine (H3.out _).mono ?_
  rintro e w2 ⟨rfl, rfl⟩
  go_wp2_with fail
  refine (H2.out _).mono ?_
  rintro e w2 ⟨rfl, hb2⟩
  go_wp2_with fail
  go_ret2
  exact ⟨by rw [HA.out, HB.out]; unfold frameL; rw [hsum]; rfl, hb1.trans hb2⟩

/-! ### the reader of frames -/
/-- what stands first: 0 nothing whole yet, 1 a frame, 2 what is none -/
def headF (l : List UInt8) : Nat :=
  if l.length < 4 then 0
  else if 65536 < getN (l.take 4) then 2
  else if (l.length : Int) < 8 + getN (l.take 4) then 0
  else if (sumL ((l.drop 8).take (getN (l.take 4)).toNat) : Int) = getN ((l.drop 4).take 4) then 1 else 2
def lenF (l : List UInt8) : Nat := (getN (l.take 4)).toNat
def bodyF (l : List UInt8) : List UInt8 := (l.drop 8).take (lenF l)
def restF (l : List UInt8) : List UInt8 := l.drop (8 + lenF l)
theorem getN4 (l : List UInt8) : 0 ≤ getN (l.take 4) ∧ getN (l.take 4) < 4294967296 := by
  have h := getN_bound (l.take 4)
  have hl : (l.take 4).length ≤ 4 := List.length_take_le _ _
  generalize (l.take 4).length = k at *
  have hk : k = 0 ∨ k = 1 ∨ k = 2 ∨ k = 3 ∨ k = 4 := by omega
  rcases hk with rfl | rfl | rfl | rfl | rfl <;> exact ⟨h.1, Int.lt_of_lt_of_le h.2 (by decide)⟩
/-- the reader's box -/
def RB2 (w : World) (g : Nat) (s : List UInt8) (b : Bool) : Prop := AC w g [.string (strL s), .bool b]
theorem RB2.keep {w w' : World} {g : Nat} {s : List UInt8} {b : Bool} (h : RB2 w g s b) (hb : Bl w w') : RB2 w' g s b := AC.keep h hb

theorem feed_any (g : Nat) (m l : List UInt8) (w : World) (h : RB2 w g l false) (hz : l.length + m.length ≤ 140737488351232) :
    Calls Tryz.prog 17 #[.pointer (some ⟨g, 0, none⟩), .string (strL m)] w fun e w' => e = .returned (.tuple #[]) ∧ w' = w.setCell ⟨g, 0, none⟩ (.string (strL (l ++ m))) := by
  have c0 := AC.cell h 0 _ rfl
  have c1 := AC.cell h 1 _ rfl
  have cf := AC.frozen h 0
  have z1 := strL_size l
  have z2 := strL_size m
  have HA := Lib.hid (strL_app l m)
  generalize strL l = s at *
  generalize strL m = t at *
  go_enter Tryz.func17, Tryz.ntmps17
  go_wp2_with fail
  go_end0
  exact ⟨rfl, by rw [HA.out]⟩
theorem left_any (g : Nat) (l : List UInt8) (b : Bool) (w : World) (h : RB2 w g l b) (hz : l.length ≤ 140737488351232) : Calls Tryz.prog 21 #[.pointer (some ⟨g, 0, none⟩)] w fun e w' => e = .returned (.int .i64 (l.length : Int)) ∧ w = w' := by
  have c0 := AC.cell h 0 _ rfl
  have z1 := strL_size l
  rw [← z1] at hz
  generalize strL l = s at *
  go_enter Tryz.func21, Tryz.ntmps21
  go_wp2_with fail
  go_ret
  exact ⟨rfl, rfl⟩
end Go.Proofs.YtaelghbjbopilaaGreat
end

/- a block that is filled anew, cell by cell. By an AI agent. -/
section
namespace Go.Proofs.YtaelghbjbopilaaGreat
open Go.RowKit

/-- the cells of block g from j on are set anew -/
def fill (w : World) (g : Nat) : Nat → List Value → World
  | _, [] => w
  | j, v :: vs => fill (w.setCell ⟨g, j, none⟩ v) g (j + 1) vs
theorem AC.fillFrom (vs : List Value) : ∀ (w : World) (g j : Nat) (cs ds : List Value), AC w g (ds ++ cs) → ds.length = j → cs.length = vs.length → AC (fill w g j vs) g (ds ++ vs) := by
  induction vs with
  | nil =>
    intro w g j cs ds h _ hl
    obtain rfl : cs = [] := List.eq_nil_of_length_eq_zero hl
    exact h
  | cons v vs ih =>
    intro w g j cs ds h hj hl
    cases cs with
    | nil => cases hl
    | cons c cs =>
      have h1 := h.setj j v
      have e : (ds ++ c :: cs).set j v = (ds ++ [v]) ++ cs := by
        subst hj
        rw [List.set_append_right _ _ (Nat.le_refl _)]
        simp
      rw [e] at h1
      have := ih (w.setCell ⟨g, j, none⟩ v) g (j + 1) cs (ds ++ [v]) h1 (by simp [hj]) (by simpa using hl)
      simpa [fill] using this
theorem AC.fill {w : World} {g : Nat} {cs : List Value} (h : AC w g cs) (vs : List Value) (hl : cs.length = vs.length) : AC (fill w g 0 vs) g vs :=
  AC.fillFrom vs w g 0 cs [] h rfl hl
theorem Bl.fill {w : World} {g : Nat} (hg : w.heap.size ≤ g) (vs : List Value) : ∀ (W : World) (j : Nat), Bl w W → Bl w (fill W g j vs) := by
  induction vs with
  | nil => intro W j h; exact h
  | cons v vs ih => intro W j h; exact ih _ _ (h.setCell (p := ⟨g, j, none⟩) hg v)
theorem AC.fillOther {g g' : Nat} {cs : List Value} (hn : g ≠ g') (vs : List Value) : ∀ (w : World) (j : Nat), AC w g cs → AC (Go.Proofs.YtaelghbjbopilaaGreat.fill w g' j vs) g cs := by
  induction vs with
  | nil => intro w j h; exact h
  | cons v vs ih => intro w j h; exact ih _ _ (h.other hn)
theorem FarIA.fill {B : Nat} {a : Option Addr} {n : Nat} {xs : List Int} {q : Nat} (hq : q < B) (vs : List Value) : ∀ (w : World) (j : Nat), FarIA B w a n xs → FarIA B (Go.Proofs.YtaelghbjbopilaaGreat.fill w q j vs) a n xs := by
  induction vs with
  | nil => intro w j h; exact h
  | cons v vs ih => intro w j h; exact ih _ _ (h.set hq j v)
theorem C1.fillOther {g g' : Nat} {v : Value} (hn : g ≠ g') (vs : List Value) : ∀ (w : World) (j : Nat), C1 w g v → C1 (Go.Proofs.YtaelghbjbopilaaGreat.fill w g' j vs) g v := by
  induction vs with
  | nil => intro w j h; exact h
  | cons u vs ih => intro w j h; exact ih _ _ (h.otherj hn)
theorem IA.apart {w : World} {a : Option Addr} {n : Nat} {xs : List Int} (h : IA w a n xs) {q : Nat} (hq : ∀ b off, a = some ⟨b, off, none⟩ → n = 0 ∨ b ≠ q) (j : Nat) (u : Value) : IA (w.setCell ⟨q, j, none⟩ u) a n xs := by
  refine ⟨h.len, h.cap, fun i hi => ?_, h.wf⟩
  obtain ⟨b, off, e, hc⟩ := h.cells i hi
  refine ⟨b, off, e, fun i hi => ?_⟩
  have hne : b ≠ q := by
    have := hq b off e
    omega
  rw [← hc i hi]
  unfold World.cell?
  rw [Below.heap_setCell _ _ _ _ hne]
theorem IA.fillApart {a : Option Addr} {n : Nat} {xs : List Int} {q : Nat} (hq : ∀ b off, a = some ⟨b, off, none⟩ → n = 0 ∨ b ≠ q) (vs : List Value) : ∀ (w : World) (j : Nat), IA w a n xs → IA (fill w q j vs) a n xs := by
  induction vs with
  | nil => intro w j h; exact h
  | cons v vs ih => intro w j h; exact ih _ _ (h.apart hq j v)
theorem IA.block {w : World} {a : Option Addr} {n : Nat} {xs : List Int} (h : IA w a n xs) : ∀ b off, a = some ⟨b, off, none⟩ → n = 0 ∨ b < w.heap.size := by
  intro b off e
  by_cases hn : n = 0
  · exact .inl hn
  · obtain ⟨b', off', e', hc⟩ := h.cells 0 (by omega)
    rw [e] at e'
    cases e'
    exact .inr (World.block_lt_of_cell? _ _ (hc 0 (by omega)))
end Go.Proofs.YtaelghbjbopilaaGreat
end
