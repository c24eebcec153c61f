import Derived.Test.YtginbjcpcgphgaaCore4
import Derived.Outline
import Derived.Deep.DeepCutAuto

/- versions and their order: cmp.Or, slices.Compare, slices.Max, ikey.Time. By an AI agent. -/
section
namespace Go.Proofs.Ytginbjcpcgphgaa
open Go.RowKit

/-- the first that is not nought -/
def orL : List Int → Int
  | [] => 0
  | x :: xs => if x = 0 then orL xs else x
/-- lists in order, number by number -/
def cmpV : List Int → List Int → Int
  | [], [] => 0
  | [], _ :: _ => -1
  | _ :: _, [] => 1
  | x :: xs, y :: ys => if Lib.compareInt x y = 0 then cmpV xs ys else Lib.compareInt x y
/-- the greatest -/
def maxL : List Int → Int
  | [] => 0
  | x :: xs => xs.foldl max x
structure VerL where
  key : ByteArray
  at_ : List Int
  origin : Int
  tx : Int
  act : ActL
def timeL (v : VerL) : Int :=
  if v.origin = 254 ∧ 0 < v.at_.length then maxL v.at_
  else if 0 ≤ v.origin ∧ v.origin < (v.at_.length : Int) then nth v.at_ v.origin.toNat
  else 0
def orderL (a b : VerL) : Int :=
  orL [Lib.compareInt (timeL b) (timeL a), Lib.compareInt b.origin a.origin, Lib.compareInt b.tx a.tx, Lib.compareInt (a.at_.length : Int) (b.at_.length : Int), cmpV a.at_ b.at_]

theorem drop_cons {xs : List Int} {k : Nat} (h : k < xs.length) : xs.drop k = nth xs k :: xs.drop (k + 1) := by
  rw [nth_eq h]; exact List.drop_eq_getElem_cons h
theorem or_any (g n : Nat) (xs : List Int) (w : World) (hn : xs.length = n) (hn2 : n ≤ 1000) (hc : ∀ j, j < n → w.cell? ⟨g, j, none⟩ = some (.int .i64 (nth xs j))) :
    Calls Try.prog 53 #[.slice (some ⟨g, 0, none⟩) n n] w fun e w' => e = .returned (.int .i64 (orL xs)) ∧ w = w' := by
  have HN := Lib.hid hn
  go_enter Try.func53, Try.ntmps53
  go_wp2_with fail
  go_loop [8] (fun i => ∃ k : Nat, k ≤ n ∧ i = .int .i64 k ∧ orL xs = orL (xs.drop k)) (fun i => n - (intOf i).toNat)
  case atStart => exact ⟨0, Nat.zero_le _, rfl, rfl⟩
  case round =>
    obtain ⟨k, hk, rfl, ho⟩ := hrel
    by_cases hlt : k < n
    · have hck := hc k hlt
      have hd := drop_cons (xs := xs) (k := k) (by rw [HN.out]; exact hlt)
      rw [hd] at ho
      have HO := Lib.hid ho
      clear ho hd
      by_cases h0 : nth xs k = 0
      · have q : (nth xs k != 0) = false := by simp [h0]
        have H0 := Lib.hid h0
        clear h0
        go_wp2_with fail
        go_round
        case rel => exact ⟨k + 1, by omega, by go_num, by rw [HO.out]; show (if nth xs k = 0 then _ else _) = _; rw [if_pos H0.out]⟩
        case measure => simp [intOf]; omega
      · have q : (nth xs k != 0) = true := by simp [h0]
        have H0 := Lib.hid h0
        clear h0
        go_wp2_with fail
        go_ret
        exact ⟨ret_int (by rw [HO.out]; show _ = (if nth xs k = 0 then _ else _); rw [if_neg H0.out]), rfl⟩
    · have hE : xs.drop k = [] := List.drop_eq_nil_of_le (by omega)
      rw [hE] at ho
      have HO := Lib.hid ho
      clear ho hE
      go_wp2_with fail
      go_ret
      exact ⟨ret_int (by rw [HO.out]; rfl), rfl⟩

theorem IA.at_k {w : World} {a : Option Addr} {n : Nat} {xs : List Int} (h : IA w a n xs) (k : Nat) (hk : k < n) : ∃ b off, a = some ⟨b, off, none⟩ ∧ w.cell? ⟨b, off + k, none⟩ = some (.int .i64 (nth xs k)) := by
  obtain ⟨b, off, e, hc⟩ := h.cells k hk
  exact ⟨b, off, e, hc k hk⟩
theorem compare_zero {x y : Int} : Lib.compareInt x y = 0 ↔ x = y := by
  unfold Lib.compareInt
  split
  · constructor <;> intro h <;> omega
  · split
    · constructor <;> intro h <;> omega
    · constructor <;> intro h <;> omega
set_option maxHeartbeats 800000 in
theorem cmpV_any (a b : Option Addr) (n m ca cb : Nat) (xs ys : List Int) (w : World) (hx : IA w a n xs) (hy : IA w b m ys) :
    Calls Try.prog 55 #[.slice a n ca, .slice b m cb] w fun e w' => e = .returned (.int .i64 (cmpV xs ys)) ∧ w = w' := by
  have HX := Lib.hid hx.len
  have HY := Lib.hid hy.len
  have hnb := hx.cap
  have hmb := hy.cap
  go_enter Try.func55, Try.ntmps55
  go_wp2_with fail
  go_loop [11] (fun i => ∃ k : Nat, k ≤ n ∧ k ≤ m ∧ i = .int .i64 k ∧ cmpV xs ys = cmpV (xs.drop k) (ys.drop k)) (fun i => n - (intOf i).toNat)
  case atStart => exact ⟨0, Nat.zero_le _, Nat.zero_le _, rfl, rfl⟩
  case round =>
    obtain ⟨k, hk, hk2, rfl, ho⟩ := hrel
    by_cases hlt : k < n
    · obtain ⟨ba, oa, rfl, hca⟩ := hx.at_k k hlt
      have hd := drop_cons (xs := xs) (k := k) (by rw [HX.out]; exact hlt)
      by_cases hlt2 : k < m
      · obtain ⟨bb, ob, rfl, hcb⟩ := hy.at_k k hlt2
        have hd2 := drop_cons (xs := ys) (k := k) (by rw [HY.out]; exact hlt2)
        rw [hd, hd2] at ho
        have HO := Lib.hid ho
        clear ho hd hd2
        go_wp2_with fail
        refine (Try.cmp_Compare_int _ _ _).mono ?_
        rintro e w' ⟨rfl, rfl⟩
        by_cases h0 : Lib.compareInt (nth xs k) (nth ys k) = 0
        · rw [h0]
          have H0 := Lib.hid h0
          clear h0
          go_wp2_with fail
          go_round
          case rel => exact ⟨k + 1, by omega, by omega, by go_num, by rw [HO.out]; show (if Lib.compareInt _ _ = 0 then _ else _) = _; rw [if_pos H0.out]⟩
          case measure => simp [intOf]; omega
        · have H1 : Hid (cmpV xs ys = Lib.compareInt (nth xs k) (nth ys k)) := Lib.hid (by rw [HO.out]; show (if Lib.compareInt _ _ = 0 then _ else _) = _; rw [if_neg h0])
          have q : (Lib.compareInt (nth xs k) (nth ys k) != 0) = true := by simp [h0]
          clear HO
          generalize Lib.compareInt (nth xs k) (nth ys k) = c at *
          clear h0
          go_wp2_with fail
          go_ret
          exact ⟨ret_int H1.out.symm, rfl⟩
      · have hE : ys.drop k = [] := List.drop_eq_nil_of_le (by have := HY.out; omega)
        rw [hd, hE] at ho
        have HO := Lib.hid ho
        clear ho hE hd
        go_wp2_with fail
        go_ret
        exact ⟨ret_int (by rw [HO.out]; rfl), rfl⟩
    · have hE : xs.drop k = [] := List.drop_eq_nil_of_le (by have := HX.out; omega)
      rw [hE] at ho
      by_cases hnm : n < m
      · have hd2 := drop_cons (xs := ys) (k := k) (by have := HY.out; omega)
        rw [hd2] at ho
        have HO := Lib.hid ho
        clear ho hE hd2
        go_wp2_with fail
        go_ret
        exact ⟨ret_int (by rw [HO.out]; rfl), rfl⟩
      · have hE2 : ys.drop k = [] := List.drop_eq_nil_of_le (by have := HY.out; omega)
        rw [hE2] at ho
        have HO := Lib.hid ho
        clear ho hE hE2
        go_wp2_with fail
        go_ret
        exact ⟨ret_int (by rw [HO.out]; rfl), rfl⟩
theorem maxL_take {xs : List Int} {k : Nat} (h1 : 1 ≤ k) (h : k < xs.length) : maxL (xs.take (k + 1)) = max (maxL (xs.take k)) (nth xs k) := by
  cases xs with
  | nil => simp at h
  | cons x xs =>
    obtain ⟨j, rfl⟩ : ∃ j, k = j + 1 := ⟨k - 1, by omega⟩
    simp only [List.take_succ_cons, maxL]
    have hj : j < xs.length := by simpa using h
    rw [List.take_succ_eq_append_getElem hj, List.foldl_append]
    simp [nth, List.getD, hj]
set_option maxHeartbeats 800000 in
theorem maxV_any (a : Option Addr) (n ca : Nat) (xs : List Int) (w : World) (hx : IA w a n xs) (h0 : 0 < n) :
    Calls Try.prog 69 #[.slice a n ca] w fun e w' => e = .returned (.int .i64 (maxL xs)) ∧ w = w' := by
  have HX := Lib.hid hx.len
  have hnb := hx.cap
  obtain ⟨ba, oa, rfl, hc0⟩ := hx.at_k 0 h0
  have hn1 : ¬ ((n : Int) < 1) := by omega
  have hn2 : (0 : Int) < (n : Int) := by omega
  have hc1 : w.cell? ⟨ba, oa, none⟩ = some (.int .i64 (nth xs 0)) := hc0
  go_enter Try.func69, Try.ntmps69
  go_wp2_with fail
  go_loop [3, 4] (fun v i => ∃ k : Nat, 1 ≤ k ∧ k ≤ n ∧ i = .int .i64 k ∧ v = .int .i64 (maxL (xs.take k))) (fun _ i => n - (intOf i).toNat)
  case atStart =>
    refine ⟨1, Nat.le_refl _, h0, rfl, ?_⟩
    have hl := HX.out
    cases xs with
    | nil => simp at hl; omega
    | cons x xs => rfl
  case round =>
    clear hc0 hc1
    obtain ⟨k, h1, hk, rfl, rfl⟩ := hrel
    by_cases hlt : k < n
    · obtain ⟨b2, o2, e2, hck⟩ := hx.at_k k hlt
      simp only [Option.some.injEq, Addr.mk.injEq] at e2
      obtain ⟨rfl, rfl, _⟩ := e2
      have HM := Lib.hid (maxL_take h1 (xs := xs) (k := k) (by rw [HX.out]; exact hlt))
      go_wp2_with fail
      go_round
      case rel => exact ⟨k + 1, by omega, by omega, by go_num, by rw [HM.out]⟩
      case measure => simp [intOf]; omega
    · have HE : Hid (xs.take k = xs) := Lib.hid (List.take_of_length_le (by have := HX.out; omega))
      go_wp2_with fail
      go_ret
      exact ⟨ret_int (by rw [HE.out]), rfl⟩
end Go.Proofs.Ytginbjcpcgphgaa
end

/- ikey.Time, ikey.Order. By an AI agent. -/
section
namespace Go.Proofs.Ytginbjcpcgphgaa
open Go.RowKit
attribute [local go_sem] eOp eOper eUpon

/-- a version's eight cells -/
def verC (key : ByteArray) (a : Option Addr) (n ca : Nat) (o t : Int) (k : Int) (x : Nat) (m : Int) (s : ByteArray) : List Value :=
  [.string key, .slice a n ca, .int .i64 o, .int .i64 t, .int .i64 k, .float .f64 x, .int .i64 m, .string s]
theorem AC.ver {W : World} {g : Nat} {key : ByteArray} {a : Option Addr} {n ca : Nat} {o t : Int} {k : Int} {x : Nat} {m : Int} {s : ByteArray} (h : AC W g (verC key a n ca o t k x m s)) :
    W.cell? ⟨g, 0, none⟩ = some (.string key) ∧ W.cell? ⟨g, 1, none⟩ = some (.slice a n ca) ∧ W.cell? ⟨g, 2, none⟩ = some (.int .i64 o) ∧ W.cell? ⟨g, 3, none⟩ = some (.int .i64 t) ∧
    W.cell? ⟨g, 4, none⟩ = some (.int .i64 k) ∧ W.cell? ⟨g, 5, none⟩ = some (.float .f64 x) ∧ W.cell? ⟨g, 6, none⟩ = some (.int .i64 m) ∧ W.cell? ⟨g, 7, none⟩ = some (.string s) :=
  ⟨h.cell 0 _ rfl, h.cell 1 _ rfl, h.cell 2 _ rfl, h.cell 3 _ rfl, h.cell 4 _ rfl, h.cell 5 _ rfl, h.cell 6 _ rfl, h.cell 7 _ rfl⟩

set_option maxHeartbeats 1600000 in
set_option maxRecDepth 100000 in
theorem time_any (key : ByteArray) (a : Option Addr) (n ca : Nat) (xs : List Int) (o t : Int) (k : Int) (x : Nat) (m : Int) (s : ByteArray) (T : Int) (w : World) (hx : IA w a n xs)
    (HT : Hid (timeL ⟨key, xs, o, t, ⟨k, x, m, s⟩⟩ = T)) :
    Calls Try.prog 64 #[.agg #[.string key, .slice a n ca, .int .i64 o, .int .i64 t, .int .i64 k, .float .f64 x, .int .i64 m, .string s]] w fun e w' => e = .returned (.int .i64 T) ∧ Bl w w' := by
  have HX := Lib.hid hx.len
  have hbl := (Bl.refl w).alloc (.cells #[.string key, .slice a n ca, .int .i64 o, .int .i64 t, .int .i64 k, .float .f64 x, .int .i64 m, .string s] 35)
  have hE : (if o = 254 ∧ 0 < n then maxL xs else if 0 ≤ o ∧ o < (n : Int) then nth xs o.toNat else 0) = T := by
    have := HT.out
    unfold timeL at this
    simp only [HX.out] at this
    exact this
  by_cases h1 : o = 254 ∧ 0 < n
  · rw [if_pos h1] at hE
    subst hE
    obtain ⟨rfl, h0⟩ := h1
    have h0' : (0 : Int) < (n : Int) := by omega
    clear HT
    go_enter Try.func64, Try.ntmps64
    go_wp2_with fail
    refine (maxV_any a n ca xs _ (hx.keep hbl) h0).mono ?_
    rintro e w' ⟨rfl, rfl⟩
    go_wp2_with fail
    go_ret
    exact ⟨rfl, hbl⟩
  · rw [if_neg h1] at hE
    by_cases h2 : 0 ≤ o ∧ o < (n : Int)
    · rw [if_pos h2] at hE
      subst hE
      obtain ⟨j, rfl⟩ : ∃ j : Nat, o = j := ⟨o.toNat, by omega⟩
      have hj : j < n := by omega
      obtain ⟨ba, oa, rfl, hcj⟩ := (hx.keep hbl).at_k j hj
      have q : ((j : Int) == 254) = false := by
        rw [beq_eq_false_iff_ne]
        intro h
        exact h1 ⟨h, by omega⟩
      have h3 : (j : Int) < (n : Int) := by omega
      clear HT h1 h2
      go_enter Try.func64, Try.ntmps64
      go_wp2_with fail
      go_ret
      exact ⟨by rw [Int.toNat_natCast]; rfl, hbl⟩
    · rw [if_neg h2] at hE
      subst hE
      clear HT HX
      by_cases h3 : o = 254
      · subst h3
        obtain rfl : n = 0 := by omega
        go_enter Try.func64, Try.ntmps64
        go_wp2_with fail
        go_ret
        exact ⟨rfl, hbl⟩
      · have q : (o == 254) = false := by rw [beq_eq_false_iff_ne]; exact h3
        by_cases h4 : 0 ≤ o
        · have h5 : ¬ (o < (n : Int)) := fun h => h2 ⟨h4, h⟩
          clear h1 h2 h3
          go_enter Try.func64, Try.ntmps64
          go_wp2_with fail
          go_ret
          exact ⟨rfl, hbl⟩
        · clear h1 h2 h3
          go_enter Try.func64, Try.ntmps64
          go_wp2_with fail
          go_ret
          exact ⟨rfl, hbl⟩

/-- the two boxes of ikey.Order -/
structure O2 (w W : World) (c d : List Value) : Prop where
  bl : Bl w W
  a : AC W w.heap.size c
  b : AC W (w.heap.size + 1) d
theorem O2.keep {w W W' : World} {c d : List Value} (h : O2 w W c d) (k : Bl W W') : O2 w W' c d := ⟨h.bl.trans k, h.a.keep k, h.b.keep k⟩
theorem O2.new (w : World) (c d : List Value) (T U : TypeId) : O2 w ((w.alloc (.cells c.toArray T)).alloc (.cells d.toArray U)) c d :=
  ⟨((Bl.refl w).alloc _).alloc _, (AC.new w _ rfl c T).keep ((Bl.refl _).alloc _), AC.new (w.alloc (.cells c.toArray T)) (w.heap.size + 1) (by simp) d U⟩
theorem cmpI_any (x y r : Int) (w : World) (h : Hid (Lib.compareInt x y = r)) : Calls Try.prog 54 #[.int .i64 x, .int .i64 y] w fun e w' => e = .returned (.int .i64 r) ∧ Bl w w' := by
  refine (Try.cmp_Compare_int x y w).mono ?_
  rintro e w' ⟨rfl, rfl⟩
  rw [h.out]
  exact ⟨rfl, Bl.refl _⟩
set_option maxHeartbeats 3200000 in
set_option maxRecDepth 100000 in
theorem order_any (key : ByteArray) (a : Option Addr) (n ca : Nat) (xs : List Int) (o t : Int) (k : Int) (x : Nat) (m : Int) (s : ByteArray)
    (key2 : ByteArray) (a2 : Option Addr) (n2 ca2 : Nat) (ys : List Int) (o2 t2 : Int) (k2 : Int) (x2 : Nat) (m2 : Int) (s2 : ByteArray) (T1 T2 c1 c2 c3 c4 c5 R : Int) (w : World) (hx : IA w a n xs) (hy : IA w a2 n2 ys)
    (H1 : Hid (timeL ⟨key, xs, o, t, ⟨k, x, m, s⟩⟩ = T1)) (H2 : Hid (timeL ⟨key2, ys, o2, t2, ⟨k2, x2, m2, s2⟩⟩ = T2))
    (C1 : Hid (Lib.compareInt T2 T1 = c1)) (C2 : Hid (Lib.compareInt o2 o = c2)) (C3 : Hid (Lib.compareInt t2 t = c3)) (C4 : Hid (Lib.compareInt (n : Int) (n2 : Int) = c4)) (C5 : Hid (cmpV xs ys = c5)) (HR : Hid (orL [c1, c2, c3, c4, c5] = R)) :
    Calls Try.prog 50 #[.agg #[.string key, .slice a n ca, .int .i64 o, .int .i64 t, .int .i64 k, .float .f64 x, .int .i64 m, .string s], .agg #[.string key2, .slice a2 n2 ca2, .int .i64 o2, .int .i64 t2, .int .i64 k2, .float .f64 x2, .int .i64 m2, .string s2]] w fun e w' => e = .returned (.int .i64 R) ∧ Bl w w' := by
  have G := O2.new w (verC key a n ca o t k x m s) (verC key2 a2 n2 ca2 o2 t2 k2 x2 m2 s2) 35 35
  unfold verC at G
  go_enter Try.func50, Try.ntmps50
  go_wp2_with fail
  generalize (w.alloc (.cells #[.string key, .slice a n ca, .int .i64 o, .int .i64 t, .int .i64 k, .float .f64 x, .int .i64 m, .string s] 35)).alloc (.cells #[.string key2, .slice a2 n2 ca2, .int .i64 o2, .int .i64 t2, .int .i64 k2, .float .f64 x2, .int .i64 m2, .string s2] 35) = W0 at *
  refine wp_region_ext 27 3 (by kernel_rfl) rfl (by kernel_rfl) (by kernel_rfl) ?_
  have G := G.keep ((Bl.refl W0).drew)
  generalize W0.drew = W at *
  have a0 : ∀ n : Ext W, _ := fun n => (G.keep n.bl).a.cell 0 _ rfl
  have a1 : ∀ n : Ext W, _ := fun n => (G.keep n.bl).a.cell 1 _ rfl
  have a2' : ∀ n : Ext W, _ := fun n => (G.keep n.bl).a.cell 2 _ rfl
  have a3 : ∀ n : Ext W, _ := fun n => (G.keep n.bl).a.cell 3 _ rfl
  have a4 : ∀ n : Ext W, _ := fun n => (G.keep n.bl).a.cell 4 _ rfl
  have a5 : ∀ n : Ext W, _ := fun n => (G.keep n.bl).a.cell 5 _ rfl
  have a6 : ∀ n : Ext W, _ := fun n => (G.keep n.bl).a.cell 6 _ rfl
  have a7 : ∀ n : Ext W, _ := fun n => (G.keep n.bl).a.cell 7 _ rfl
  have b0 : ∀ n : Ext W, _ := fun n => (G.keep n.bl).b.cell 0 _ rfl
  have b1 : ∀ n : Ext W, _ := fun n => (G.keep n.bl).b.cell 1 _ rfl
  have b2 : ∀ n : Ext W, _ := fun n => (G.keep n.bl).b.cell 2 _ rfl
  have b3 : ∀ n : Ext W, _ := fun n => (G.keep n.bl).b.cell 3 _ rfl
  have b4 : ∀ n : Ext W, _ := fun n => (G.keep n.bl).b.cell 4 _ rfl
  have b5 : ∀ n : Ext W, _ := fun n => (G.keep n.bl).b.cell 5 _ rfl
  have b6 : ∀ n : Ext W, _ := fun n => (G.keep n.bl).b.cell 6 _ rfl
  have b7 : ∀ n : Ext W, _ := fun n => (G.keep n.bl).b.cell 7 _ rfl
  have hX : ∀ n' : Ext W, IA n'.at a n xs := fun n' => hx.keep (G.bl.trans n'.bl)
  have hY : ∀ n' : Ext W, IA n'.at a2 n2 ys := fun n' => hy.keep (G.bl.trans n'.bl)
  have HXY := Lib.hid (And.intro hX hY)
  clear hX hY
  have hcv : ∀ n' : Ext W, Calls Try.prog 55 #[.slice a n ca, .slice a2 n2 ca2] n'.at fun e w' => e = .returned (.int .i64 c5) ∧ Bl n'.at w' := fun n' => by
    refine (cmpV_any a a2 n n2 ca ca2 xs ys _ (HXY.out.1 n') (HXY.out.2 n')).mono ?_
    rintro e w' ⟨rfl, rfl⟩
    rw [C5.out]
    exact ⟨rfl, Bl.refl _⟩
  have HCV := Lib.hid hcv
  clear hcv
  simp only [List.take_succ_cons, List.take_zero]
  repeat (refine wpE_step (fun K hK => ?_); go_simp; first | (refine hK _ ?_; clear hK K) | (apply Exists.intro; refine ⟨fun n => ?_, hK _ ?_⟩; (first | exact time_any _ _ _ _ _ _ _ _ _ _ _ _ _ (HXY.out.1 n) H1 | exact time_any _ _ _ _ _ _ _ _ _ _ _ _ _ (HXY.out.2 n) H2 | exact cmpI_any _ _ _ _ C1 | exact cmpI_any _ _ _ _ C2 | exact cmpI_any _ _ _ _ C3 | exact cmpI_any _ _ _ _ C4 | exact HCV.out n); clear hK K))
  refine wpE_nil ?_
  clear a0 a1 a2' a3 a4 a5 a6 a7 b0 b1 b2 b3 b4 b5 b6 b7
  refine wpAnyE_one (i := 27) (by kernel_rfl) ?_
  intro W1 hb1
  go_simp
  have cg := AC.new W1 W1.heap.size rfl [.int .i64 c1, .int .i64 c2, .int .i64 c3, .int .i64 c4, .int .i64 c5] 3
  replace hb1 := hb1.alloc (.cells #[.int .i64 c1, .int .i64 c2, .int .i64 c3, .int .i64 c4, .int .i64 c5] 3)
  refine ⟨hb1, ?_⟩
  generalize W1.alloc (.cells #[.int .i64 c1, .int .i64 c2, .int .i64 c3, .int .i64 c4, .int .i64 c5] 3) = W2 at *
  generalize W1.heap.size = g at *
  refine wpAnyE_one (i := 28) (by kernel_rfl) ?_
  intro W3 hb3
  replace cg := cg.keep hb3
  replace hb1 := hb1.trans hb3
  go_simp
  refine (or_any g 5 [c1, c2, c3, c4, c5] _ rfl (by decide) ?_).mono ?_
  · intro j hj
    match j, hj with
    | 0, _ => exact cg.cell 0 _ rfl
    | 1, _ => exact cg.cell 1 _ rfl
    | 2, _ => exact cg.cell 2 _ rfl
    | 3, _ => exact cg.cell 3 _ rfl
    | 4, _ => exact cg.cell 4 _ rfl
  rintro e w' ⟨rfl, rfl⟩
  rw [HR.out]
  refine ⟨_, rfl, hb1, ?_⟩
  refine wpAnyE_one (i := 29) (by kernel_rfl) ?_
  intro W4 hb4
  replace hb1 := hb1.trans hb4
  go_simp
  refine ⟨by kernel_rfl, ?_⟩
  intro W5 hb5
  have hbn := G.bl.trans (hb1.trans hb5)
  go_wp2_with fail
  go_ret
  exact ⟨rfl, hbn⟩
end Go.Proofs.Ytginbjcpcgphgaa
end
