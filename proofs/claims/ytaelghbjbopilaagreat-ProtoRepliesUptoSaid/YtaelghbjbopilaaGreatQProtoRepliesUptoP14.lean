import Derived.Test.YtaelghbjbopilaaGreatQProtoRepliesUptoP6
import Derived.Test.YtaelghbjbopilaaGreatQProtoRepliesUptoP13
import Derived.Test.YtaelghbjbopilaaGreatQProtoRepliesUptoP12
import Derived.Deep.DeepCutAuto

/- op.Same. By an AI agent. -/
section
namespace Go.Proofs.YtaelghbjbopilaaGreat
open Go.RowKit

/-- two boxes -/
structure A2 (w W : World) (b : Int) (x : Nat) (n : Int) (s : ByteArray) (c : Int) (y : Nat) (m : Int) (t : ByteArray) : Prop where
  bl : Bl w W
  a : AC W w.heap.size [.int .i64 b, .float .f64 x, .int .i64 n, .string s]
  b : AC W (w.heap.size + 1) [.int .i64 c, .float .f64 y, .int .i64 m, .string t]
theorem A2.new (w : World) (b : Int) (x : Nat) (n : Int) (s : ByteArray) (c : Int) (y : Nat) (m : Int) (t : ByteArray) (T U : TypeId) {W : World}
    (hb : Bl ((w.alloc (.cells #[.int .i64 b, .float .f64 x, .int .i64 n, .string s] T)).alloc (.cells #[.int .i64 c, .float .f64 y, .int .i64 m, .string t] U)) W) : A2 w W b x n s c y m t := by
  have h1 := (AC.new w _ rfl [.int .i64 b, .float .f64 x, .int .i64 n, .string s] T).keep ((Bl.refl _).alloc (.cells #[.int .i64 c, .float .f64 y, .int .i64 m, .string t] U))
  have h2 := AC.new (w.alloc (.cells #[.int .i64 b, .float .f64 x, .int .i64 n, .string s] T)) (w.heap.size + 1) (by simp) [.int .i64 c, .float .f64 y, .int .i64 m, .string t] U
  exact ⟨(((Bl.refl w).alloc _).alloc _).trans hb, h1.keep hb, h2.keep hb⟩

set_option maxHeartbeats 1600000 in
set_option maxRecDepth 100000 in
theorem sameA_any (a d : ActL) (w : World) (oa : a.Ok) (ob : d.Ok) :
    Calls Tryz.prog 164 #[.agg #[.int .i64 a.k, .float .f64 a.x, .int .i64 a.n, .string a.s], .agg #[.int .i64 d.k, .float .f64 d.x, .int .i64 d.n, .string d.s]] w fun e w' => e = .returned (.bool (sameA a d)) ∧ Bl w w' := by
  obtain ⟨b, x, n, s⟩ := a
  obtain ⟨c, y, m, t⟩ := d
  obtain ⟨_, hx, _, _⟩ := oa
  obtain ⟨_, hy, _, _⟩ := ob
  simp only at hx hy ⊢
  by_cases hk : b = c
  · subst hk
    go_enter Tryz.func164, Tryz.ntmps164
    go_wp2_with fail
    refine (rsameF_any x y _ hx hy).mono ?_
    rintro e w1 ⟨rfl, hb1⟩
    have G := A2.new w _ x n s _ y m t _ _ hb1
    clear hb1
    obtain ⟨a0, a1, a2, a3⟩ := G.a.act
    obtain ⟨b0, b1, b2, b3⟩ := G.b.act
    by_cases hf : fkey x = fkey y
    · have HF := Lib.hid hf
      rw [decide_eq_true hf]
      clear hf
      go_wp2_with fail
      all_goals (go_ret; refine ⟨ret_bool ?_, G.bl⟩)
      all_goals (have h1 := HF.out; simp_all [sameA])
    · have HF := Lib.hid hf
      rw [decide_eq_false hf]
      clear hf
      go_wp2_with fail
      all_goals (go_ret; refine ⟨ret_bool ?_, G.bl⟩)
      all_goals (have h1 := HF.out; simp [sameA, h1])
  · have q : (b == c) = false := by simpa using hk
    have HK := Lib.hid hk
    clear hk
    go_enter Tryz.func164, Tryz.ntmps164
    go_wp2_with fail
    go_ret
    exact ⟨ret_bool (by have := HK.out; simp [sameA, this]), ((Bl.refl w).alloc _).alloc _⟩
theorem sameA_agg (l : Int) (y : Nat) (m : Int) (t : ByteArray) (k : Int) (x : Nat) (n : Int) (s : ByteArray) (r : Bool) (w : World)
    (h : Hid (sameA ⟨l, y, m, t⟩ ⟨k, x, n, s⟩ = r)) (ob : Hid (ActL.Ok ⟨l, y, m, t⟩)) (oa : Hid (ActL.Ok ⟨k, x, n, s⟩)) :
    Calls Tryz.prog 164 #[.agg #[.int .i64 l, .float .f64 y, .int .i64 m, .string t], .agg #[.int .i64 k, .float .f64 x, .int .i64 n, .string s]] w fun e w' => e = .returned (.bool r) ∧ Bl w w' := by
  refine (sameA_any ⟨l, y, m, t⟩ ⟨k, x, n, s⟩ w ob.out oa.out).mono ?_
  rintro e w' ⟨rfl, hb⟩
  rw [h.out]
  exact ⟨rfl, hb⟩
end Go.Proofs.YtaelghbjbopilaaGreat
end

/- proto.Valid. By an AI agent. -/
section
set_option linter.unusedVariables false
set_option linter.unusedSimpArgs false
namespace Go.Proofs.YtaelghbjbopilaaGreat
open Go.RowKit

theorem opPut_hid (k : Int) (x : Nat) (n : Int) (s b : ByteArray) (c : Int) (w : World) (oa : Hid (ActL.Ok ⟨k, x, n, s⟩)) (h : Hid (b = strL (putS ⟨k, x, n, s⟩) ∧ putC ⟨k, x, n, s⟩ = c)) :
    Calls Tryz.prog 111 #[.agg #[.int .i64 k, .float .f64 x, .int .i64 n, .string s]] w fun e w' => e = .returned (.tuple #[.string b, .int .i64 c]) ∧ Bl w w' := by
  obtain ⟨rfl, rfl⟩ := h.out
  exact opPut_any ⟨k, x, n, s⟩ w oa.out
/-- the box of a request -/
def askCs (k s t i m : Int) (ad : Option Addr) (n ca : Nat) (key text : ByteArray) (ak : Int) (ax : Nat) (an : Int) (az : ByteArray) : List Value :=
  [.int .i64 k, .int .i64 s, .int .i64 t, .int .i64 i, .int .i64 m, .slice ad n ca, .string key, .string text, .int .i64 ak, .float .f64 ax, .int .i64 an, .string az]
theorem AC.ask {w : World} {g : Nat} {k s t i m : Int} {ad : Option Addr} {n ca : Nat} {key text : ByteArray} {ak : Int} {ax : Nat} {an : Int} {az : ByteArray} (h : AC w g (askCs k s t i m ad n ca key text ak ax an az)) :
    w.cell? ⟨g, 0, none⟩ = some (.int .i64 k) ∧ w.cell? ⟨g, 1, none⟩ = some (.int .i64 s) ∧ w.cell? ⟨g, 2, none⟩ = some (.int .i64 t) ∧ w.cell? ⟨g, 3, none⟩ = some (.int .i64 i) ∧ w.cell? ⟨g, 4, none⟩ = some (.int .i64 m) ∧
    w.cell? ⟨g, 5, none⟩ = some (.slice ad n ca) ∧ w.cell? ⟨g, 6, none⟩ = some (.string key) ∧ w.cell? ⟨g, 7, none⟩ = some (.string text) ∧
    w.cell? ⟨g, 8, none⟩ = some (.int .i64 ak) ∧ w.cell? ⟨g, 9, none⟩ = some (.float .f64 ax) ∧ w.cell? ⟨g, 10, none⟩ = some (.int .i64 an) ∧ w.cell? ⟨g, 11, none⟩ = some (.string az) :=
  ⟨h.cell 0 _ rfl, h.cell 1 _ rfl, h.cell 2 _ rfl, h.cell 3 _ rfl, h.cell 4 _ rfl, h.cell 5 _ rfl, h.cell 6 _ rfl, h.cell 7 _ rfl, h.cell 8 _ rfl, h.cell 9 _ rfl, h.cell 10 _ rfl, h.cell 11 _ rfl⟩
def uCs (b0 b1 b2 b3 b4 b5 b6 b7 : Bool) : List Value := [.bool b0, .bool b1, .bool b2, .bool b3, .bool b4, .bool b5, .bool b6, .bool b7]
theorem AC.use {w : World} {g : Nat} {b0 b1 b2 b3 b4 b5 b6 b7 : Bool} (h : AC w g (uCs b0 b1 b2 b3 b4 b5 b6 b7)) :
    w.cell? ⟨g, 0, none⟩ = some (.bool b0) ∧ w.cell? ⟨g, 1, none⟩ = some (.bool b1) ∧ w.cell? ⟨g, 2, none⟩ = some (.bool b2) ∧ w.cell? ⟨g, 3, none⟩ = some (.bool b3) ∧ w.cell? ⟨g, 4, none⟩ = some (.bool b4) ∧
    w.cell? ⟨g, 5, none⟩ = some (.bool b5) ∧ w.cell? ⟨g, 6, none⟩ = some (.bool b6) ∧ w.cell? ⟨g, 7, none⟩ = some (.bool b7) :=
  ⟨h.cell 0 _ rfl, h.cell 1 _ rfl, h.cell 2 _ rfl, h.cell 3 _ rfl, h.cell 4 _ rfl, h.cell 5 _ rfl, h.cell 6 _ rfl, h.cell 7 _ rfl⟩
/-- Valid's two boxes -/
structure VB (w W : World) (g : Nat) (cs us : List Value) : Prop where
  bl : Bl w W
  a : AC W w.heap.size cs
  u : AC W g us
theorem VB.keep {w W W' : World} {g : Nat} {cs us : List Value} (h : VB w W g cs us) (k : Bl W W') : VB w W' g cs us := ⟨h.bl.trans k, h.a.keep k, h.u.keep k⟩

set_option maxHeartbeats 1600000 in
set_option maxRecDepth 100000 in
theorem pvalid_out (k s t i m : Int) (ad : Option Addr) (n ca : Nat) (key text : ByteArray) (ak : Int) (ax : Nat) (an : Int) (az : ByteArray) (w : World) (hk : k < 0 ∨ 16 ≤ k) :
    Calls Tryz.prog 110 #[.agg (askCs k s t i m ad n ca key text ak ax an az).toArray] w fun e w' => e = .returned (.bool false) ∧ Bl w w' := by
  have H := Lib.hid (fun w => of_no k w hk)
  unfold askCs
  go_enter Tryz.func110, Tryz.ntmps110
  go_wp2_with fail
  refine (H.out _).mono ?_
  rintro e w1 ⟨rfl, hb⟩
  go_wp2_with fail
  go_ret
  exact ⟨rfl, (((Bl.refl w).alloc _).trans hb).alloc _⟩
/-- region 2's test -/
def frontN (b1 : Bool) (n : Nat) (key text : ByteArray) (v : Bool) : Bool := !(decide (key.size ≤ 64) && (decide (text.size ≤ 32768) && (decide (n = 0) || (b1 && v))))
/-- region 5's test -/
def secondN (b3 b4 b5 : Bool) (key text : ByteArray) (c : Int) (z : Bool) : Bool := !((if b4 then decide (c = 0) else z) && ((b3 || decide (key.size = 0)) && (b5 || decide (text.size = 0))))

theorem empty_of0 {s : ByteArray} (h : s.size = 0) : s.toList.isEmpty = true := by
  rw [ByteArray.toList_eq]
  have : s.data.toList = [] := List.eq_nil_of_length_eq_zero (by simpa using h)
  rw [this]; rfl
theorem filled_of0 {s : ByteArray} (h : ¬ s.size = 0) : s.toList.isEmpty = false := by
  rw [ByteArray.toList_eq]
  cases hd : s.data.toList with
  | nil => exact absurd (by have := congrArg List.length hd; simpa using this) h
  | cons a l => rfl
theorem zero_okA : ActL.Ok ⟨0, 0, 0, ⟨#[]⟩⟩ := ⟨by decide, by decide, by decide, by decide⟩
/-- the four numbers' tests -/
def okN (s t i m : Int) (b0 b2 b7 b6 : Bool) : Nat → Bool
  | 0 => rangeB s b0
  | 1 => rangeB t b2
  | 2 => rangeB i b7
  | _ => rangeB m b6
theorem AC.nums {W : World} {g : Nat} {s t i m : Int} {b0 b2 b7 b6 : Bool} (h : AC W g [.int .i64 s, .bool b0, .int .i64 t, .bool b2, .int .i64 i, .bool b7, .int .i64 m, .bool b6]) (j : Nat) (hj : j < 4) :
    ∃ x u, W.cell? ⟨g, j * 2, none⟩ = some (.int .i64 x) ∧ W.cell? ⟨g, j * 2 + 1, none⟩ = some (.bool u) ∧ okN s t i m b0 b2 b7 b6 j = rangeB x u := by
  have hk : j = 0 ∨ j = 1 ∨ j = 2 ∨ j = 3 := by omega
  rcases hk with rfl | rfl | rfl | rfl
  · exact ⟨_, _, h.cell 0 _ rfl, h.cell 1 _ rfl, rfl⟩
  · exact ⟨_, _, h.cell 2 _ rfl, h.cell 3 _ rfl, rfl⟩
  · exact ⟨_, _, h.cell 4 _ rfl, h.cell 5 _ rfl, rfl⟩
  · exact ⟨_, _, h.cell 6 _ rfl, h.cell 7 _ rfl, rfl⟩
theorem nums_fail {s t i m : Int} {b0 b2 b7 b6 : Bool} {j : Nat} (hj : j < 4) (h : okN s t i m b0 b2 b7 b6 j = false) : (rangeB s b0 && (rangeB t b2 && (rangeB i b7 && rangeB m b6))) = false := by
  have hk : j = 0 ∨ j = 1 ∨ j = 2 ∨ j = 3 := by omega
  rcases hk with rfl | rfl | rfl | rfl <;> (simp only [okN] at h; simp [h])
theorem nums_pass {s t i m : Int} {b0 b2 b7 b6 : Bool} (h : ∀ j, j < 4 → okN s t i m b0 b2 b7 b6 j = true) : (rangeB s b0 && (rangeB t b2 && (rangeB i b7 && rangeB m b6))) = true := by
  have h0 : rangeB s b0 = true := h 0 (by decide)
  have h1 : rangeB t b2 = true := h 1 (by decide)
  have h2 : rangeB i b7 = true := h 2 (by decide)
  have h3 : rangeB m b6 = true := h 3 (by decide)
  rw [h0, h1, h2, h3]; rfl

set_option maxHeartbeats 3200000 in
set_option maxRecDepth 100000 in
theorem pvalid_in (k : Nat) (s t i m : Int) (ad : Option Addr) (n ca : Nat) (xs : List Int) (key text : ByteArray) (ak : Int) (ax : Nat) (an : Int) (az : ByteArray) (w : World) (hk : k < 16)
    (hx : IA w ad n xs) (hkey : key.size ≤ 140737488351232) (htext : text.size ≤ 140737488351232) (oa : Hid (ActL.Ok ⟨ak, ax, an, az⟩)) (b0 b1 b2 b3 b4 b5 b6 b7 : Bool) (HU : Hid (usesV k = uCs b0 b1 b2 b3 b4 b5 b6 b7))
    (v : Bool) (HV : Hid (validL xs = v)) (b : ByteArray) (c : Int) (HP : Hid (b = strL (putS ⟨ak, ax, an, az⟩) ∧ putC ⟨ak, ax, an, az⟩ = c)) (z : Bool) (HZ : Hid (sameA ⟨ak, ax, an, az⟩ zeroAct = z)) :
    Calls Tryz.prog 110 #[.agg (askCs k s t i m ad n ca key text ak ax an az).toArray] w fun e w' =>
      e = .returned (.bool (!frontN b1 n key text v && (!secondN b3 b4 b5 key text c z && (rangeB s b0 && (rangeB t b2 && (rangeB i b7 && rangeB m b6)))))) ∧ Bl w w' := by
  have H := Lib.hid (fun w => of_yes k w hk)
  rw [HU.out] at H
  have HX := Lib.hid hx
  clear hx
  unfold askCs
  go_enter Tryz.func110, Tryz.ntmps110
  go_wp2_with fail
  refine (H.out _).mono ?_
  rintro e w1 ⟨rfl, hb⟩
  have G : VB w (w1.alloc (.cells #[.bool b0, .bool b1, .bool b2, .bool b3, .bool b4, .bool b5, .bool b6, .bool b7] 217)) w1.heap.size (askCs k s t i m ad n ca key text ak ax an az) (uCs b0 b1 b2 b3 b4 b5 b6 b7) :=
    ⟨(((Bl.refl w).alloc _).trans hb).alloc _, ((AC.new w _ rfl (askCs k s t i m ad n ca key text ak ax an az) _).keep hb).keep ((Bl.refl _).alloc _), AC.new w1 _ rfl (uCs b0 b1 b2 b3 b4 b5 b6 b7) _⟩
  unfold uCs
  clear hb HU H
  go_upto_region 2 with fail
  have hX := HX.out.keep G.bl
  have HX2 := Lib.hid hX
  clear hX
  generalize w1.heap.size = g at *
  generalize w1.alloc _ = W at *
  obtain ⟨c0, c1, c2, c3, c4, c5, c6, c7, c8, c9, c10, c11⟩ := G.a.ask
  obtain ⟨d0, d1, d2, d3, d4, d5, d6, d7⟩ := G.u.use
  have GH := Lib.hid G
  clear G
  go_cut [45] (fun s45 X => s45 = .bool (frontN b1 n key text v) ∧ W = X)
  case first =>
    by_cases h1 : key.size ≤ 64
    · by_cases h2 : text.size ≤ 32768
      · by_cases h3 : n = 0
        · subst h3
          go_wp2_with fail
          go_meet
          case rel => exact ⟨congrArg Value.bool (by simp [frontN, h1, h2] <;> omega), rfl⟩
        · cases b1
          · go_wp2_with fail
            go_meet
            case rel => exact ⟨congrArg Value.bool (by simp [frontN, h1, h2, h3] <;> omega), rfl⟩
          · go_wp2_with fail
            refine (valid_any ad n ca xs _ HX2.out).mono ?_
            rintro e X ⟨rfl, rfl⟩
            rw [HV.out]
            go_wp2_with fail
            go_meet
            case rel => exact ⟨congrArg Value.bool (by simp [frontN, h1, h2, h3] <;> omega), rfl⟩
      · go_wp2_with fail
        go_meet
        case rel => exact ⟨congrArg Value.bool (by simp [frontN, h1, h2] <;> omega), rfl⟩
    · go_wp2_with fail
      go_meet
      case rel => exact ⟨congrArg Value.bool (by simp [frontN, h1] <;> omega), rfl⟩
  case rest =>
    obtain ⟨rfl, rfl⟩ := hcut
    generalize hf : frontN b1 n key text v = f1 at *
    cases f1
    · go_wp2_with fail
      refine (opPut_hid ak ax an az b c _ oa HP).mono ?_
      rintro e W2 ⟨rfl, hb2⟩
      have G := GH.out.keep hb2
      clear hb2 c0 c1 c2 c3 c4 c5 c6 c7 c8 c9 c10 c11 d0 d1 d2 d3 d4 d5 d6 d7 GH HX2
      obtain ⟨c0, c1, c2, c3, c4, c5, c6, c7, c8, c9, c10, c11⟩ := G.a.ask
      obtain ⟨d0, d1, d2, d3, d4, d5, d6, d7⟩ := G.u.use
      have GH := Lib.hid G
      clear G
      go_upto_region 5 with fail
      go_cut [89] (fun s89 X => s89 = .bool (secondN b3 b4 b5 key text c z) ∧ Bl W2 X)
      case first =>
        cases b4
        · go_wp2_with fail
          refine (sameA_agg ak ax an az 0 0 0 ⟨#[]⟩ z _ HZ oa (Lib.hid zero_okA)).mono ?_
          rintro e W3 ⟨rfl, hbr⟩
          replace GH := Lib.hid (GH.out.keep hbr)
          have HBR := Lib.hid hbr
          clear c0 c1 c2 c3 c4 c5 c6 c7 c8 c9 c10 c11 d0 d1 d2 d3 d4 d5 d6 d7
          obtain ⟨c0, c1, c2, c3, c4, c5, c6, c7, c8, c9, c10, c11⟩ := GH.out.a.ask
          obtain ⟨d0, d1, d2, d3, d4, d5, d6, d7⟩ := GH.out.u.use
          cases z
          · go_wp2_with fail
            go_meet
            case rel => exact ⟨congrArg Value.bool (by simp [secondN]), hbr⟩
          · cases b3
            · by_cases hkz : key.size = 0
              · have qk := empty_of0 hkz
                cases b5
                · by_cases ht : text.size = 0
                  · have qt := empty_of0 ht
                    go_wp2_with fail
                    go_meet
                    case rel => exact ⟨congrArg Value.bool (by simp [secondN, hkz, ht]), hbr⟩
                  · have qt := filled_of0 ht
                    go_wp2_with fail
                    go_meet
                    case rel => exact ⟨congrArg Value.bool (by simp [secondN, hkz, ht]), hbr⟩
                · go_wp2_with fail
                  go_meet
                  case rel => exact ⟨congrArg Value.bool (by simp [secondN, hkz]), hbr⟩
              · have qk := filled_of0 hkz
                go_wp2_with fail
                go_meet
                case rel => exact ⟨congrArg Value.bool (by simp [secondN, hkz]), hbr⟩
            · cases b5
              · by_cases ht : text.size = 0
                · have qt := empty_of0 ht
                  go_wp2_with fail
                  go_meet
                  case rel => exact ⟨congrArg Value.bool (by simp [secondN, ht]), hbr⟩
                · have qt := filled_of0 ht
                  go_wp2_with fail
                  go_meet
                  case rel => exact ⟨congrArg Value.bool (by simp [secondN, ht]), hbr⟩
              · go_wp2_with fail
                go_meet
                case rel => exact ⟨congrArg Value.bool (by simp [secondN]), hbr⟩
        · have hbr := Bl.refl W2
          by_cases hc : c = 0
          · have qc : ((c : Int) != 0) = false := by simp [hc]
            cases b3
            · by_cases hkz : key.size = 0
              · have qk := empty_of0 hkz
                cases b5
                · by_cases ht : text.size = 0
                  · have qt := empty_of0 ht
                    go_wp2_with fail
                    go_meet
                    case rel => exact ⟨congrArg Value.bool (by simp [secondN, hc, hkz, ht]), hbr⟩
                  · have qt := filled_of0 ht
                    go_wp2_with fail
                    go_meet
                    case rel => exact ⟨congrArg Value.bool (by simp [secondN, hc, hkz, ht]), hbr⟩
                · go_wp2_with fail
                  go_meet
                  case rel => exact ⟨congrArg Value.bool (by simp [secondN, hc, hkz]), hbr⟩
              · have qk := filled_of0 hkz
                go_wp2_with fail
                go_meet
                case rel => exact ⟨congrArg Value.bool (by simp [secondN, hc, hkz]), hbr⟩
            · cases b5
              · by_cases ht : text.size = 0
                · have qt := empty_of0 ht
                  go_wp2_with fail
                  go_meet
                  case rel => exact ⟨congrArg Value.bool (by simp [secondN, hc, ht]), hbr⟩
                · have qt := filled_of0 ht
                  go_wp2_with fail
                  go_meet
                  case rel => exact ⟨congrArg Value.bool (by simp [secondN, hc, ht]), hbr⟩
              · go_wp2_with fail
                go_meet
                case rel => exact ⟨congrArg Value.bool (by simp [secondN, hc]), hbr⟩
          · have qc : ((c : Int) != 0) = true := by simp [hc]
            go_wp2_with fail
            go_meet
            case rel => exact ⟨congrArg Value.bool (by simp [secondN, hc]), hbr⟩
      case rest =>
        obtain ⟨rfl, hb2⟩ := hcut
        have G := GH.out.keep hb2
        generalize hf2 : secondN b3 b4 b5 key text c z = f2 at *
        cases f2
        · obtain ⟨c0, c1, c2, c3, c4, c5, c6, c7, c8, c9, c10, c11⟩ := G.a.ask
          obtain ⟨d0, d1, d2, d3, d4, d5, d6, d7⟩ := G.u.use
          have HB := Lib.hid G.bl
          clear G hb2 GH
          have HF1 := Lib.hid hf
          have HF2 := Lib.hid hf2
          clear hf hf2
          go_wp2_with fail
          have hn := AC.new wc wc.heap.size rfl [.int .i64 s, .bool b0, .int .i64 t, .bool b2, .int .i64 i, .bool b7, .int .i64 m, .bool b6] 221
          have hbn := HB.out.alloc (.cells #[.int .i64 s, .bool b0, .int .i64 t, .bool b2, .int .i64 i, .bool b7, .int .i64 m, .bool b6] 221)
          clear c0 c1 c2 c3 c4 c5 c6 c7 c8 c9 c10 c11 d0 d1 d2 d3 d4 d5 d6 d7 HB
          go_loopw [112] (fun j wr => ∃ q : Nat, q ≤ 4 ∧ j = .int .i64 q ∧ Bl w wr ∧ AC wr wc.heap.size [.int .i64 s, .bool b0, .int .i64 t, .bool b2, .int .i64 i, .bool b7, .int .i64 m, .bool b6] ∧ Hid (∀ p, p < q → okN s t i m b0 b2 b7 b6 p = true)) (fun j _ => 4 - (intOf j).toNat)
          case atStart => exact ⟨0, by decide, rfl, hbn, hn, Lib.hid (fun p hp => by omega)⟩
          case round =>
            clear hbn hn
            obtain ⟨q, hq, rfl, hbr, hcr, hall⟩ := hrel
            by_cases hlt : q < 4
            · obtain ⟨x, u, c0, c1, hok⟩ := AC.nums hcr q hlt
              have HOK := Lib.hid hok
              have HBR := Lib.hid hbr
              have HCR := Lib.hid hcr
              clear hok hbr hcr
              by_cases hx0 : x < 0
              · have hb : rangeB x u = false := by simp [rangeB]; omega
                have HBF := Lib.hid (nums_fail hlt (HOK.out.trans hb))
                clear hb
                go_wp2_with fail
                go_ret
                exact ⟨ret_bool (by rw [HF1.out, HF2.out, HBF.out]; rfl), HBR.out.alloc _⟩
              · by_cases hx1 : 281474976710655 < x
                · have hb : rangeB x u = false := by simp [rangeB]; omega
                  have HBF := Lib.hid (nums_fail hlt (HOK.out.trans hb))
                  clear hb
                  go_wp2_with fail
                  go_ret
                  exact ⟨ret_bool (by rw [HF1.out, HF2.out, HBF.out]; rfl), HBR.out.alloc _⟩
                · cases u
                  · by_cases hxz : x = 0
                    · have hb : rangeB x false = true := by simp [rangeB]; omega
                      have HBF := Lib.hid (HOK.out.trans hb)
                      have qx : ((x : Int) != 0) = false := by simp [hxz]
                      clear hb hxz
                      go_wp2_with fail
                      go_roundw
                      case rel => exact ⟨q + 1, by omega, by go_num, HBR.out.alloc _, HCR.out.keep ((Bl.refl _).alloc _), Lib.hid (fun p hp => by by_cases e : p = q; (subst e; exact HBF.out); exact hall.out p (by omega))⟩
                      case measure => simp [intOf]; omega
                    · have hb : rangeB x false = false := by simp [rangeB]; omega
                      have HBF := Lib.hid (nums_fail hlt (HOK.out.trans hb))
                      have qx : ((x : Int) != 0) = true := by simp [hxz]
                      clear hb hxz
                      go_wp2_with fail
                      go_ret
                      exact ⟨ret_bool (by rw [HF1.out, HF2.out, HBF.out]; rfl), HBR.out.alloc _⟩
                  · have hb : rangeB x true = true := by simp [rangeB]; omega
                    have HBF := Lib.hid (HOK.out.trans hb)
                    clear hb
                    go_wp2_with fail
                    go_roundw
                    case rel => exact ⟨q + 1, by omega, by go_num, HBR.out.alloc _, HCR.out.keep ((Bl.refl _).alloc _), Lib.hid (fun p hp => by by_cases e : p = q; (subst e; exact HBF.out); exact hall.out p (by omega))⟩
                    case measure => simp [intOf]; omega
            · have e4 : q = 4 := by omega
              subst e4
              have HA := Lib.hid (nums_pass hall.out)
              clear hall
              go_wp2_with fail
              go_ret
              exact ⟨ret_bool (by rw [HF1.out, HF2.out, HA.out]; rfl), hbr⟩
        · go_wp2_with fail
          go_ret
          exact ⟨ret_bool (by rw [hf2]; simp), G.bl⟩
    · go_wp2_with fail
      go_ret
      exact ⟨ret_bool (by rw [hf]; rfl), GH.out.bl⟩
end Go.Proofs.YtaelghbjbopilaaGreat
end
