import Derived.Test.YtaelghbjbopilaaGreatQProtoRepliesUptoP20
import Derived.Test.YtaelghbjbopilaaGreatQProtoRepliesUptoP3
import Derived.Test.YtaelghbjbopilaaGreatQProtoRepliesUptoP21
import Derived.Test.YtaelghbjbopilaaGreatQProtoRepliesUptoP12
import Derived.Deep.DeepCutAuto

/- slices of pairs read, proto.right where an answer can be. By an AI agent. -/
section
set_option linter.unusedVariables false
set_option linter.unusedSimpArgs false
namespace Go.Proofs.YtaelghbjbopilaaGreat
open Go.RowKit

theorem right1_any (s : ByteArray) (w : World) (hz : s.size ≤ 65536) :
    Calls Tryz.prog 116 #[.string s] w fun e w' => e = .returned (.bool false) ∧ Bl w w' := by
  go_enter Tryz.func116, Tryz.ntmps116
  go_wp2_with fail
  go_ret
  exact ⟨ret_bool (by rw [decide_eq_false]; omega), Bl.refl _⟩

set_option maxHeartbeats 800000 in
set_option maxRecDepth 100000 in
theorem right2_any (p : ByteArray × ValL) (g : Nat) (w : World) (hc : C1 w g (.func (.func 116) #[] #[])) (h0 : p.1.size ≤ 65536) (h1 : p.2.s.size ≤ 65536) :
    Calls Tryz.prog 118 #[.agg #[.string p.1, .bool p.2.there, .float .f64 p.2.x, .int .i64 p.2.n, .string p.2.s], .pointer (some ⟨g, 0, none⟩)] w fun e w' => e = .returned (.bool false) ∧ Bl w w' := by
  obtain ⟨key, ⟨t, x, n, s⟩⟩ := p
  dsimp only at h0 h1 ⊢
  have hsf := store_float
  have HC := Lib.hid hc
  have hg := AC.new w _ rfl [.string key, .bool t, .float .f64 x, .int .i64 n, .string s] 52
  have hb := (Bl.refl w).alloc (.cells #[.string key, .bool t, .float .f64 x, .int .i64 n, .string s] 52)
  have c0 := hg.cell 0 _ rfl
  have c4 := hg.cell 4 _ rfl
  have cg := (hc.keep hb).cell
  have H1 := Lib.hid (fun w => right1_any key w h0)
  have H2 := Lib.hid (fun w => right1_any s w h1)
  clear hc h0 h1
  go_enter Tryz.func118, Tryz.ntmps118
  go_wp2_with fail
  have HG := Lib.hid hg
  have HB := Lib.hid hb
  clear hg hb
  generalize w.alloc _ = W at *
  refine (H1.out _).mono ?_
  rintro e W1 ⟨rfl, hb1⟩
  have c4' := hb1.cell c4
  have cg' := hb1.cell cg
  clear c0 c4 cg
  go_wp2_with fail
  refine (H2.out _).mono ?_
  rintro e W2 ⟨rfl, hb2⟩
  have HB2 := Lib.hid (HB.out.trans (hb1.trans hb2))
  clear hb1 hb2 c4' cg'
  go_wp2_with fail
  go_ret
  exact ⟨ret_bool rfl, HB2.out⟩

set_option maxHeartbeats 1600000 in
set_option maxRecDepth 100000 in
theorem indexPair_any (a : Option Addr) (n ca g : Nat) (ps : List (ByteArray × ValL)) (w : World) (hx : PA w a n ps) (hg : C1 w g (.func (.func 116) #[] #[])) (hs : ∀ p ∈ ps, p.1.size ≤ 65536 ∧ p.2.s.size ≤ 65536) :
    Calls Tryz.prog 171 #[.slice a n ca, .func (.func 118) #[] #[.pointer (some ⟨g, 0, none⟩)]] w fun e w' => e = .returned (.int .i64 (-1)) ∧ Bl w w' := by
  have hsf := store_float
  have HS := Lib.hid hs
  have hx1 := hx.cap
  have HX := Lib.hid hx
  have HG := Lib.hid hg
  clear hx hg hs
  go_enter Tryz.func171, Tryz.ntmps171
  go_wp2_with fail
  go_loopw [8] (fun i wr => ∃ k : Nat, k ≤ n ∧ i = .int .i64 k ∧ Bl w wr) (fun i _ => n - (intOf i).toNat)
  case atStart => exact ⟨0, Nat.zero_le _, rfl, Bl.refl _⟩
  case round =>
    obtain ⟨k, hk, rfl, hb⟩ := hrel
    by_cases hlt : k < n
    · obtain ⟨ba, oa, rfl, _⟩ := HX.out.cells k hlt
      obtain ⟨c0, c1, c2, c3, c4⟩ := HX.out.get hb hlt
      have hkl : k < ps.length := by rw [HX.out.len]; exact hlt
      have hm := HS.out _ (nthQ_mem hkl)
      have H2 := Lib.hid (fun w hc => right2_any (nthQ ps k) g w hc hm.1 hm.2)
      have HB := Lib.hid hb
      clear hb hm hkl
      generalize nthQ ps k = p at *
      obtain ⟨key, ⟨t, x, m, s⟩⟩ := p
      dsimp only at c0 c1 c2 c3 c4 H2
      go_wp2_with fail
      refine (H2.out _ (HG.out.keep HB.out)).mono ?_
      rintro e w' ⟨rfl, hb1⟩
      clear c0 c1 c2 c3 c4
      go_wp2_with fail
      go_roundw
      case rel => exact ⟨k + 1, by omega, by go_num, HB.out.trans hb1⟩
      case measure => simp [intOf]; omega
    · have HB := Lib.hid hb
      clear hb
      go_wp2_with fail
      go_ret
      exact ⟨rfl, HB.out⟩
theorem containsPair_any (a : Option Addr) (n ca g : Nat) (ps : List (ByteArray × ValL)) (w : World) (hx : PA w a n ps) (hg : C1 w g (.func (.func 116) #[] #[])) (hs : ∀ p ∈ ps, p.1.size ≤ 65536 ∧ p.2.s.size ≤ 65536) :
    Calls Tryz.prog 117 #[.slice a n ca, .func (.func 118) #[] #[.pointer (some ⟨g, 0, none⟩)]] w fun e w' => e = .returned (.bool false) ∧ Bl w w' := by
  have H := Lib.hid (indexPair_any a n ca g ps w hx hg hs)
  clear hx hg hs
  go_enter Tryz.func117, Tryz.ntmps117
  go_wp2_with fail
  refine H.out.mono ?_
  rintro e w' ⟨rfl, hb⟩
  go_wp2_with fail
  go_ret
  exact ⟨ret_bool (by decide), hb⟩

/-! ### proto.right -/
theorem store_func (a : Addr) (f : Fn) (w : World) : (store a (.func f #[] #[])).run Tryz.prog w = stored Tryz.prog w a (.func f #[] #[]) .plain := run_store Tryz.prog w a _ .plain rfl
/-- an answer's nine cells -/
def repCs (code num : Int) (ad : Option Addr) (n ca : Nat) (t : Bool) (x : Nat) (m : Int) (s : ByteArray) (pd : Option Addr) (pn pc : Nat) (text : ByteArray) : List Value :=
  [.int .i64 code, .int .i64 num, .slice ad n ca, .bool t, .float .f64 x, .int .i64 m, .string s, .slice pd pn pc, .string text]
def repV (code num : Int) (ad : Option Addr) (n ca : Nat) (t : Bool) (x : Nat) (m : Int) (s : ByteArray) (pd : Option Addr) (pn pc : Nat) (text : ByteArray) : Value :=
  .agg #[.int .i64 code, .int .i64 num, .slice ad n ca, .bool t, .float .f64 x, .int .i64 m, .string s, .slice pd pn pc, .string text]
theorem AC.rep {w : World} {g : Nat} {code num : Int} {ad : Option Addr} {n ca : Nat} {t : Bool} {x : Nat} {m : Int} {s : ByteArray} {pd : Option Addr} {pn pc : Nat} {text : ByteArray} (h : AC w g (repCs code num ad n ca t x m s pd pn pc text)) :
    w.cell? ⟨g, 0, none⟩ = some (.int .i64 code) ∧ w.cell? ⟨g, 1, none⟩ = some (.int .i64 num) ∧ w.cell? ⟨g, 2, none⟩ = some (.slice ad n ca) ∧ w.cell? ⟨g, 3, none⟩ = some (.bool t) ∧ w.cell? ⟨g, 4, none⟩ = some (.float .f64 x) ∧
    w.cell? ⟨g, 5, none⟩ = some (.int .i64 m) ∧ w.cell? ⟨g, 6, none⟩ = some (.string s) ∧ w.cell? ⟨g, 7, none⟩ = some (.slice pd pn pc) ∧ w.cell? ⟨g, 8, none⟩ = some (.string text) :=
  ⟨h.cell 0 _ rfl, h.cell 1 _ rfl, h.cell 2 _ rfl, h.cell 3 _ rfl, h.cell 4 _ rfl, h.cell 5 _ rfl, h.cell 6 _ rfl, h.cell 7 _ rfl, h.cell 8 _ rfl⟩
/-- an answer lies so -/
structure RepOk (w : World) (r : ReplyL) (ad : Option Addr) (n : Nat) (pd : Option Addr) (pn : Nat) : Prop where
  x : IA w ad n r.at_
  p : PA w pd pn r.pairs
theorem RepOk.keep {w w' : World} {r : ReplyL} {ad : Option Addr} {n : Nat} {pd : Option Addr} {pn : Nat} (h : RepOk w r ad n pd pn) (k : Bl w w') : RepOk w' r ad n pd pn := ⟨h.x.keep k, h.p.keep k⟩

set_option maxHeartbeats 3200000 in
set_option maxRecDepth 100000 in
theorem right_hid (code num : Int) (ad : Option Addr) (n ca : Nat) (xs : List Int) (t : Bool) (x : Nat) (m : Int) (s : ByteArray) (pd : Option Addr) (pn pc : Nat) (ps : List (ByteArray × ValL)) (text : ByteArray) (w : World) (hx : IA w ad n xs) (hp : PA w pd pn ps)
    (h1 : 0 ≤ code) (h2 : code ≤ 281474976710655) (h3 : 0 ≤ num) (h4 : num ≤ 281474976710655) (h5 : Hid (n = 0 ∨ validL xs = true)) (h6 : Hid (text.size ≤ 65536)) (h7 : Hid (s.size ≤ 65536)) (h8 : Hid (∀ p ∈ ps, p.1.size ≤ 65536 ∧ p.2.s.size ≤ 65536)) (h9 : pn ≤ 10000) :
    Calls Tryz.prog 22 #[repV code num ad n ca t x m s pd pn pc text] w fun e w' => e = .returned (.bool true) ∧ Bl w w' := by
  have hsf := store_float
  have hn := hx.cap
  have hpn := hp.cap
  have HX := Lib.hid hx
  have HP := Lib.hid hp
  have hg := AC.new w _ rfl (repCs code num ad n ca t x m s pd pn pc text) 30
  have hb := (Bl.refl w).alloc (.cells (repCs code num ad n ca t x m s pd pn pc text).toArray 30)
  obtain ⟨c0, c1, c2, c3, c4, c5, c6, c7, c8⟩ := AC.rep hg
  unfold repV
  unfold repCs at hg hb c0 c1 c2 c3 c4 c5 c6 c7 c8
  have g1 : decide (code < 0) = false := decide_eq_false (by omega)
  have g2 : decide (281474976710655 < code) = false := decide_eq_false (by omega)
  have g3 : decide (num < 0) = false := decide_eq_false (by omega)
  have g4 : decide (281474976710655 < num) = false := decide_eq_false (by omega)
  have g5 : decide ((10000 : Int) < (pn : Int)) = false := decide_eq_false (by omega)
  clear h1 h2 h3 h4 hx hp
  go_enter Tryz.func22, Tryz.ntmps22
  have hsfn := store_func
  have hmf := hmf
  have H6 := Lib.hid (fun w => right1_any text w h6.out)
  have H7 := Lib.hid (fun w => right1_any s w h7.out)
  by_cases hz : n = 0
  · subst hz
    go_wp2_with fail
    have hf1 := C1.new (w.alloc (.cells #[.int .i64 code, .int .i64 num, .slice ad 0 ca, .bool t, .float .f64 x, .int .i64 m, .string s, .slice pd pn pc, .string text] 30)) (w.heap.size + 1) (by simp) (.func (.func 116) #[] #[]) 143
    have hb2 := hb.alloc (.cells #[.func (.func 116) #[] #[]] 143)
    have hg2 := hg.keep ((Bl.refl _).alloc (.cells #[.func (.func 116) #[] #[]] 143))
    clear hg hb c0 c1 c2 c3 c4 c5 c6 c7 c8 g1 g2 g3 g4 g5 hsf hsfn
    generalize (w.alloc (.cells #[.int .i64 code, .int .i64 num, .slice ad 0 ca, .bool t, .float .f64 x, .int .i64 m, .string s, .slice pd pn pc, .string text] 30)).alloc _ = W at *
    refine (H6.out _).mono ?_
    rintro e W1 ⟨rfl, hb3⟩
    have f1 := hf1.keep hb3
    have k6 := (hg2.keep hb3).cell 6 _ rfl
    have k7 := (hg2.keep hb3).cell 7 _ rfl
    have cf := f1.cell
    have HB := Lib.hid (hb2.trans hb3)
    have HF := Lib.hid f1
    have HG := Lib.hid (hg2.keep hb3)
    clear hb2 hb3 hf1 f1 hg2
    go_wp2_with fail
    refine (H7.out _).mono ?_
    rintro e W2 ⟨rfl, hb4⟩
    have HF2 := Lib.hid (HF.out.keep hb4)
    have k7 := (HG.out.keep hb4).cell 7 _ rfl
    have cf := HF2.out.cell
    have HB2 := Lib.hid (HB.out.trans hb4)
    clear HF HG HB hb4
    go_wp2_with fail
    refine (containsPair_any pd pn pc (w.heap.size + 1) ps _ (HP.out.keep HB2.out) HF2.out h8.out).mono ?_
    rintro e W3 ⟨rfl, hb5⟩
    go_wp2_with fail
    go_ret
    exact ⟨ret_bool rfl, HB2.out.trans hb5⟩
  · have hv : validL xs = true := by rcases h5.out with h | h; exact absurd h hz; exact h
    have HV := Lib.hid hv
    clear hv
    go_wp2_with fail
    refine (valid_any ad n ca xs _ (HX.out.keep hb)).mono ?_
    rintro e w' ⟨rfl, rfl⟩
    rw [HV.out]
    go_wp2_with fail
    have hf1 := C1.new (w.alloc (.cells #[.int .i64 code, .int .i64 num, .slice ad n ca, .bool t, .float .f64 x, .int .i64 m, .string s, .slice pd pn pc, .string text] 30)) (w.heap.size + 1) (by simp) (.func (.func 116) #[] #[]) 143
    have hb2 := hb.alloc (.cells #[.func (.func 116) #[] #[]] 143)
    have hg2 := hg.keep ((Bl.refl _).alloc (.cells #[.func (.func 116) #[] #[]] 143))
    clear hg hb c0 c1 c2 c3 c4 c5 c6 c7 c8 g1 g2 g3 g4 g5 hsf hsfn
    generalize (w.alloc (.cells #[.int .i64 code, .int .i64 num, .slice ad n ca, .bool t, .float .f64 x, .int .i64 m, .string s, .slice pd pn pc, .string text] 30)).alloc _ = W at *
    refine (H6.out _).mono ?_
    rintro e W1 ⟨rfl, hb3⟩
    have f1 := hf1.keep hb3
    have k6 := (hg2.keep hb3).cell 6 _ rfl
    have k7 := (hg2.keep hb3).cell 7 _ rfl
    have cf := f1.cell
    have HB := Lib.hid (hb2.trans hb3)
    have HF := Lib.hid f1
    have HG := Lib.hid (hg2.keep hb3)
    clear hb2 hb3 hf1 f1 hg2
    go_wp2_with fail
    refine (H7.out _).mono ?_
    rintro e W2 ⟨rfl, hb4⟩
    have HF2 := Lib.hid (HF.out.keep hb4)
    have k7 := (HG.out.keep hb4).cell 7 _ rfl
    have cf := HF2.out.cell
    have HB2 := Lib.hid (HB.out.trans hb4)
    clear HF HG HB hb4
    go_wp2_with fail
    refine (containsPair_any pd pn pc (w.heap.size + 1) ps _ (HP.out.keep HB2.out) HF2.out h8.out).mono ?_
    rintro e W3 ⟨rfl, hb5⟩
    go_wp2_with fail
    go_ret
    exact ⟨ret_bool rfl, HB2.out.trans hb5⟩

theorem pright_any (r : ReplyL) (ad : Option Addr) (n ca : Nat) (pd : Option Addr) (pn pc : Nat) (w : World) (ok : RepOk w r ad n pd pn) {z : Nat} (hr : RightR r z) (hz : z ≤ 65536) :
    Calls Tryz.prog 22 #[repV r.code r.num ad n ca r.val.there r.val.x r.val.n r.val.s pd pn pc r.text] w fun e w' => e = .returned (.bool true) ∧ Bl w w' := by
  refine right_hid _ _ ad n ca r.at_ _ _ _ _ pd pn pc r.pairs _ w ok.x ok.p hr.code.1 hr.code.2 hr.num.1 hr.num.2 (Lib.hid ?_) (Lib.hid ?_) (Lib.hid ?_) (Lib.hid ?_) (by have := hr.few; have := ok.p.len; omega)
  · rcases hr.at_ with h | h
    · left; rw [← ok.x.len, h]; rfl
    · exact .inr h
  · exact Nat.le_trans hr.text hz
  · exact Nat.le_trans hr.vs hz
  · exact fun p hp => ⟨Nat.le_trans (hr.pairs p hp).key hz, Nat.le_trans (hr.pairs p hp).s hz⟩
end Go.Proofs.YtaelghbjbopilaaGreat
end

/- proto.value. By an AI agent. -/
section
set_option linter.unusedVariables false
set_option linter.unusedSimpArgs false
namespace Go.Proofs.YtaelghbjbopilaaGreat
open Go.RowKit
attribute [local go_sem] eOp eOper eUpon

theorem ob_keepR {B : Nat} {w w' : World} {v : Value} {xs : List Int} (h : OB B w v xs) (hb : Bl w w') : OB B w' v xs := ownsRow_bl h hb
set_option maxHeartbeats 3200000 in
set_option maxRecDepth 100000 in
theorem value_hid (b : Bool) (x : Nat) (n : Int) (s : ByteArray) (w : World) (hx : x < two64) (hz : s.size ≤ 70000) (T : Int) (HT : Hid (thereN b = T)) (U : Nat) (HU : Hid ((n % 18446744073709551616).toNat = U)) (hU64 : U < 18446744073709551616) (hwr : IntKind.u64.wrap n = (U : Int))
    (q1 q2 q3 q4 p2 p3 p4 : ByteArray) (e2 : q1 ++ q2 = p2) (e3 : p2 ++ q3 = p3) (e4 : p3 ++ q4 = p4) (s2 : (9223372036854775807 < q1.size + q2.size) = False) (s3 : (9223372036854775807 < p2.size + q3.size) = False) (s4 : (9223372036854775807 < p3.size + q4.size) = False)
    (C1 : Hid (∀ w, Calls Tryz.prog 24 #[.int .i64 T, .int .i64 1] w fun e w' => e = .returned (.string q1) ∧ Bl w w'))
    (C2 : Hid (∀ w, Calls Tryz.prog 122 #[.float .f64 x] w fun e w' => e = .returned (.string q2) ∧ Bl w w'))
    (C3 : Hid (strOfNums (putN U 8 8) = q3))
    (C4 : Hid (∀ w, Calls Tryz.prog 27 #[.string s] w fun e w' => e = .returned (.string q4) ∧ Bl w w')) :
    Calls Tryz.prog 26 #[.agg #[.bool b, .float .f64 x, .int .i64 n, .string s]] w fun e w' => e = .returned (.string p4) ∧ Bl w w' := by
  have hsf := store_float
  obtain ⟨i0, hi, hz0, hz1, hz2⟩ := info_parts info_byte
  have hb0 := (Bl.refl w).alloc (.cells #[.bool b, .float .f64 x, .int .i64 n, .string s] 27)
  have hg := AC.new w _ rfl [.bool b, .float .f64 x, .int .i64 n, .string s] 27
  obtain ⟨c0, c1, c2, c3⟩ := hg.val
  go_enter Tryz.func26, Tryz.ntmps26
  go_upto_if 7 with fail
  generalize hgv : w.heap.size = gv at *
  generalize w.alloc _ = W at *
  have HV := Lib.hid hgv
  clear hgv
  go_cut [3] (fun s3 X => s3 = .int .i64 T ∧ W = X)
  case first =>
    cases b
    · go_wp2_with fail
      go_meet
      case rel => exact ⟨by rw [← HT.out]; rfl, rfl⟩
    · go_wp2_with fail
      go_meet
      case rel => exact ⟨by rw [← HT.out]; rfl, rfl⟩
  case rest =>
    obtain ⟨rfl, rfl⟩ := hcut
    have HG := Lib.hid hg
    have HB0 := Lib.hid hb0
    clear hg hb0
    go_wp2_with (at_make; refine wpList_make_full _ rfl _ _ 78 rfl W.heap.size 5 i0 (.int .u8 0) 1 Tryz.underlying78 hi hz0 hz1 .i64 .i64 _ _ 8 rfl rfl rfl rfl ?b1 ?b2 ?b3 ?_)
    case b1 => rw [hz2]; omega
    case b2 => unfold maxLen; omega
    case b3 => exact Nat.le_refl _
    intro w1 hown hgrow
    have hb : Bl W w1 := Below.grown (Bl.refl W) hgrow (Nat.le_refl _) (by simp)
    have hob : OB W.heap.size w1 (.slice (some ⟨W.heap.size, 0, none⟩) 8 8) (putN U 8 0) := by
      rw [OB, putN_len, putN_zero]
      have e : (madeCells #[Value.int .u8 0] 8).toList = List.map (Value.int .u8) (List.replicate 8 0) := by
        rw [List.map_replicate]
        exact toList_madeCells_one _ _
      rw [e] at hown
      exact hown
    clear hown hgrow c0 c1 c2 c3
    go_wp2
    go_loopw [11] (fun i wr => ∃ k : Nat, k ≤ 8 ∧ i = .int .i64 k ∧ Bl W wr ∧ OB W.heap.size wr (.slice (some ⟨W.heap.size, 0, none⟩) 8 8) (putN U 8 k)) (fun i _ => 8 - (intOf i).toNat)
    case atStart => exact ⟨0, Nat.zero_le _, rfl, hb, hob⟩
    case round =>
      clear hb hob
      obtain ⟨k, hk, rfl, hb, hob⟩ := hrel
      obtain ⟨c0, c1, c2, c3⟩ := (HG.out.keep hb).val
      by_cases hlt : k < 8
      · have hc := hob.cell (putN_len U 8 k) (8 - 1 - k) (by omega)
        have hfz := hob.frozen (putN_len U 8 k) (8 - 1 - k)
        generalize nth (putN U 8 k) (8 - 1 - k) = old at hc
        have HOB := Lib.hid hob
        clear hob
        have hidx : (7 : Int) - (k : Int) = ((8 - 1 - k : Nat) : Int) := by omega
        have hKB : 8 - 1 - k < 8 := by omega
        generalize hKx : 8 - 1 - k = kx at *
        have HKX := Lib.hid hKx
        clear hKx
        go_wp2_with fail
        go_roundw
        case rel =>
          refine ⟨k + 1, by omega, by go_num, hb.setCell (p := ⟨W.heap.size, kx, none⟩) (Nat.le_refl _) _, ?_⟩
          have h1 := HOB.out.set (putN_len U 8 k) kx ((U : Int) / 2 ^ (8 * k) % 256)
          have e : (U : Int) / 2 ^ (8 * k) % 256 = byteAt U 8 (8 - 1 - k) := by unfold byteAt; rw [show 8 - 1 - (8 - 1 - k) = k by omega]
          have h2 := putN_set U 8 k hlt
          rw [← e, HKX.out] at h2
          rw [h2] at h1
          exact h1
        case measure => simp [intOf]; omega
      · have e8 : k = 8 := by omega
        subst e8
        have HOB := Lib.hid hob
        have HBW := Lib.hid hb
        clear hob hb c0 c1 c2 c3 hlt hk
        go_upto_region 10 with fail
        refine wp_region_extall (by kernel_rfl) (by kernel_rfl) ?_
        have hbD : Bl W wr.drew := HBW.out.drew
        have HO2 := Lib.hid (ob_keepR HOB.out (Bl.refl wr).drew)
        have HG2 := Lib.hid (HG.out.keep hbD)
        have HB2 := Lib.hid (HB0.out.trans hbD)
        clear hbD
        generalize wr.drew = WD at *
        have x1 : ∀ q : Ext WD, _ := fun q => (HG2.out.keep q.bl).val.2.1
        have x3 : ∀ q : Ext WD, _ := fun q => (HG2.out.keep q.bl).val.2.2.2
        have hst : ∀ q : Ext WD, (convert 78 9 (.slice (some ⟨W.heap.size, 0, none⟩) 8 8)).run Tryz.prog q.at = .ok (.string q3) q.at := fun q => by
          have := (ob_keepR HO2.out q.bl).string (putN_len U 8 8)
          rw [C3.out] at this
          exact this
        clear HO2 HOB
        repeat (refine wpE_step (fun K hK => ?_); go_simp; first | (refine hK _ ?_; clear hK K) | (apply Exists.intro; refine ⟨fun q => ?_, hK _ ?_⟩; (first | with_reducible exact C1.out _ | with_reducible exact C2.out _ | with_reducible exact C4.out _); clear hK K))
        refine wpE_nil ?_
        intro q
        go_wp2_with fail
        go_ret
        exact ⟨rfl, HB2.out.trans q.bl⟩
theorem value_any (v : ValL) (w : World) (hx : v.x < two64) (hn : -9223372036854775808 ≤ v.n ∧ v.n ≤ 9223372036854775807) (hz : v.s.size ≤ 70000) :
    Calls Tryz.prog 26 #[.agg #[.bool v.there, .float .f64 v.x, .int .i64 v.n, .string v.s]] w fun e w' => e = .returned (.string (strL (putVal v))) ∧ Bl w w' := by
  have hT : 0 ≤ thereN v.there ∧ thereN v.there ≤ 255 := by unfold thereN; split <;> omega
  have hU : (n : Int) → IntKind.u64.wrap n = (((n % 18446744073709551616).toNat : Nat) : Int) := fun n => by rw [IntKind.wrap_u64]; omega
  have e : putVal v = ((numB (thereN v.there) 1 ++ bytesN8 (fkey v.x)) ++ bytesN8 (v.n % 18446744073709551616).toNat) ++ textB v.s.data.toList := by unfold putVal; simp only [List.append_assoc]
  have hsl : v.s.data.toList.length = v.s.size := by simp
  have z4 := textB_len v.s.data.toList
  rw [e]
  refine value_hid v.there v.x v.n v.s w hx hz _ (Lib.hid rfl) _ (Lib.hid rfl) (by omega) (hU v.n) (strL (numB (thereN v.there) 1)) (strL (bytesN8 (fkey v.x))) (strL (bytesN8 (v.n % 18446744073709551616).toNat)) (strL (textB v.s.data.toList)) _ _ _ (strL_app _ _) (strL_app _ _) (strL_app _ _) (eq_false ?_) (eq_false ?_) (eq_false ?_)
    (Lib.hid fun w => num1_any _ w hT) (Lib.hid fun w => rput_any v.x w hx) (Lib.hid rfl) (Lib.hid fun w => text_any v.s.data.toList w (by omega))
  all_goals (simp only [strL_size, List.length_append, numB_len, bytesN8_len, textB_len]; omega)
end Go.Proofs.YtaelghbjbopilaaGreat
end
