/- slices of pairs read, proto.right where an answer can be. By an AI agent. -/
import Derived.Test.YtechiehbigmjbaaReply0
import Derived.Test.YtechiehbigmjbaaVecP
import Derived.Test.YtechiehbigmjbaaApp
set_option linter.unusedVariables false
set_option linter.unusedSimpArgs false
namespace Go.Proofs.Ytechiehbigmjbaa
open Go.RowKit

def pairCs (p : ByteArray × ValL) : List Value := [.string p.1, .bool p.2.there, .float .f64 p.2.x, .int .i64 p.2.n, .string p.2.s]
def nthQ (ps : List (ByteArray × ValL)) (j : Nat) : ByteArray × ValL := ps.getD j (⟨#[]⟩, ⟨false, 0, 0, ⟨#[]⟩⟩)
theorem nthQ_eq {ps : List (ByteArray × ValL)} {j : Nat} (h : j < ps.length) : nthQ ps j = ps[j] := by
  unfold nthQ
  rw [List.getD_eq_getElem?_getD, List.getElem?_eq_getElem h]; rfl
theorem nthQ_mem {ps : List (ByteArray × ValL)} {j : Nat} (h : j < ps.length) : nthQ ps j ∈ ps := by
  rw [nthQ_eq h]; exact List.getElem_mem h
/-- the five cells of a pair -/
structure PC (w : World) (b off : Nat) (p : ByteArray × ValL) : Prop where
  c0 : w.cell? ⟨b, off, none⟩ = some (.string p.1)
  c1 : w.cell? ⟨b, off + 1, none⟩ = some (.bool p.2.there)
  c2 : w.cell? ⟨b, off + 2, none⟩ = some (.float .f64 p.2.x)
  c3 : w.cell? ⟨b, off + 3, none⟩ = some (.int .i64 p.2.n)
  c4 : w.cell? ⟨b, off + 4, none⟩ = some (.string p.2.s)
theorem PC.keep {w w' : World} {b off : Nat} {p : ByteArray × ValL} (h : PC w b off p) (k : Bl w w') : PC w' b off p := ⟨k.cell h.c0, k.cell h.c1, k.cell h.c2, k.cell h.c3, k.cell h.c4⟩
/-- a slice that reads as pairs -/
structure PA (w : World) (a : Option Addr) (n : Nat) (ps : List (ByteArray × ValL)) : Prop where
  len : ps.length = n
  cap : n ≤ 10000
  cells : ∀ j, j < n → ∃ b off, a = some ⟨b, off, none⟩ ∧ ∀ j, j < n → PC w b (off + j * 5) (nthQ ps j)
theorem PA.keep {w w' : World} {a : Option Addr} {n : Nat} {ps : List (ByteArray × ValL)} (h : PA w a n ps) (k : Bl w w') : PA w' a n ps :=
  ⟨h.len, h.cap, fun j hj => by
    obtain ⟨b, off, e, hc⟩ := h.cells j hj
    exact ⟨b, off, e, fun j hj => (hc j hj).keep k⟩⟩
theorem PA.get {w W : World} {b off n : Nat} {ps : List (ByteArray × ValL)} (h : PA w (some ⟨b, off, none⟩) n ps) (hb : Bl w W) {k : Nat} (hk : k < n) : PC W b (off + k * 5) (nthQ ps k) := by
  obtain ⟨b', off', e, hc⟩ := h.cells k hk
  cases e
  exact (hc k hk).keep hb

theorem right1_any (s : ByteArray) (w : World) (hz : s.size ≤ 65536) :
    Calls Try.prog 168 #[.string s] w fun e w' => e = .returned (.bool false) ∧ Bl w w' := by
  go_enter Try.func168, Try.ntmps168
  go_wp2_with fail
  go_ret
  exact ⟨ret_bool (by rw [decide_eq_false]; omega), Bl.refl _⟩

set_option maxHeartbeats 800000 in
set_option maxRecDepth 100000 in
theorem right2_any (p : ByteArray × ValL) (g : Nat) (w : World) (hc : C1 w g (.func (.func 168) #[] #[])) (h0 : p.1.size ≤ 65536) (h1 : p.2.s.size ≤ 65536) :
    Calls Try.prog 170 #[.agg #[.string p.1, .bool p.2.there, .float .f64 p.2.x, .int .i64 p.2.n, .string p.2.s], .pointer (some ⟨g, 0, none⟩)] w fun e w' => e = .returned (.bool false) ∧ Bl w w' := by
  obtain ⟨key, ⟨t, x, n, s⟩⟩ := p
  dsimp only at h0 h1 ⊢
  have hsf := store_float
  have HC := Lib.hid hc
  have hg := AC.new w _ rfl [.string key, .bool t, .float .f64 x, .int .i64 n, .string s] 87
  have hb := (Bl.refl w).alloc (.cells #[.string key, .bool t, .float .f64 x, .int .i64 n, .string s] 87)
  have c0 := hg.cell 0 _ rfl
  have c4 := hg.cell 4 _ rfl
  have cg := (hc.keep hb).cell
  have H1 := Lib.hid (fun w => right1_any key w h0)
  have H2 := Lib.hid (fun w => right1_any s w h1)
  clear hc h0 h1
  go_enter Try.func170, Try.ntmps170
  go_wp2_with fail
  have HG := Lib.hid hg
  have HB := Lib.hid hb
  clear hg hb
  generalize w.alloc _ = W at *
  refine (H1.out _).mono ?_
  rintro e W1 ⟨rfl, hb1⟩
  have c4' := hb1.cell c4
  have cg' := hb1.cell cg
  clear c0 c4 cg
  go_wp2_with fail
  refine (H2.out _).mono ?_
  rintro e W2 ⟨rfl, hb2⟩
  have HB2 := Lib.hid (HB.out.trans (hb1.trans hb2))
  clear hb1 hb2 c4' cg'
  go_wp2_with fail
  go_ret
  exact ⟨ret_bool rfl, HB2.out⟩

set_option maxHeartbeats 1600000 in
set_option maxRecDepth 100000 in
theorem indexPair_any (a : Option Addr) (n ca g : Nat) (ps : List (ByteArray × ValL)) (w : World) (hx : PA w a n ps) (hg : C1 w g (.func (.func 168) #[] #[])) (hs : ∀ p ∈ ps, p.1.size ≤ 65536 ∧ p.2.s.size ≤ 65536) :
    Calls Try.prog 189 #[.slice a n ca, .func (.func 170) #[] #[.pointer (some ⟨g, 0, none⟩)]] w fun e w' => e = .returned (.int .i64 (-1)) ∧ Bl w w' := by
  have hsf := store_float
  have HS := Lib.hid hs
  have hx1 := hx.cap
  have HX := Lib.hid hx
  have HG := Lib.hid hg
  clear hx hg hs
  go_enter Try.func189, Try.ntmps189
  go_wp2_with fail
  go_loopw [8] (fun i wr => ∃ k : Nat, k ≤ n ∧ i = .int .i64 k ∧ Bl w wr) (fun i _ => n - (intOf i).toNat)
  case atStart => exact ⟨0, Nat.zero_le _, rfl, Bl.refl _⟩
  case round =>
    obtain ⟨k, hk, rfl, hb⟩ := hrel
    by_cases hlt : k < n
    · obtain ⟨ba, oa, rfl, _⟩ := HX.out.cells k hlt
      obtain ⟨c0, c1, c2, c3, c4⟩ := HX.out.get hb hlt
      have hkl : k < ps.length := by rw [HX.out.len]; exact hlt
      have hm := HS.out _ (nthQ_mem hkl)
      have H2 := Lib.hid (fun w hc => right2_any (nthQ ps k) g w hc hm.1 hm.2)
      have HB := Lib.hid hb
      clear hb hm hkl
      generalize nthQ ps k = p at *
      obtain ⟨key, ⟨t, x, m, s⟩⟩ := p
      dsimp only at c0 c1 c2 c3 c4 H2
      go_wp2_with fail
      refine (H2.out _ (HG.out.keep HB.out)).mono ?_
      rintro e w' ⟨rfl, hb1⟩
      clear c0 c1 c2 c3 c4
      go_wp2_with fail
      go_roundw
      case rel => exact ⟨k + 1, by omega, by go_num, HB.out.trans hb1⟩
      case measure => simp [intOf]; omega
    · have HB := Lib.hid hb
      clear hb
      go_wp2_with fail
      go_ret
      exact ⟨rfl, HB.out⟩
theorem containsPair_any (a : Option Addr) (n ca g : Nat) (ps : List (ByteArray × ValL)) (w : World) (hx : PA w a n ps) (hg : C1 w g (.func (.func 168) #[] #[])) (hs : ∀ p ∈ ps, p.1.size ≤ 65536 ∧ p.2.s.size ≤ 65536) :
    Calls Try.prog 169 #[.slice a n ca, .func (.func 170) #[] #[.pointer (some ⟨g, 0, none⟩)]] w fun e w' => e = .returned (.bool false) ∧ Bl w w' := by
  have H := Lib.hid (indexPair_any a n ca g ps w hx hg hs)
  clear hx hg hs
  go_enter Try.func169, Try.ntmps169
  go_wp2_with fail
  refine H.out.mono ?_
  rintro e w' ⟨rfl, hb⟩
  go_wp2_with fail
  go_ret
  exact ⟨ret_bool (by decide), hb⟩

/-! ### proto.right -/
theorem store_func (a : Addr) (f : Fn) (w : World) : (store a (.func f #[] #[])).run Try.prog w = stored Try.prog w a (.func f #[] #[]) .plain := run_store Try.prog w a _ .plain rfl
/-- an answer's nine cells -/
def repCs (code num : Int) (ad : Option Addr) (n ca : Nat) (t : Bool) (x : Nat) (m : Int) (s : ByteArray) (pd : Option Addr) (pn pc : Nat) (text : ByteArray) : List Value :=
  [.int .i64 code, .int .i64 num, .slice ad n ca, .bool t, .float .f64 x, .int .i64 m, .string s, .slice pd pn pc, .string text]
def repV (code num : Int) (ad : Option Addr) (n ca : Nat) (t : Bool) (x : Nat) (m : Int) (s : ByteArray) (pd : Option Addr) (pn pc : Nat) (text : ByteArray) : Value :=
  .agg #[.int .i64 code, .int .i64 num, .slice ad n ca, .bool t, .float .f64 x, .int .i64 m, .string s, .slice pd pn pc, .string text]
theorem AC.rep {w : World} {g : Nat} {code num : Int} {ad : Option Addr} {n ca : Nat} {t : Bool} {x : Nat} {m : Int} {s : ByteArray} {pd : Option Addr} {pn pc : Nat} {text : ByteArray} (h : AC w g (repCs code num ad n ca t x m s pd pn pc text)) :
    w.cell? ⟨g, 0, none⟩ = some (.int .i64 code) ∧ w.cell? ⟨g, 1, none⟩ = some (.int .i64 num) ∧ w.cell? ⟨g, 2, none⟩ = some (.slice ad n ca) ∧ w.cell? ⟨g, 3, none⟩ = some (.bool t) ∧ w.cell? ⟨g, 4, none⟩ = some (.float .f64 x) ∧
    w.cell? ⟨g, 5, none⟩ = some (.int .i64 m) ∧ w.cell? ⟨g, 6, none⟩ = some (.string s) ∧ w.cell? ⟨g, 7, none⟩ = some (.slice pd pn pc) ∧ w.cell? ⟨g, 8, none⟩ = some (.string text) :=
  ⟨h.cell 0 _ rfl, h.cell 1 _ rfl, h.cell 2 _ rfl, h.cell 3 _ rfl, h.cell 4 _ rfl, h.cell 5 _ rfl, h.cell 6 _ rfl, h.cell 7 _ rfl, h.cell 8 _ rfl⟩
/-- an answer lies so -/
structure RepOk (w : World) (r : ReplyL) (ad : Option Addr) (n : Nat) (pd : Option Addr) (pn : Nat) : Prop where
  x : IA w ad n r.at_
  p : PA w pd pn r.pairs
theorem RepOk.keep {w w' : World} {r : ReplyL} {ad : Option Addr} {n : Nat} {pd : Option Addr} {pn : Nat} (h : RepOk w r ad n pd pn) (k : Bl w w') : RepOk w' r ad n pd pn := ⟨h.x.keep k, h.p.keep k⟩

set_option maxHeartbeats 3200000 in
set_option maxRecDepth 100000 in
theorem right_hid (code num : Int) (ad : Option Addr) (n ca : Nat) (xs : List Int) (t : Bool) (x : Nat) (m : Int) (s : ByteArray) (pd : Option Addr) (pn pc : Nat) (ps : List (ByteArray × ValL)) (text : ByteArray) (w : World) (hx : IA w ad n xs) (hp : PA w pd pn ps)
    (h1 : 0 ≤ code) (h2 : code ≤ 281474976710655) (h3 : 0 ≤ num) (h4 : num ≤ 281474976710655) (h5 : Hid (n = 0 ∨ validL xs = true)) (h6 : Hid (text.size ≤ 65536)) (h7 : Hid (s.size ≤ 65536)) (h8 : Hid (∀ p ∈ ps, p.1.size ≤ 65536 ∧ p.2.s.size ≤ 65536)) :
    Calls Try.prog 122 #[repV code num ad n ca t x m s pd pn pc text] w fun e w' => e = .returned (.bool true) ∧ Bl w w' := by
  have hsf := store_float
  have hn := hx.cap
  have hpn := hp.cap
  have HX := Lib.hid hx
  have HP := Lib.hid hp
  have hg := AC.new w _ rfl (repCs code num ad n ca t x m s pd pn pc text) 94
  have hb := (Bl.refl w).alloc (.cells (repCs code num ad n ca t x m s pd pn pc text).toArray 94)
  obtain ⟨c0, c1, c2, c3, c4, c5, c6, c7, c8⟩ := AC.rep hg
  unfold repV
  unfold repCs at hg hb c0 c1 c2 c3 c4 c5 c6 c7 c8
  have g1 : decide (code < 0) = false := decide_eq_false (by omega)
  have g2 : decide (281474976710655 < code) = false := decide_eq_false (by omega)
  have g3 : decide (num < 0) = false := decide_eq_false (by omega)
  have g4 : decide (281474976710655 < num) = false := decide_eq_false (by omega)
  have g5 : decide ((10000 : Int) < (pn : Int)) = false := decide_eq_false (by omega)
  clear h1 h2 h3 h4 hx hp
  go_enter Try.func122, Try.ntmps122
  have hsfn := store_func
  have hmf := hmf
  have H6 := Lib.hid (fun w => right1_any text w h6.out)
  have H7 := Lib.hid (fun w => right1_any s w h7.out)
  by_cases hz : n = 0
  · subst hz
    go_wp2_with fail
    have hf1 := C1.new (w.alloc (.cells #[.int .i64 code, .int .i64 num, .slice ad 0 ca, .bool t, .float .f64 x, .int .i64 m, .string s, .slice pd pn pc, .string text] 94)) (w.heap.size + 1) (by simp) (.func (.func 168) #[] #[]) 98
    have hb2 := hb.alloc (.cells #[.func (.func 168) #[] #[]] 98)
    have hg2 := hg.keep ((Bl.refl _).alloc (.cells #[.func (.func 168) #[] #[]] 98))
    clear hg hb c0 c1 c2 c3 c4 c5 c6 c7 c8 g1 g2 g3 g4 g5 hsf hsfn
    generalize (w.alloc (.cells #[.int .i64 code, .int .i64 num, .slice ad 0 ca, .bool t, .float .f64 x, .int .i64 m, .string s, .slice pd pn pc, .string text] 94)).alloc _ = W at *
    refine (H6.out _).mono ?_
    rintro e W1 ⟨rfl, hb3⟩
    have f1 := hf1.keep hb3
    have k6 := (hg2.keep hb3).cell 6 _ rfl
    have k7 := (hg2.keep hb3).cell 7 _ rfl
    have cf := f1.cell
    have HB := Lib.hid (hb2.trans hb3)
    have HF := Lib.hid f1
    have HG := Lib.hid (hg2.keep hb3)
    clear hb2 hb3 hf1 f1 hg2
    go_wp2_with fail
    refine (H7.out _).mono ?_
    rintro e W2 ⟨rfl, hb4⟩
    have HF2 := Lib.hid (HF.out.keep hb4)
    have k7 := (HG.out.keep hb4).cell 7 _ rfl
    have cf := HF2.out.cell
    have HB2 := Lib.hid (HB.out.trans hb4)
    clear HF HG HB hb4
    go_wp2_with fail
    refine (containsPair_any pd pn pc (w.heap.size + 1) ps _ (HP.out.keep HB2.out) HF2.out h8.out).mono ?_
    rintro e W3 ⟨rfl, hb5⟩
    go_wp2_with fail
    go_ret
    exact ⟨ret_bool rfl, HB2.out.trans hb5⟩
  · have hv : validL xs = true := by rcases h5.out with h | h; exact absurd h hz; exact h
    have HV := Lib.hid hv
    clear hv
    go_wp2_with fail
    refine (valid_any ad n ca xs _ (HX.out.keep hb)).mono ?_
    rintro e w' ⟨rfl, rfl⟩
    rw [HV.out]
    go_wp2_with fail
    have hf1 := C1.new (w.alloc (.cells #[.int .i64 code, .int .i64 num, .slice ad n ca, .bool t, .float .f64 x, .int .i64 m, .string s, .slice pd pn pc, .string text] 94)) (w.heap.size + 1) (by simp) (.func (.func 168) #[] #[]) 98
    have hb2 := hb.alloc (.cells #[.func (.func 168) #[] #[]] 98)
    have hg2 := hg.keep ((Bl.refl _).alloc (.cells #[.func (.func 168) #[] #[]] 98))
    clear hg hb c0 c1 c2 c3 c4 c5 c6 c7 c8 g1 g2 g3 g4 g5 hsf hsfn
    generalize (w.alloc (.cells #[.int .i64 code, .int .i64 num, .slice ad n ca, .bool t, .float .f64 x, .int .i64 m, .string s, .slice pd pn pc, .string text] 94)).alloc _ = W at *
    refine (H6.out _).mono ?_
    rintro e W1 ⟨rfl, hb3⟩
    have f1 := hf1.keep hb3
    have k6 := (hg2.keep hb3).cell 6 _ rfl
    have k7 := (hg2.keep hb3).cell 7 _ rfl
    have cf := f1.cell
    have HB := Lib.hid (hb2.trans hb3)
    have HF := Lib.hid f1
    have HG := Lib.hid (hg2.keep hb3)
    clear hb2 hb3 hf1 f1 hg2
    go_wp2_with fail
    refine (H7.out _).mono ?_
    rintro e W2 ⟨rfl, hb4⟩
    have HF2 := Lib.hid (HF.out.keep hb4)
    have k7 := (HG.out.keep hb4).cell 7 _ rfl
    have cf := HF2.out.cell
    have HB2 := Lib.hid (HB.out.trans hb4)
    clear HF HG HB hb4
    go_wp2_with fail
    refine (containsPair_any pd pn pc (w.heap.size + 1) ps _ (HP.out.keep HB2.out) HF2.out h8.out).mono ?_
    rintro e W3 ⟨rfl, hb5⟩
    go_wp2_with fail
    go_ret
    exact ⟨ret_bool rfl, HB2.out.trans hb5⟩

theorem pright_any (r : ReplyL) (ad : Option Addr) (n ca : Nat) (pd : Option Addr) (pn pc : Nat) (w : World) (ok : RepOk w r ad n pd pn) {z : Nat} (hr : RightR r z) (hz : z ≤ 65536) :
    Calls Try.prog 122 #[repV r.code r.num ad n ca r.val.there r.val.x r.val.n r.val.s pd pn pc r.text] w fun e w' => e = .returned (.bool true) ∧ Bl w w' := by
  refine right_hid _ _ ad n ca r.at_ _ _ _ _ pd pn pc r.pairs _ w ok.x ok.p hr.code.1 hr.code.2 hr.num.1 hr.num.2 (Lib.hid ?_) (Lib.hid ?_) (Lib.hid ?_) (Lib.hid ?_)
  · rcases hr.at_ with h | h
    · left; rw [← ok.x.len, h]; rfl
    · exact .inr h
  · exact Nat.le_trans hr.text hz
  · exact Nat.le_trans hr.vs hz
  · exact fun p hp => ⟨Nat.le_trans (hr.pairs p hp).key hz, Nat.le_trans (hr.pairs p hp).s hz⟩
end Go.Proofs.Ytechiehbigmjbaa
