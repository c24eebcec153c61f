import Derived.Test.YtfjjnffifnohkaaGreatQFoldTellsUptoP5
import Derived.Test.YtfjjnffifnohkaaGreatQFoldTellsUptoP10
import Derived.Test.YtfjjnffifnohkaaGreatQFoldTellsUptoP6
import Derived.StillTailTactics
import Derived.Deep.AppendSrc
import Derived.Maps.OwnRows

/- op.Both, with structs taken apart. By an AI agent. -/
section
set_option linter.unusedVariables false
set_option linter.unusedSimpArgs false
namespace Go.Proofs.YtfjjnffifnohkaaGreat
open Go.RowKit

theorem both_agg (key : ByteArray) (l : Int) (y : Nat) (m : Int) (t : ByteArray) (k : Int) (x : Nat) (n : Int) (s : ByteArray) (rk : Int) (rx : Nat) (rn : Int) (rs : ByteArray) (w : World)
    (h : Hid (bothL key ⟨l, y, m, t⟩ ⟨k, x, n, s⟩ = ⟨rk, rx, rn, rs⟩)) (hkey : key.size ≤ 140737488351232) (ob : Hid (ActL.Ok ⟨l, y, m, t⟩)) (oa : Hid (ActL.Ok ⟨k, x, n, s⟩)) :
    Calls Tryz.prog 129 #[.string key, .agg #[.int .i64 l, .float .f64 y, .int .i64 m, .string t], .agg #[.int .i64 k, .float .f64 x, .int .i64 n, .string s]] w fun e w' => e = .returned (.agg #[.int .i64 rk, .float .f64 rx, .int .i64 rn, .string rs]) ∧ Bl w w' := by
  refine (both_any key ⟨l, y, m, t⟩ ⟨k, x, n, s⟩ w hkey ob.out oa.out).mono ?_
  rintro e w' ⟨rfl, hb⟩
  rw [h.out]
  exact ⟨rfl, hb⟩
end Go.Proofs.YtfjjnffifnohkaaGreat
end

/- op.Value of keys whose acts add up. By an AI agent. -/
section
namespace Go.Proofs.YtfjjnffifnohkaaGreat
open Go.RowKit
attribute [local go_sem] eOp eOper eUpon

def noVer : VerL := ⟨nilS, [], 0, 0, ⟨0, 0, 0, nilS⟩⟩
def nthR (vs : List VerL) (j : Nat) : VerL := (vs[j]?).getD noVer
theorem nthR_eq {vs : List VerL} {j : Nat} (h : j < vs.length) : nthR vs j = vs[j] := by simp [nthR, h]
theorem take_nthR {vs : List VerL} {k : Nat} (h : k < vs.length) : vs.take (k + 1) = vs.take k ++ [nthR vs k] := by
  rw [nthR_eq h]; exact List.take_succ_eq_append_getElem h
/-- one element of a slice of versions: its eight cells -/
structure VE (w : World) (b off : Nat) (v : VerL) : Prop where
  c0 : w.cell? ⟨b, off, none⟩ = some (.string v.key)
  at_ : ∃ a n ca, w.cell? ⟨b, off + 1, none⟩ = some (.slice a n ca) ∧ IA w a n v.at_
  c2 : w.cell? ⟨b, off + 2, none⟩ = some (.int .i64 v.origin)
  c3 : w.cell? ⟨b, off + 3, none⟩ = some (.int .i64 v.tx)
  c4 : w.cell? ⟨b, off + 4, none⟩ = some (.int .i64 v.act.k)
  c5 : w.cell? ⟨b, off + 5, none⟩ = some (.float .f64 v.act.x)
  c6 : w.cell? ⟨b, off + 6, none⟩ = some (.int .i64 v.act.n)
  c7 : w.cell? ⟨b, off + 7, none⟩ = some (.string v.act.s)
  ok : v.act.Ok
theorem VE.keep {w w' : World} {b off : Nat} {v : VerL} (h : VE w b off v) (k : Bl w w') : VE w' b off v := by
  obtain ⟨a, n, ca, h1, h2⟩ := h.at_
  exact ⟨k.cell h.c0, ⟨a, n, ca, k.cell h1, h2.keep k⟩, k.cell h.c2, k.cell h.c3, k.cell h.c4, k.cell h.c5, k.cell h.c6, k.cell h.c7, h.ok⟩
/-- a slice of n versions at a reads as vs -/
structure VA (w : World) (a : Option Addr) (n : Nat) (vs : List VerL) : Prop where
  len : vs.length = n
  cap : n ≤ 140737488351232
  cells : ∀ j, j < n → ∃ b off, a = some ⟨b, off, none⟩ ∧ ∀ j, j < n → VE w b (off + j * 8) (nthR vs j)
theorem VA.keep {w w' : World} {a : Option Addr} {n : Nat} {vs : List VerL} (h : VA w a n vs) (hb : Bl w w') : VA w' a n vs :=
  ⟨h.len, h.cap, fun j hj => by
    obtain ⟨b, off, e, hc⟩ := h.cells j hj
    exact ⟨b, off, e, fun j hj => (hc j hj).keep hb⟩⟩

/-- what a key has that adds up -/
def outL (key : ByteArray) (vs : List VerL) : ValL := vs.foldl (fun o v => afterL key o v.act) noVal
theorem outL_snoc (key : ByteArray) (vs : List VerL) (v : VerL) : outL key (vs ++ [v]) = afterL key (outL key vs) v.act := by simp [outL]
theorem outL_ok {key : ByteArray} {vs : List VerL} (h : ∀ v ∈ vs, v.act.Ok) : (outL key vs).Ok := by
  unfold outL
  suffices ∀ (vs : List VerL) (o : ValL), o.Ok → (∀ v ∈ vs, v.act.Ok) → (vs.foldl (fun o v => afterL key o v.act) o).Ok from this vs _ noVal_ok h
  intro vs
  induction vs with
  | nil => intro o ho _; exact ho
  | cons v vs ih =>
    intro o ho h
    exact ih _ (after_ok ho (h v (by simp))) (fun u hu => h u (by simp [hu]))
theorem VA.oks {w : World} {a : Option Addr} {n : Nat} {vs : List VerL} (h : VA w a n vs) : ∀ v ∈ vs, v.act.Ok := by
  intro v hv
  obtain ⟨j, hj, rfl⟩ := List.mem_iff_getElem.1 hv
  obtain ⟨b, off, _, hc⟩ := h.cells j (by rw [← h.len]; exact hj)
  have := (hc j (by rw [← h.len]; exact hj)).ok
  rwa [nthR_eq hj] at this
/-- the two boxes of op.Value -/
structure OV (w W : World) (b : Bool) (x : Nat) (n : Int) (s : ByteArray) : Prop where
  bl : Bl w W
  r : AC W w.heap.size [.bool false, .float .f64 0, .int .i64 0, .string ⟨#[]⟩]
  o : AC W (w.heap.size + 1) [.bool b, .float .f64 x, .int .i64 n, .string s]
theorem OV.keep {w W W' : World} {b : Bool} {x : Nat} {n : Int} {s : ByteArray} (h : OV w W b x n s) (k : Bl W W') : OV w W' b x n s := ⟨h.bl.trans k, h.r.keep k, h.o.keep k⟩
theorem OV.new (w : World) (T U : TypeId) : OV w ((w.alloc (.cells #[.bool false, .float .f64 0, .int .i64 0, .string ⟨#[]⟩] T)).alloc (.cells #[.bool false, .float .f64 0, .int .i64 0, .string ⟨#[]⟩] U)) false 0 0 ⟨#[]⟩ :=
  ⟨((Bl.refl w).alloc _).alloc _, (AC.new w _ rfl [.bool false, .float .f64 0, .int .i64 0, .string ⟨#[]⟩] T).keep ((Bl.refl _).alloc _), AC.new _ (w.heap.size + 1) (by simp) [.bool false, .float .f64 0, .int .i64 0, .string ⟨#[]⟩] U⟩
theorem OV.set {w W : World} {b : Bool} {x : Nat} {n : Int} {s : ByteArray} (h : OV w W b x n s) (b' : Bool) (x' : Nat) (n' : Int) (s' : ByteArray) :
    OV w ((((W.setCell ⟨w.heap.size + 1, 0, none⟩ (.bool b')).setCell ⟨w.heap.size + 1, 1, none⟩ (.float .f64 x')).setCell ⟨w.heap.size + 1, 2, none⟩ (.int .i64 n')).setCell ⟨w.heap.size + 1, 3, none⟩ (.string s')) b' x' n' s' :=
  ⟨h.bl.store4 (Nat.le_succ _) _ _ _ _, h.r.other4 (by omega) _ _ _ _, h.o.set4 _ _ _ _⟩

set_option maxHeartbeats 3200000 in
set_option maxRecDepth 100000 in
theorem value_num (key : ByteArray) (a : Option Addr) (n ca : Nat) (vs : List VerL) (w : World) (hkey : key.size ≤ 140737488351232) (hreg : regB key = false) (hv : VA w a n vs) :
    Calls Tryz.prog 47 #[.string key, .slice a n ca] w fun e w' => e = .returned (ValL.v (outL key vs)) ∧ Bl w w' := by
  have hsf := store_float
  have HL := Lib.hid hv.len
  have HOK := Lib.hid hv.oks
  have hcap := hv.cap
  have HR := Lib.hid hreg
  clear hreg
  go_enter Tryz.func47, Tryz.ntmps47
  go_wp2_with fail
  have G0 := OV.new w 51 51
  go_loopw [6, 11] (fun p i wr => ∃ k : Nat, k ≤ n ∧ p = .pointer none ∧ i = .int .i64 k ∧ OV w wr (outL key (vs.take k)).there (outL key (vs.take k)).x (outL key (vs.take k)).n (outL key (vs.take k)).s) (fun _ i _ => n - (intOf i).toNat)
  case atStart => exact ⟨0, Nat.zero_le _, rfl, rfl, G0⟩
  case round =>
    clear G0
    obtain ⟨k, hk, rfl, rfl, G⟩ := hrel
    by_cases hlt : k < n
    · obtain ⟨b, off, rfl, hc⟩ := hv.cells k hlt
      have E := (hc k hlt).keep G.bl
      clear hc
      have HS := Lib.hid (take_nthR (vs := vs) (k := k) (by rw [HL.out]; exact hlt))
      have HA := Lib.hid E.ok
      have HO := Lib.hid (outL_ok (key := key) (vs := vs.take k) (fun v hv => HOK.out v (List.mem_of_mem_take hv)))
      generalize hV : nthR vs k = V at *
      obtain ⟨O, hQ⟩ : ∃ O, outL key (vs.take k) = O := ⟨_, rfl⟩
      rw [hQ] at G HO
      have HQ := Lib.hid hQ
      clear hQ
      have e4 := E.c4
      have e5 := E.c5
      have e6 := E.c6
      have e7 := E.c7
      clear E
      obtain ⟨vk, va, vo, vt, ⟨k1, x1, n1, s1⟩⟩ := V
      obtain ⟨ob, ox, on, oz⟩ := O
      simp only at e4 e5 e6 e7
      obtain ⟨f, hf⟩ : ∃ f, fitsB key ⟨k1, x1, n1, s1⟩ = f := ⟨_, rfl⟩
      have HF := Lib.hid hf
      clear hf
      go_wp2_with fail
      refine (fits_agg key k1 x1 n1 s1 f _ HF hkey HA).mono ?_
      rintro e w2 ⟨rfl, hb2⟩
      have G := G.keep hb2
      replace e4 := hb2.cell e4
      replace e5 := hb2.cell e5
      replace e6 := hb2.cell e6
      replace e7 := hb2.cell e7
      clear hb2
      cases f
      · have HN : Hid (afterL key ⟨ob, ox, on, oz⟩ ⟨k1, x1, n1, s1⟩ = ⟨ob, ox, on, oz⟩) := Lib.hid (by unfold afterL; rw [HF.out]; rfl)
        go_wp2_with fail
        go_roundw
        case rel => exact ⟨k + 1, by omega, rfl, by go_num, by rw [HS.out, outL_snoc]; show OV w w2 _ _ _ _; rw [HQ.out, HN.out]; exact G⟩
        case measure => simp [intOf]; omega
      · go_wp2_with fail
        refine (registers_any key _ hkey).mono ?_
        rintro e w3 ⟨rfl, rfl⟩
        rw [HR.out]
        obtain ⟨o0, o1, o2, o3⟩ := G.o.val
        go_wp2_with fail
        obtain ⟨wd, hwd⟩ : ∃ wd, wd = w2.drew := ⟨_, rfl⟩
        have G := G.keep (show Bl w2 wd by rw [hwd]; exact (Bl.refl w2).drew)
        go_still_tail 6, (by kernel_rfl)
        change wpList _ _ _ _ _ w2.drew
        rw [← hwd]
        clear hwd o0 o1 o2 o3 e4 e5 e6 e7
        obtain ⟨R, hR⟩ : ∃ R, afterL key ⟨ob, ox, on, oz⟩ ⟨k1, x1, n1, s1⟩ = R := ⟨_, rfl⟩
        obtain ⟨rb, rx, rn, rz⟩ := R
        have HRR := Lib.hid hR
        clear hR
        go_wp2_with fail
        refine (after_agg key ob ox on oz k1 x1 n1 s1 rb rx rn rz _ HRR hkey HO HA).mono ?_
        rintro e w4 ⟨rfl, hb4⟩
        have G := G.keep hb4
        obtain ⟨o0, o1, o2, o3⟩ := G.o.val
        have f0 := G.o.frozen
        go_wp2_with fail
        go_roundw
        case rel => exact ⟨k + 1, by omega, rfl, by go_num, by rw [HS.out, outL_snoc]; show OV w _ _ _ _ _; rw [HQ.out, HRR.out]; exact G.set _ _ _ _⟩
        case measure => simp [intOf]; omega
    · have hE : vs.take k = vs := List.take_of_length_le (by have := HL.out; omega)
      rw [hE] at G
      have HO := Lib.hid (outL_ok (key := key) HOK.out)
      obtain ⟨O, hQ⟩ : ∃ O, outL key vs = O := ⟨_, rfl⟩
      rw [hQ] at G HO
      have HQ := Lib.hid hQ
      clear hQ
      obtain ⟨ob, ox, on, oz⟩ := O
      simp only at G
      obtain ⟨o0, o1, o2, o3⟩ := G.o.val
      obtain ⟨r0, r1, r2, r3⟩ := G.r.val
      have fr := G.r.frozen
      clear hE
      go_wp2_with fail
      have R := G.r.set4 (.bool ob) (.float .f64 ox) (.int .i64 on) (.string oz)
      obtain ⟨d0, d1, d2, d3⟩ := R.val
      refine bodyPost_ret (v := .agg #[.bool ob, .float .f64 ox, .int .i64 on, .string oz]) (by simp [results, Tryz.results47, go_sem, d0, d1, d2, d3]) rfl ⟨by rw [HQ.out]; rfl, G.bl.store4 (Nat.le_refl _) _ _ _ _⟩
end Go.Proofs.YtfjjnffifnohkaaGreat
end

/- op.Value of registers, and of every key. By an AI agent. -/
section
namespace Go.Proofs.YtfjjnffifnohkaaGreat
open Go.RowKit
attribute [local go_sem] eOp eOper eUpon

/-- which of two versions stays -/
def stepL (key : ByteArray) (last : Option VerL) (v : VerL) : Option VerL :=
  if fitsB key v.act then (match last with
    | none => some v
    | some u => if orderL v u < 0 then some v else some u) else last
def lastL (key : ByteArray) (vs : List VerL) : Option VerL := vs.foldl (stepL key) none
theorem lastL_snoc (key : ByteArray) (vs : List VerL) (v : VerL) : lastL key (vs ++ [v]) = stepL key (lastL key vs) v := by simp [lastL]
def ofLast (key : ByteArray) : Option VerL → ValL
  | none => noVal
  | some u => afterL key noVal u.act
/-- op.Value -/
def valueL (key : ByteArray) (vs : List VerL) : ValL := if regB key then ofLast key (lastL key vs) else outL key vs
/-- where the last version lies -/
def PL (a : Option Addr) (n : Nat) (vs : List VerL) (last : Option VerL) (p : Value) : Prop :=
  match last with
  | none => p = .pointer none
  | some u => ∃ b off j, a = some ⟨b, off, none⟩ ∧ j < n ∧ p = .pointer (some ⟨b, off + j * 8, none⟩) ∧ nthR vs j = u
theorem order_ver (V U : VerL) (a a2 : Option Addr) (n n2 ca ca2 : Nat) (w : World) (hx : IA w a n V.at_) (hy : IA w a2 n2 U.at_) :
    Calls Tryz.prog 138 #[.agg #[.string V.key, .slice a n ca, .int .i64 V.origin, .int .i64 V.tx, .int .i64 V.act.k, .float .f64 V.act.x, .int .i64 V.act.n, .string V.act.s], .agg #[.string U.key, .slice a2 n2 ca2, .int .i64 U.origin, .int .i64 U.tx, .int .i64 U.act.k, .float .f64 U.act.x, .int .i64 U.act.n, .string U.act.s]] w fun e w' => e = .returned (.int .i64 (orderL V U)) ∧ Bl w w' := by
  refine order_any V.key a n ca V.at_ V.origin V.tx V.act.k V.act.x V.act.n V.act.s U.key a2 n2 ca2 U.at_ U.origin U.tx U.act.k U.act.x U.act.n U.act.s _ _ _ _ _ _ _ _ w hx hy (Lib.hid rfl) (Lib.hid rfl) (Lib.hid rfl) (Lib.hid rfl) (Lib.hid rfl) (Lib.hid rfl) (Lib.hid rfl) (Lib.hid ?_)
  unfold orderL
  rw [hx.len, hy.len]
/-- the facts of one element, in every later world -/
theorem VE.all {W : World} {b off : Nat} {v : VerL} {a : Option Addr} {n ca : Nat} (h : VE W b off v) (h1 : W.cell? ⟨b, off + 1, none⟩ = some (.slice a n ca)) :
    (∀ m : Ext W, m.at.cell? ⟨b, off, none⟩ = some (.string v.key)) ∧ (∀ m : Ext W, m.at.cell? ⟨b, off + 1, none⟩ = some (.slice a n ca)) ∧ (∀ m : Ext W, m.at.cell? ⟨b, off + 2, none⟩ = some (.int .i64 v.origin)) ∧ (∀ m : Ext W, m.at.cell? ⟨b, off + 3, none⟩ = some (.int .i64 v.tx)) ∧
    (∀ m : Ext W, m.at.cell? ⟨b, off + 4, none⟩ = some (.int .i64 v.act.k)) ∧ (∀ m : Ext W, m.at.cell? ⟨b, off + 5, none⟩ = some (.float .f64 v.act.x)) ∧ (∀ m : Ext W, m.at.cell? ⟨b, off + 6, none⟩ = some (.int .i64 v.act.n)) ∧ (∀ m : Ext W, m.at.cell? ⟨b, off + 7, none⟩ = some (.string v.act.s)) :=
  ⟨fun m => (h.keep m.bl).c0, fun m => m.bl.cell h1, fun m => (h.keep m.bl).c2, fun m => (h.keep m.bl).c3, fun m => (h.keep m.bl).c4, fun m => (h.keep m.bl).c5, fun m => (h.keep m.bl).c6, fun m => (h.keep m.bl).c7⟩

set_option maxHeartbeats 6400000 in
set_option maxRecDepth 100000 in
theorem value_reg (key : ByteArray) (a : Option Addr) (n ca : Nat) (vs : List VerL) (w : World) (hkey : key.size ≤ 140737488351232) (hreg : regB key = true) (hv : VA w a n vs) :
    Calls Tryz.prog 47 #[.string key, .slice a n ca] w fun e w' => e = .returned (ValL.v (ofLast key (lastL key vs))) ∧ Bl w w' := by
  have hsf := store_float
  have HL := Lib.hid hv.len
  have hcap := hv.cap
  have HR := Lib.hid hreg
  clear hreg
  go_enter Tryz.func47, Tryz.ntmps47
  go_wp2_with fail
  have G0 := OV.new w 51 51
  go_loopw [6, 11] (fun p i wr => ∃ k : Nat, k ≤ n ∧ PL a n vs (lastL key (vs.take k)) p ∧ i = .int .i64 k ∧ OV w wr false 0 0 ⟨#[]⟩) (fun _ i _ => n - (intOf i).toNat)
  case atStart => exact ⟨0, Nat.zero_le _, rfl, rfl, G0⟩
  case round =>
    clear G0
    obtain ⟨k, hk, hp, rfl, G⟩ := hrel
    obtain ⟨last, hQ⟩ : ∃ last, lastL key (vs.take k) = last := ⟨_, rfl⟩
    rw [hQ] at hp
    have HQ := Lib.hid hQ
    clear hQ
    by_cases hlt : k < n
    · obtain ⟨b, off, rfl, hc⟩ := hv.cells k hlt
      have E := (hc k hlt).keep G.bl
      have HC := Lib.hid hc
      clear hc
      have HS := Lib.hid (take_nthR (vs := vs) (k := k) (by rw [HL.out]; exact hlt))
      have HA := Lib.hid E.ok
      obtain ⟨V, hV⟩ : ∃ V, nthR vs k = V := ⟨_, rfl⟩
      rw [hV] at E HS HA
      have HV := Lib.hid hV
      clear hV
      have e4 := E.c4
      have e5 := E.c5
      have e6 := E.c6
      have e7 := E.c7
      obtain ⟨f, hf⟩ : ∃ f, fitsB key ⟨V.act.k, V.act.x, V.act.n, V.act.s⟩ = f := ⟨_, rfl⟩
      have HF := Lib.hid hf
      clear hf
      go_wp2_with fail
      refine (fits_agg key V.act.k V.act.x V.act.n V.act.s f _ HF hkey HA).mono ?_
      rintro e w2 ⟨rfl, hb2⟩
      have G := G.keep hb2
      have E := E.keep hb2
      clear hb2 e4 e5 e6 e7
      cases f
      · have HN : Hid (stepL key last V = last) := Lib.hid (by unfold stepL; rw [show fitsB key V.act = false from HF.out]; rfl)
        go_wp2_with fail
        go_roundw
        case rel => exact ⟨k + 1, by omega, by rw [HS.out, lastL_snoc, HQ.out, HN.out]; exact hp, by go_num, G⟩
        case measure => simp [intOf]; omega
      · go_wp2_with fail
        refine (registers_any key _ hkey).mono ?_
        rintro e w3 ⟨rfl, rfl⟩
        rw [HR.out]
        cases last with
        | none =>
          have hp0 : u6 = .pointer none := hp
          subst hp0
          have HN : Hid (stepL key none V = some V) := Lib.hid (by unfold stepL; rw [show fitsB key V.act = true from HF.out]; rfl)
          go_wp2_with fail
          refine wp_region_allS (by kernel_rfl) (by kernel_rfl) ?_
          have G1 := G.keep ((Bl.refl w2).drew)
          clear G E
          generalize w2.drew = W at *
          repeat (refine wpS_step (fun K hK => ?_); go_simp; refine hK _ ?_; clear hK K)
          refine wpS_nil ?_
          intro m
          have G2 := G1.keep m.bl
          generalize ExtC.at m = W9 at *
          go_wp2_with fail
          go_roundw
          case rel => exact ⟨k + 1, by omega, by rw [HS.out, lastL_snoc, HQ.out, HN.out]; exact ⟨b, off, k, rfl, hlt, rfl, HV.out⟩, by go_num, G2⟩
          case measure => simp [intOf]; omega
        | some U =>
          obtain ⟨b', off', j, e', hj, rfl, hU⟩ := hp
          simp only [Option.some.injEq, Addr.mk.injEq] at e'
          obtain ⟨rfl, rfl, _⟩ := e'
          have E2 := (HC.out j hj).keep G.bl
          rw [hU] at E2
          go_wp2_with fail
          refine wp_region_allS (by kernel_rfl) (by kernel_rfl) ?_
          have G1 := G.keep ((Bl.refl w2).drew)
          have E := E.keep ((Bl.refl w2).drew)
          have E2 := E2.keep ((Bl.refl w2).drew)
          clear G
          generalize w2.drew = W at *
          obtain ⟨va, vn, vc, v1, vI⟩ := E.at_
          obtain ⟨ua, un, uc, u1', uI⟩ := E2.at_
          obtain ⟨p0, p1, p2, p3, p4, p5, p6, p7⟩ := E.all v1
          obtain ⟨q0, q1, q2, q3, q4, q5, q6, q7⟩ := E2.all u1'
          clear E E2 v1 u1'
          have hO : ∀ m : Ext W, _ := fun m => order_ver V U va ua vn un vc uc m.at (vI.keep m.bl) (uI.keep m.bl)
          have HO := Lib.hid hO
          obtain ⟨c, hc0⟩ : ∃ c, orderL V U = c := ⟨_, rfl⟩
          rw [hc0] at HO
          have HC0 := Lib.hid hc0
          clear hO hc0 vI uI
          repeat (refine wpS_step (fun K hK => ?_); go_simp; first | (refine hK _ ?_; clear hK K) | (apply Exists.intro; refine ⟨fun m => ?_, hK _ ?_⟩; (exact HO.out m); clear hK K))
          clear p0 p1 p2 p3 p4 p5 p6 p7 q0 q1 q2 q3 q4 q5 q6 q7
          by_cases hlt0 : c < 0
          · have HN : Hid (stepL key (some U) V = some V) := Lib.hid (by unfold stepL; rw [show fitsB key V.act = true from HF.out]; show (if orderL V U < 0 then _ else _) = _; rw [HC0.out, if_pos hlt0])
            refine wpS_nil ?_
            intro m
            have G2 := G1.keep m.bl
            generalize ExtC.at m = W9 at *
            go_wp2_with fail
            go_roundw
            case rel => exact ⟨k + 1, by omega, by rw [HS.out, lastL_snoc, HQ.out, HN.out]; exact ⟨b, off, k, rfl, hlt, rfl, HV.out⟩, by go_num, G2⟩
            case measure => simp [intOf]; omega
          · have HN : Hid (stepL key (some U) V = some U) := Lib.hid (by unfold stepL; rw [show fitsB key V.act = true from HF.out]; show (if orderL V U < 0 then _ else _) = _; rw [HC0.out, if_neg hlt0])
            refine wpS_nil ?_
            intro m
            have G2 := G1.keep m.bl
            generalize ExtC.at m = W9 at *
            go_wp2_with fail
            go_roundw
            case rel => exact ⟨k + 1, by omega, by rw [HS.out, lastL_snoc, HQ.out, HN.out]; exact ⟨b, off, j, rfl, hj, rfl, hU⟩, by go_num, G2⟩
            case measure => simp [intOf]; omega
    · have hE : vs.take k = vs := List.take_of_length_le (by have := HL.out; omega)
      rw [hE] at HQ
      clear hE
      cases last with
      | none =>
        have hp0 : u6 = .pointer none := hp
        subst hp0
        obtain ⟨o0, o1, o2, o3⟩ := G.o.val
        obtain ⟨r0, r1, r2, r3⟩ := G.r.val
        have fr := G.r.frozen
        go_wp2_with fail
        have R := G.r.set4 (.bool false) (.float .f64 0) (.int .i64 0) (.string ⟨#[]⟩)
        obtain ⟨d0, d1, d2, d3⟩ := R.val
        refine bodyPost_ret (v := .agg #[.bool false, .float .f64 0, .int .i64 0, .string ⟨#[]⟩]) (by simp [results, Tryz.results47, go_sem, d0, d1, d2, d3]) rfl ⟨by rw [HQ.out]; rfl, G.bl.store4 (Nat.le_refl _) _ _ _ _⟩
      | some U =>
        obtain ⟨b, off, j, rfl, hj, rfl, hU⟩ := hp
        obtain ⟨b', off', e', hc⟩ := hv.cells j hj
        simp only [Option.some.injEq, Addr.mk.injEq] at e'
        obtain ⟨rfl, rfl, _⟩ := e'
        have E := (hc j hj).keep G.bl
        rw [hU] at E
        clear hc
        have HA := Lib.hid E.ok
        have e4 := E.c4
        have e5 := E.c5
        have e6 := E.c6
        have e7 := E.c7
        obtain ⟨R, hR⟩ : ∃ R, afterL key noVal U.act = R := ⟨_, rfl⟩
        obtain ⟨rb, rx, rn, rz⟩ := R
        have HRR : Hid (afterL key ⟨false, 0, 0, nilS⟩ ⟨U.act.k, U.act.x, U.act.n, U.act.s⟩ = ⟨rb, rx, rn, rz⟩) := Lib.hid hR
        clear hR
        go_wp2_with fail
        refine (after_agg key false 0 0 nilS U.act.k U.act.x U.act.n U.act.s rb rx rn rz _ HRR hkey (Lib.hid noVal_ok) HA).mono ?_
        rintro e w4 ⟨rfl, hb4⟩
        have G := G.keep hb4
        clear e4 e5 e6 e7
        obtain ⟨r0, r1, r2, r3⟩ := G.r.val
        have fr := G.r.frozen
        go_wp2_with fail
        have R := G.r.set4 (.bool rb) (.float .f64 rx) (.int .i64 rn) (.string rz)
        obtain ⟨d0, d1, d2, d3⟩ := R.val
        refine bodyPost_ret (v := .agg #[.bool rb, .float .f64 rx, .int .i64 rn, .string rz]) (by simp [results, Tryz.results47, go_sem, d0, d1, d2, d3]) rfl ⟨by rw [HQ.out]; show _ = Ending.returned (ValL.v (afterL key noVal U.act)); rw [show afterL key noVal U.act = ⟨rb, rx, rn, rz⟩ from HRR.out]; rfl, G.bl.store4 (Nat.le_refl _) _ _ _ _⟩
theorem value_any (key : ByteArray) (a : Option Addr) (n ca : Nat) (vs : List VerL) (w : World) (hkey : key.size ≤ 140737488351232) (hv : VA w a n vs) :
    Calls Tryz.prog 47 #[.string key, .slice a n ca] w fun e w' => e = .returned (ValL.v (valueL key vs)) ∧ Bl w w' := by
  unfold valueL
  cases h : regB key
  · exact value_num key a n ca vs w hkey h hv
  · exact value_reg key a n ca vs w hkey h hv
end Go.Proofs.YtfjjnffifnohkaaGreat
end

/- Slices of versions that a call makes: append(nil, l...) and append(.., v). By an AI agent. -/
section
namespace Go.Proofs.YtfjjnffifnohkaaGreat
open Go.RowKit

theorem add_none (b off j : Nat) : (⟨b, off, none⟩ : Addr).add j = ⟨b, off + j, none⟩ := by
  unfold Addr.add; split <;> simp_all
theorem info_ver : (Tryz.prog.info? 59).map (fun i => (i.zero.map (fun z => z.cells.size), i.size, i.bytes)) = some (some 8, 8, 96) := by kernel_rfl
theorem info_ver' : ∃ i z, Tryz.prog.info? 59 = some i ∧ i.zero = some z ∧ i.size = 8 ∧ i.bytes = 96 ∧ z.cells.size = 8 := by
  have h := info_ver
  cases hi : Tryz.prog.info? 59 with
  | none => rw [hi] at h; cases h
  | some i =>
    rw [hi] at h
    simp only [Option.map_some, Option.some.injEq, Prod.mk.injEq] at h
    obtain ⟨h1, h2, h3⟩ := h
    cases hz : i.zero with
    | none => rw [hz] at h1; cases h1
    | some z =>
      rw [hz] at h1
      simp only [Option.map_some, Option.some.injEq] at h1
      exact ⟨i, z, rfl, hz, h2, h3, h1⟩

/-- the cells of a slice of versions -/
structure SC (w : World) (a : Option Addr) (n : Nat) (cs : List Value) : Prop where
  len : cs.length = n * 8
  at_ : ∀ b off, a = some ⟨b, off, none⟩ → ∀ j u, cs[j]? = some u → w.cell? ⟨b, off + j, none⟩ = some u
  nil : a = none → n = 0
  plain : ∀ b off s, a = some ⟨b, off, s⟩ → 0 < n → s = none
  one : ∀ u ∈ cs, u.oneCell' = true
theorem SC.keep {w w' : World} {a : Option Addr} {n : Nat} {cs : List Value} (h : SC w a n cs) (hb : Bl w w') : SC w' a n cs :=
  ⟨h.len, fun b off e j u hu => hb.cell (h.at_ b off e j u hu), h.nil, h.plain, h.one⟩

/-- an own slice of versions -/
def OVS (B : Nat) (w : World) (v : Value) (n : Nat) (cs : List Value) : Prop := w.ownsRow B 59 8 v n cs
theorem OVS.keep {B n : Nat} {w w' : World} {v : Value} {cs : List Value} (h : OVS B w v n cs) (hb : Bl w w') : OVS B w' v n cs := ownsRow_bl h hb
theorem OVS.cells {B n : Nat} {w : World} {v : Value} {cs : List Value} (h : OVS B w v n cs) (hn : 0 < n) : ∃ g ca, v = .slice (some ⟨g, 0, none⟩) n ca ∧ B ≤ g ∧ g < w.heap.size ∧ ∀ j u, cs[j]? = some u → w.cell? ⟨g, j, none⟩ = some u := by
  have h' := h
  obtain ⟨h1, ⟨_, h2⟩ | ⟨g, cap, cur, rfl, hB, hg, _⟩⟩ := h'
  · omega
  · refine ⟨g, cap, rfl, hB, lt_of_heap hg, fun j u hu => ?_⟩
    have := World.ownsRow.cells h (g := g) rfl j u hu
    rwa [add_none, Nat.zero_add] at this

theorem AC.grown {w w' : World} {g : Nat} {cs : List Value} {row : Option Nat} (h : AC w g cs) (hg : w.grownBy w' row) (hne : some g ≠ row) : AC w' g cs := by
  obtain ⟨t, h⟩ := h
  exact ⟨t, by rw [hg.block g (lt_of_heap h) hne]; exact h⟩
theorem Bl.grownRow {B : Nat} {w0 w w' : World} {v : Value} {n : Nat} {cs : List Value} (hb : Bl w0 w) (ho : OVS B w v n cs) (hB : w0.heap.size ≤ B) (hg : w.grownBy w' v.ownBlock) : Bl w0 w' :=
  Below.grown hb hg hb.size (fun k hk => Nat.le_trans hB (World.ownsRow.lt ho k hk).1)

section
variable {ops : Array Oper}
theorem wpList_app2 {rest : List Oper} {o : Oper} {a : Act} {w : World} {Q : Exit → Act → World → Prop} (hgd : o.guard = none) (s x : Operand)
    (ho : o.op = .call { callee := .builtin .append, args := #[s, x], argTypes := #[22, 22] }) (B : Nat) (v : Value) (n : Nat) (cs : List Value) (hs : a.eval s = v) (hown : OVS B w v n cs) (hB : B ≤ w.heap.size) (hn : n ≤ 1000)
    (j : Nat) (news : List Value) (hx : a.eval x = .slice (some ⟨j, 0, none⟩) 1 1) (hj : AC w j news) (hl : news.length = 8) (h1 : ∀ u ∈ news, u.oneCell' = true)
    (h : ∀ v' w', OVS B w' v' (n + 1) (cs ++ news) → w.grownBy w' v.ownBlock → wpList Tryz.prog ops Q rest (a.put o.dst v') w') : wpList Tryz.prog ops Q (o :: rest) a w := by
  obtain ⟨ti, z, hi, hz, g1, g2, g3⟩ := info_ver'
  refine wpList_append_own w hgd s x _ ho B 59 ti z 8 96 Tryz.underlying22 hi hz g1 g2 g3 (by decide) v n cs hs hown ⟨j, 0, none⟩ 1 1 news hx (by rw [hl]) ?_ h1 (by unfold maxLen; omega) (by omega) hB ?_
  · intro k u hu
    rw [add_none, Nat.zero_add]
    exact hj.cell k u hu
  · intro v' w' ho2 hgr _
    exact h v' w' ho2 hgr
end
end Go.Proofs.YtfjjnffifnohkaaGreat
end

/- OpLatest in plain Lean: of a register that version counts whose time is the greatest. By an AI agent. -/
section
namespace Go.Proofs.YtfjjnffifnohkaaGreat
open Go.RowKit

theorem step_mem {key : ByteArray} {last : Option VerL} {v u : VerL} (h : stepL key last v = some u) : u = v ∨ last = some u := by
  unfold stepL at h
  split at h
  · cases last with
    | none => exact .inl (Option.some.inj h).symm
    | some x =>
      simp only at h
      split at h
      · exact .inl (Option.some.inj h).symm
      · exact .inr h
  · exact .inr h
theorem fold_mem {key : ByteArray} {u : VerL} : ∀ (vs : List VerL) (last : Option VerL), vs.foldl (stepL key) last = some u → u ∈ vs ∨ last = some u
  | [], _, h => .inr h
  | v :: vs, last, h => by
    rcases fold_mem vs _ h with h1 | h1
    · exact .inl (by simp [h1])
    · rcases step_mem h1 with rfl | h2
      · exact .inl (by simp)
      · exact .inr h2
theorem last_mem {key : ByteArray} {vs : List VerL} {u : VerL} (h : lastL key vs = some u) : u ∈ vs := by
  rcases fold_mem vs none h with h1 | h1
  · exact h1
  · cases h1
end Go.Proofs.YtfjjnffifnohkaaGreat
end
