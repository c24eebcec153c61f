/- op.Value of keys whose acts add up. By an AI agent. -/
import Derived.Test.YtgdlcoicejgdkaaDoorVer2
import Derived.Test.YtgdlcoicejgdkaaDoorTog0
import Derived.StillTailTactics
namespace Go.Proofs.YtgdlcoicejgdkaaDoor
open Go.RowKit
attribute [local go_sem] eOp eOper eUpon

def noVer : VerL := ⟨nilS, [], 0, 0, ⟨0, 0, 0, nilS⟩⟩
def nthR (vs : List VerL) (j : Nat) : VerL := (vs[j]?).getD noVer
theorem nthR_eq {vs : List VerL} {j : Nat} (h : j < vs.length) : nthR vs j = vs[j] := by simp [nthR, h]
theorem take_nthR {vs : List VerL} {k : Nat} (h : k < vs.length) : vs.take (k + 1) = vs.take k ++ [nthR vs k] := by
  rw [nthR_eq h]; exact List.take_succ_eq_append_getElem h
/-- one element of a slice of versions: its eight cells -/
structure VE (w : World) (b off : Nat) (v : VerL) : Prop where
  c0 : w.cell? ⟨b, off, none⟩ = some (.string v.key)
  at_ : ∃ a n ca, w.cell? ⟨b, off + 1, none⟩ = some (.slice a n ca) ∧ IA w a n v.at_
  c2 : w.cell? ⟨b, off + 2, none⟩ = some (.int .i64 v.origin)
  c3 : w.cell? ⟨b, off + 3, none⟩ = some (.int .i64 v.tx)
  c4 : w.cell? ⟨b, off + 4, none⟩ = some (.int .i64 v.act.k)
  c5 : w.cell? ⟨b, off + 5, none⟩ = some (.float .f64 v.act.x)
  c6 : w.cell? ⟨b, off + 6, none⟩ = some (.int .i64 v.act.n)
  c7 : w.cell? ⟨b, off + 7, none⟩ = some (.string v.act.s)
  ok : v.act.Ok
theorem VE.keep {w w' : World} {b off : Nat} {v : VerL} (h : VE w b off v) (k : Bl w w') : VE w' b off v := by
  obtain ⟨a, n, ca, h1, h2⟩ := h.at_
  exact ⟨k.cell h.c0, ⟨a, n, ca, k.cell h1, h2.keep k⟩, k.cell h.c2, k.cell h.c3, k.cell h.c4, k.cell h.c5, k.cell h.c6, k.cell h.c7, h.ok⟩
/-- a slice of n versions at a reads as vs -/
structure VA (w : World) (a : Option Addr) (n : Nat) (vs : List VerL) : Prop where
  len : vs.length = n
  cap : n ≤ 140737488351232
  cells : ∀ j, j < n → ∃ b off, a = some ⟨b, off, none⟩ ∧ ∀ j, j < n → VE w b (off + j * 8) (nthR vs j)
theorem VA.keep {w w' : World} {a : Option Addr} {n : Nat} {vs : List VerL} (h : VA w a n vs) (hb : Bl w w') : VA w' a n vs :=
  ⟨h.len, h.cap, fun j hj => by
    obtain ⟨b, off, e, hc⟩ := h.cells j hj
    exact ⟨b, off, e, fun j hj => (hc j hj).keep hb⟩⟩

/-- what a key has that adds up -/
def outL (key : ByteArray) (vs : List VerL) : ValL := vs.foldl (fun o v => afterL key o v.act) noVal
theorem outL_snoc (key : ByteArray) (vs : List VerL) (v : VerL) : outL key (vs ++ [v]) = afterL key (outL key vs) v.act := by simp [outL]
theorem outL_ok {key : ByteArray} {vs : List VerL} (h : ∀ v ∈ vs, v.act.Ok) : (outL key vs).Ok := by
  unfold outL
  suffices ∀ (vs : List VerL) (o : ValL), o.Ok → (∀ v ∈ vs, v.act.Ok) → (vs.foldl (fun o v => afterL key o v.act) o).Ok from this vs _ noVal_ok h
  intro vs
  induction vs with
  | nil => intro o ho _; exact ho
  | cons v vs ih =>
    intro o ho h
    exact ih _ (after_ok ho (h v (by simp))) (fun u hu => h u (by simp [hu]))
theorem VA.oks {w : World} {a : Option Addr} {n : Nat} {vs : List VerL} (h : VA w a n vs) : ∀ v ∈ vs, v.act.Ok := by
  intro v hv
  obtain ⟨j, hj, rfl⟩ := List.mem_iff_getElem.1 hv
  obtain ⟨b, off, _, hc⟩ := h.cells j (by rw [← h.len]; exact hj)
  have := (hc j (by rw [← h.len]; exact hj)).ok
  rwa [nthR_eq hj] at this
/-- the two boxes of op.Value -/
structure OV (w W : World) (b : Bool) (x : Nat) (n : Int) (s : ByteArray) : Prop where
  bl : Bl w W
  r : AC W w.heap.size [.bool false, .float .f64 0, .int .i64 0, .string ⟨#[]⟩]
  o : AC W (w.heap.size + 1) [.bool b, .float .f64 x, .int .i64 n, .string s]
theorem OV.keep {w W W' : World} {b : Bool} {x : Nat} {n : Int} {s : ByteArray} (h : OV w W b x n s) (k : Bl W W') : OV w W' b x n s := ⟨h.bl.trans k, h.r.keep k, h.o.keep k⟩
theorem OV.new (w : World) (T U : TypeId) : OV w ((w.alloc (.cells #[.bool false, .float .f64 0, .int .i64 0, .string ⟨#[]⟩] T)).alloc (.cells #[.bool false, .float .f64 0, .int .i64 0, .string ⟨#[]⟩] U)) false 0 0 ⟨#[]⟩ :=
  ⟨((Bl.refl w).alloc _).alloc _, (AC.new w _ rfl [.bool false, .float .f64 0, .int .i64 0, .string ⟨#[]⟩] T).keep ((Bl.refl _).alloc _), AC.new _ (w.heap.size + 1) (by simp) [.bool false, .float .f64 0, .int .i64 0, .string ⟨#[]⟩] U⟩
theorem OV.set {w W : World} {b : Bool} {x : Nat} {n : Int} {s : ByteArray} (h : OV w W b x n s) (b' : Bool) (x' : Nat) (n' : Int) (s' : ByteArray) :
    OV w ((((W.setCell ⟨w.heap.size + 1, 0, none⟩ (.bool b')).setCell ⟨w.heap.size + 1, 1, none⟩ (.float .f64 x')).setCell ⟨w.heap.size + 1, 2, none⟩ (.int .i64 n')).setCell ⟨w.heap.size + 1, 3, none⟩ (.string s')) b' x' n' s' :=
  ⟨h.bl.store4 (Nat.le_succ _) _ _ _ _, h.r.other4 (by omega) _ _ _ _, h.o.set4 _ _ _ _⟩

set_option maxHeartbeats 3200000 in
set_option maxRecDepth 100000 in
theorem value_num (key : ByteArray) (a : Option Addr) (n ca : Nat) (vs : List VerL) (w : World) (hkey : key.size ≤ 140737488351232) (hreg : regB key = false) (hv : VA w a n vs) :
    Calls Tryd.prog 15 #[.string key, .slice a n ca] w fun e w' => e = .returned (ValL.v (outL key vs)) ∧ Bl w w' := by
  have hsf := store_float
  have HL := Lib.hid hv.len
  have HOK := Lib.hid hv.oks
  have hcap := hv.cap
  have HR := Lib.hid hreg
  clear hreg
  go_enter Tryd.func15, Tryd.ntmps15
  go_wp2_with fail
  have G0 := OV.new w 34 34
  go_loopw [6, 11] (fun p i wr => ∃ k : Nat, k ≤ n ∧ p = .pointer none ∧ i = .int .i64 k ∧ OV w wr (outL key (vs.take k)).there (outL key (vs.take k)).x (outL key (vs.take k)).n (outL key (vs.take k)).s) (fun _ i _ => n - (intOf i).toNat)
  case atStart => exact ⟨0, Nat.zero_le _, rfl, rfl, G0⟩
  case round =>
    clear G0
    obtain ⟨k, hk, rfl, rfl, G⟩ := hrel
    by_cases hlt : k < n
    · obtain ⟨b, off, rfl, hc⟩ := hv.cells k hlt
      have E := (hc k hlt).keep G.bl
      clear hc
      have HS := Lib.hid (take_nthR (vs := vs) (k := k) (by rw [HL.out]; exact hlt))
      have HA := Lib.hid E.ok
      have HO := Lib.hid (outL_ok (key := key) (vs := vs.take k) (fun v hv => HOK.out v (List.mem_of_mem_take hv)))
      generalize hV : nthR vs k = V at *
      obtain ⟨O, hQ⟩ : ∃ O, outL key (vs.take k) = O := ⟨_, rfl⟩
      rw [hQ] at G HO
      have HQ := Lib.hid hQ
      clear hQ
      have e4 := E.c4
      have e5 := E.c5
      have e6 := E.c6
      have e7 := E.c7
      clear E
      obtain ⟨vk, va, vo, vt, ⟨k1, x1, n1, s1⟩⟩ := V
      obtain ⟨ob, ox, on, oz⟩ := O
      simp only at e4 e5 e6 e7
      obtain ⟨f, hf⟩ : ∃ f, fitsB key ⟨k1, x1, n1, s1⟩ = f := ⟨_, rfl⟩
      have HF := Lib.hid hf
      clear hf
      go_wp2_with fail
      refine (fits_agg key k1 x1 n1 s1 f _ HF hkey HA).mono ?_
      rintro e w2 ⟨rfl, hb2⟩
      have G := G.keep hb2
      replace e4 := hb2.cell e4
      replace e5 := hb2.cell e5
      replace e6 := hb2.cell e6
      replace e7 := hb2.cell e7
      clear hb2
      cases f
      · have HN : Hid (afterL key ⟨ob, ox, on, oz⟩ ⟨k1, x1, n1, s1⟩ = ⟨ob, ox, on, oz⟩) := Lib.hid (by unfold afterL; rw [HF.out]; rfl)
        go_wp2_with fail
        go_roundw
        case rel => exact ⟨k + 1, by omega, rfl, by go_num, by rw [HS.out, outL_snoc]; show OV w w2 _ _ _ _; rw [HQ.out, HN.out]; exact G⟩
        case measure => simp [intOf]; omega
      · go_wp2_with fail
        refine (registers_any key _ hkey).mono ?_
        rintro e w3 ⟨rfl, rfl⟩
        rw [HR.out]
        obtain ⟨o0, o1, o2, o3⟩ := G.o.val
        go_wp2_with fail
        obtain ⟨wd, hwd⟩ : ∃ wd, wd = w2.drew := ⟨_, rfl⟩
        have G := G.keep (show Bl w2 wd by rw [hwd]; exact (Bl.refl w2).drew)
        go_still_tail 6, (by kernel_rfl)
        change wpList _ _ _ _ _ w2.drew
        rw [← hwd]
        clear hwd o0 o1 o2 o3 e4 e5 e6 e7
        obtain ⟨R, hR⟩ : ∃ R, afterL key ⟨ob, ox, on, oz⟩ ⟨k1, x1, n1, s1⟩ = R := ⟨_, rfl⟩
        obtain ⟨rb, rx, rn, rz⟩ := R
        have HRR := Lib.hid hR
        clear hR
        go_wp2_with fail
        refine (after_agg key ob ox on oz k1 x1 n1 s1 rb rx rn rz _ HRR hkey HO HA).mono ?_
        rintro e w4 ⟨rfl, hb4⟩
        have G := G.keep hb4
        obtain ⟨o0, o1, o2, o3⟩ := G.o.val
        have f0 := G.o.frozen
        go_wp2_with fail
        go_roundw
        case rel => exact ⟨k + 1, by omega, rfl, by go_num, by rw [HS.out, outL_snoc]; show OV w _ _ _ _ _; rw [HQ.out, HRR.out]; exact G.set _ _ _ _⟩
        case measure => simp [intOf]; omega
    · have hE : vs.take k = vs := List.take_of_length_le (by have := HL.out; omega)
      rw [hE] at G
      have HO := Lib.hid (outL_ok (key := key) HOK.out)
      obtain ⟨O, hQ⟩ : ∃ O, outL key vs = O := ⟨_, rfl⟩
      rw [hQ] at G HO
      have HQ := Lib.hid hQ
      clear hQ
      obtain ⟨ob, ox, on, oz⟩ := O
      simp only at G
      obtain ⟨o0, o1, o2, o3⟩ := G.o.val
      obtain ⟨r0, r1, r2, r3⟩ := G.r.val
      have fr := G.r.frozen
      clear hE
      go_wp2_with fail
      have R := G.r.set4 (.bool ob) (.float .f64 ox) (.int .i64 on) (.string oz)
      obtain ⟨d0, d1, d2, d3⟩ := R.val
      refine bodyPost_ret (v := .agg #[.bool ob, .float .f64 ox, .int .i64 on, .string oz]) (by simp [results, Tryd.results15, go_sem, d0, d1, d2, d3]) rfl ⟨by rw [HQ.out]; rfl, G.bl.store4 (Nat.le_refl _) _ _ _ _⟩
end Go.Proofs.YtgdlcoicejgdkaaDoor
