import Derived.Test.YtginbjcpcgphgaaCore5
import Derived.Test.YtginbjcpcgphgaaCore8
import Derived.Test.YtginbjcpcgphgaaCore4
import Derived.StillTailTactics
import Derived.Test.YtginbjcpcgphgaaCore7
import Derived.Deep.RegionHeld

/- op.Value of keys whose acts add up. By an AI agent. -/
section
namespace Go.Proofs.Ytginbjcpcgphgaa
open Go.RowKit
attribute [local go_sem] eOp eOper eUpon

def noVer : VerL := ⟨nilS, [], 0, 0, ⟨0, 0, 0, nilS⟩⟩
def nthR (vs : List VerL) (j : Nat) : VerL := (vs[j]?).getD noVer
theorem nthR_eq {vs : List VerL} {j : Nat} (h : j < vs.length) : nthR vs j = vs[j] := by simp [nthR, h]
theorem take_nthR {vs : List VerL} {k : Nat} (h : k < vs.length) : vs.take (k + 1) = vs.take k ++ [nthR vs k] := by
  rw [nthR_eq h]; exact List.take_succ_eq_append_getElem h
/-- one element of a slice of versions: its eight cells -/
structure VE (w : World) (b off : Nat) (v : VerL) : Prop where
  c0 : w.cell? ⟨b, off, none⟩ = some (.string v.key)
  at_ : ∃ a n ca, w.cell? ⟨b, off + 1, none⟩ = some (.slice a n ca) ∧ IA w a n v.at_
  c2 : w.cell? ⟨b, off + 2, none⟩ = some (.int .i64 v.origin)
  c3 : w.cell? ⟨b, off + 3, none⟩ = some (.int .i64 v.tx)
  c4 : w.cell? ⟨b, off + 4, none⟩ = some (.int .i64 v.act.k)
  c5 : w.cell? ⟨b, off + 5, none⟩ = some (.float .f64 v.act.x)
  c6 : w.cell? ⟨b, off + 6, none⟩ = some (.int .i64 v.act.n)
  c7 : w.cell? ⟨b, off + 7, none⟩ = some (.string v.act.s)
  ok : v.act.Ok
theorem VE.keep {w w' : World} {b off : Nat} {v : VerL} (h : VE w b off v) (k : Bl w w') : VE w' b off v := by
  obtain ⟨a, n, ca, h1, h2⟩ := h.at_
  exact ⟨k.cell h.c0, ⟨a, n, ca, k.cell h1, h2.keep k⟩, k.cell h.c2, k.cell h.c3, k.cell h.c4, k.cell h.c5, k.cell h.c6, k.cell h.c7, h.ok⟩
/-- a slice of n versions at a reads as vs -/
structure VA (w : World) (a : Option Addr) (n : Nat) (vs : List VerL) : Prop where
  len : vs.length = n
  cap : n ≤ 140737488351232
  cells : ∀ j, j < n → ∃ b off, a = some ⟨b, off, none⟩ ∧ ∀ j, j < n → VE w b (off + j * 8) (nthR vs j)
theorem VA.keep {w w' : World} {a : Option Addr} {n : Nat} {vs : List VerL} (h : VA w a n vs) (hb : Bl w w') : VA w' a n vs :=
  ⟨h.len, h.cap, fun j hj => by
    obtain ⟨b, off, e, hc⟩ := h.cells j hj
    exact ⟨b, off, e, fun j hj => (hc j hj).keep hb⟩⟩

/-- what a key has that adds up -/
def outL (key : ByteArray) (vs : List VerL) : ValL := vs.foldl (fun o v => afterL key o v.act) noVal
theorem outL_snoc (key : ByteArray) (vs : List VerL) (v : VerL) : outL key (vs ++ [v]) = afterL key (outL key vs) v.act := by simp [outL]
theorem outL_ok {key : ByteArray} {vs : List VerL} (h : ∀ v ∈ vs, v.act.Ok) : (outL key vs).Ok := by
  unfold outL
  suffices ∀ (vs : List VerL) (o : ValL), o.Ok → (∀ v ∈ vs, v.act.Ok) → (vs.foldl (fun o v => afterL key o v.act) o).Ok from this vs _ noVal_ok h
  intro vs
  induction vs with
  | nil => intro o ho _; exact ho
  | cons v vs ih =>
    intro o ho h
    exact ih _ (after_ok ho (h v (by simp))) (fun u hu => h u (by simp [hu]))
theorem VA.oks {w : World} {a : Option Addr} {n : Nat} {vs : List VerL} (h : VA w a n vs) : ∀ v ∈ vs, v.act.Ok := by
  intro v hv
  obtain ⟨j, hj, rfl⟩ := List.mem_iff_getElem.1 hv
  obtain ⟨b, off, _, hc⟩ := h.cells j (by rw [← h.len]; exact hj)
  have := (hc j (by rw [← h.len]; exact hj)).ok
  rwa [nthR_eq hj] at this
/-- the two boxes of op.Value -/
structure OV (w W : World) (b : Bool) (x : Nat) (n : Int) (s : ByteArray) : Prop where
  bl : Bl w W
  r : AC W w.heap.size [.bool false, .float .f64 0, .int .i64 0, .string ⟨#[]⟩]
  o : AC W (w.heap.size + 1) [.bool b, .float .f64 x, .int .i64 n, .string s]
theorem OV.keep {w W W' : World} {b : Bool} {x : Nat} {n : Int} {s : ByteArray} (h : OV w W b x n s) (k : Bl W W') : OV w W' b x n s := ⟨h.bl.trans k, h.r.keep k, h.o.keep k⟩
theorem OV.new (w : World) (T U : TypeId) : OV w ((w.alloc (.cells #[.bool false, .float .f64 0, .int .i64 0, .string ⟨#[]⟩] T)).alloc (.cells #[.bool false, .float .f64 0, .int .i64 0, .string ⟨#[]⟩] U)) false 0 0 ⟨#[]⟩ :=
  ⟨((Bl.refl w).alloc _).alloc _, (AC.new w _ rfl [.bool false, .float .f64 0, .int .i64 0, .string ⟨#[]⟩] T).keep ((Bl.refl _).alloc _), AC.new _ (w.heap.size + 1) (by simp) [.bool false, .float .f64 0, .int .i64 0, .string ⟨#[]⟩] U⟩
theorem OV.set {w W : World} {b : Bool} {x : Nat} {n : Int} {s : ByteArray} (h : OV w W b x n s) (b' : Bool) (x' : Nat) (n' : Int) (s' : ByteArray) :
    OV w ((((W.setCell ⟨w.heap.size + 1, 0, none⟩ (.bool b')).setCell ⟨w.heap.size + 1, 1, none⟩ (.float .f64 x')).setCell ⟨w.heap.size + 1, 2, none⟩ (.int .i64 n')).setCell ⟨w.heap.size + 1, 3, none⟩ (.string s')) b' x' n' s' :=
  ⟨h.bl.store4 (Nat.le_succ _) _ _ _ _, h.r.other4 (by omega) _ _ _ _, h.o.set4 _ _ _ _⟩

set_option maxHeartbeats 3200000 in
set_option maxRecDepth 100000 in
theorem value_num (key : ByteArray) (a : Option Addr) (n ca : Nat) (vs : List VerL) (w : World) (hkey : key.size ≤ 140737488351232) (hreg : regB key = false) (hv : VA w a n vs) :
    Calls Try.prog 30 #[.string key, .slice a n ca] w fun e w' => e = .returned (ValL.v (outL key vs)) ∧ Bl w w' := by
  have hsf := store_float
  have HL := Lib.hid hv.len
  have HOK := Lib.hid hv.oks
  have hcap := hv.cap
  have HR := Lib.hid hreg
  clear hreg
  go_enter Try.func30, Try.ntmps30
  go_wp2_with fail
  have G0 := OV.new w 38 38
  go_loopw [6, 11] (fun p i wr => ∃ k : Nat, k ≤ n ∧ p = .pointer none ∧ i = .int .i64 k ∧ OV w wr (outL key (vs.take k)).there (outL key (vs.take k)).x (outL key (vs.take k)).n (outL key (vs.take k)).s) (fun _ i _ => n - (intOf i).toNat)
  case atStart => exact ⟨0, Nat.zero_le _, rfl, rfl, G0⟩
  case round =>
    clear G0
    obtain ⟨k, hk, rfl, rfl, G⟩ := hrel
    by_cases hlt : k < n
    · obtain ⟨b, off, rfl, hc⟩ := hv.cells k hlt
      have E := (hc k hlt).keep G.bl
      clear hc
      have HS := Lib.hid (take_nthR (vs := vs) (k := k) (by rw [HL.out]; exact hlt))
      have HA := Lib.hid E.ok
      have HO := Lib.hid (outL_ok (key := key) (vs := vs.take k) (fun v hv => HOK.out v (List.mem_of_mem_take hv)))
      generalize hV : nthR vs k = V at *
      obtain ⟨O, hQ⟩ : ∃ O, outL key (vs.take k) = O := ⟨_, rfl⟩
      rw [hQ] at G HO
      have HQ := Lib.hid hQ
      clear hQ
      have e4 := E.c4
      have e5 := E.c5
      have e6 := E.c6
      have e7 := E.c7
      clear E
      obtain ⟨vk, va, vo, vt, ⟨k1, x1, n1, s1⟩⟩ := V
      obtain ⟨ob, ox, on, oz⟩ := O
      simp only at e4 e5 e6 e7
      obtain ⟨f, hf⟩ : ∃ f, fitsB key ⟨k1, x1, n1, s1⟩ = f := ⟨_, rfl⟩
      have HF := Lib.hid hf
      clear hf
      go_wp2_with fail
      refine (fits_agg key k1 x1 n1 s1 f _ HF hkey HA).mono ?_
      rintro e w2 ⟨rfl, hb2⟩
      have G := G.keep hb2
      replace e4 := hb2.cell e4
      replace e5 := hb2.cell e5
      replace e6 := hb2.cell e6
      replace e7 := hb2.cell e7
      clear hb2
      cases f
      · have HN : Hid (afterL key ⟨ob, ox, on, oz⟩ ⟨k1, x1, n1, s1⟩ = ⟨ob, ox, on, oz⟩) := Lib.hid (by unfold afterL; rw [HF.out]; rfl)
        go_wp2_with fail
        go_roundw
        case rel => exact ⟨k + 1, by omega, rfl, by go_num, by rw [HS.out, outL_snoc]; show OV w w2 _ _ _ _; rw [HQ.out, HN.out]; exact G⟩
        case measure => simp [intOf]; omega
      · go_wp2_with fail
        refine (registers_any key _ hkey).mono ?_
        rintro e w3 ⟨rfl, rfl⟩
        rw [HR.out]
        obtain ⟨o0, o1, o2, o3⟩ := G.o.val
        go_wp2_with fail
        obtain ⟨wd, hwd⟩ : ∃ wd, wd = w2.drew := ⟨_, rfl⟩
        have G := G.keep (show Bl w2 wd by rw [hwd]; exact (Bl.refl w2).drew)
        go_still_tail 6, (by kernel_rfl)
        change wpList _ _ _ _ _ w2.drew
        rw [← hwd]
        clear hwd o0 o1 o2 o3 e4 e5 e6 e7
        obtain ⟨R, hR⟩ : ∃ R, afterL key ⟨ob, ox, on, oz⟩ ⟨k1, x1, n1, s1⟩ = R := ⟨_, rfl⟩
        obtain ⟨rb, rx, rn, rz⟩ := R
        have HRR := Lib.hid hR
        clear hR
        go_wp2_with fail
        refine (after_agg key ob ox on oz k1 x1 n1 s1 rb rx rn rz _ HRR hkey HO HA).mono ?_
        rintro e w4 ⟨rfl, hb4⟩
        have G := G.keep hb4
        obtain ⟨o0, o1, o2, o3⟩ := G.o.val
        have f0 := G.o.frozen
        go_wp2_with fail
        go_roundw
        case rel => exact ⟨k + 1, by omega, rfl, by go_num, by rw [HS.out, outL_snoc]; show OV w _ _ _ _ _; rw [HQ.out, HRR.out]; exact G.set _ _ _ _⟩
        case measure => simp [intOf]; omega
    · have hE : vs.take k = vs := List.take_of_length_le (by have := HL.out; omega)
      rw [hE] at G
      have HO := Lib.hid (outL_ok (key := key) HOK.out)
      obtain ⟨O, hQ⟩ : ∃ O, outL key vs = O := ⟨_, rfl⟩
      rw [hQ] at G HO
      have HQ := Lib.hid hQ
      clear hQ
      obtain ⟨ob, ox, on, oz⟩ := O
      simp only at G
      obtain ⟨o0, o1, o2, o3⟩ := G.o.val
      obtain ⟨r0, r1, r2, r3⟩ := G.r.val
      have fr := G.r.frozen
      clear hE
      go_wp2_with fail
      have R := G.r.set4 (.bool ob) (.float .f64 ox) (.int .i64 on) (.string oz)
      obtain ⟨d0, d1, d2, d3⟩ := R.val
      refine bodyPost_ret (v := .agg #[.bool ob, .float .f64 ox, .int .i64 on, .string oz]) (by simp [results, Try.results30, go_sem, d0, d1, d2, d3]) rfl ⟨by rw [HQ.out]; rfl, G.bl.store4 (Nat.le_refl _) _ _ _ _⟩
end Go.Proofs.Ytginbjcpcgphgaa
end

/- rows of versions that are sorted in place. By an AI agent. -/
section
set_option linter.unusedVariables false
set_option linter.unusedSimpArgs false
namespace Go.Proofs.Ytginbjcpcgphgaa
open Go.RowKit

theorem AC.putj {w : World} {g : Nat} {cs : List Value} (h : AC w g cs) (j : Nat) (v : Value) : AC (w.setCell ⟨g, j, none⟩ v) g (cs.set j v) := by
  obtain ⟨t, h⟩ := h
  exact ⟨t, by rw [heap_setCell_same w g j _ t v h]; simp⟩
/-- a version and where its list lies -/
structure VC where
  key : ByteArray
  ad : Option Addr
  n : Nat
  ca : Nat
  at_ : List Int
  origin : Int
  tx : Int
  act : ActL
instance : Inhabited VC := ⟨⟨nilS, none, 0, 0, [], 0, 0, ⟨0, 0, 0, nilS⟩⟩⟩
def VC.ver (v : VC) : VerL := ⟨v.key, v.at_, v.origin, v.tx, v.act⟩
def VC.cs (v : VC) : List Value := verC v.key v.ad v.n v.ca v.origin v.tx v.act.k v.act.x v.act.n v.act.s
theorem VC.cs_len (v : VC) : v.cs.length = 8 := rfl
def flat (xs : List VC) : List Value := xs.flatMap VC.cs
theorem flat_cons (v : VC) (xs : List VC) : flat (v :: xs) = v.cs ++ flat xs := by unfold flat; rw [List.flatMap_cons]
theorem flat_len : ∀ xs : List VC, (flat xs).length = xs.length * 8
  | [] => rfl
  | v :: xs => by rw [flat_cons, List.length_append, flat_len xs, VC.cs_len, List.length_cons]; omega
theorem flat_get : ∀ (xs : List VC) (j r : Nat), j < xs.length → r < 8 → (flat xs)[j * 8 + r]? = (el xs j).cs[r]?
  | v :: xs, 0, r, _, hr => by rw [flat_cons, List.getElem?_append_left (by rw [VC.cs_len]; omega), Nat.zero_mul, Nat.zero_add]; rfl
  | v :: xs, j + 1, r, hj, hr => by
    rw [flat_cons, List.getElem?_append_right (by rw [VC.cs_len]; omega), VC.cs_len, show (j + 1) * 8 + r - 8 = j * 8 + r by omega, flat_get xs j r (by simpa using hj) hr]
    rfl
def set8 (L : List Value) (o : Nat) (v : VC) : List Value :=
  (((((((L.set o (.string v.key)).set (o + 1) (.slice v.ad v.n v.ca)).set (o + 2) (.int .i64 v.origin)).set (o + 3) (.int .i64 v.tx)).set (o + 4) (.int .i64 v.act.k)).set (o + 5) (.float .f64 v.act.x)).set (o + 6) (.int .i64 v.act.n)).set (o + 7) (.string v.act.s)
theorem set8_len (L : List Value) (o : Nat) (v : VC) : (set8 L o v).length = L.length := by simp [set8]
theorem set8_out {L : List Value} {o i : Nat} (v : VC) (h : i < o ∨ o + 8 ≤ i) : (set8 L o v)[i]? = L[i]? := by
  unfold set8
  rw [List.getElem?_set_ne (by omega), List.getElem?_set_ne (by omega), List.getElem?_set_ne (by omega), List.getElem?_set_ne (by omega), List.getElem?_set_ne (by omega), List.getElem?_set_ne (by omega), List.getElem?_set_ne (by omega), List.getElem?_set_ne (by omega)]
theorem set8_in {L : List Value} {o r : Nat} (v : VC) (hr : r < 8) (h : o + 8 ≤ L.length) : (set8 L o v)[o + r]? = v.cs[r]? := by
  unfold set8
  match r, hr with
  | 0, _ => rw [List.getElem?_set_ne (by omega), List.getElem?_set_ne (by omega), List.getElem?_set_ne (by omega), List.getElem?_set_ne (by omega), List.getElem?_set_ne (by omega), List.getElem?_set_ne (by omega), List.getElem?_set_ne (by omega), Nat.add_zero, List.getElem?_set_self (by omega)]; rfl
  | 1, _ => rw [List.getElem?_set_ne (by omega), List.getElem?_set_ne (by omega), List.getElem?_set_ne (by omega), List.getElem?_set_ne (by omega), List.getElem?_set_ne (by omega), List.getElem?_set_ne (by omega), List.getElem?_set_self (by simp; omega)]; rfl
  | 2, _ => rw [List.getElem?_set_ne (by omega), List.getElem?_set_ne (by omega), List.getElem?_set_ne (by omega), List.getElem?_set_ne (by omega), List.getElem?_set_ne (by omega), List.getElem?_set_self (by simp; omega)]; rfl
  | 3, _ => rw [List.getElem?_set_ne (by omega), List.getElem?_set_ne (by omega), List.getElem?_set_ne (by omega), List.getElem?_set_ne (by omega), List.getElem?_set_self (by simp; omega)]; rfl
  | 4, _ => rw [List.getElem?_set_ne (by omega), List.getElem?_set_ne (by omega), List.getElem?_set_ne (by omega), List.getElem?_set_self (by simp; omega)]; rfl
  | 5, _ => rw [List.getElem?_set_ne (by omega), List.getElem?_set_ne (by omega), List.getElem?_set_self (by simp; omega)]; rfl
  | 6, _ => rw [List.getElem?_set_ne (by omega), List.getElem?_set_self (by simp; omega)]; rfl
  | 7, _ => rw [List.getElem?_set_self (by simp; omega)]; rfl
theorem el_set {xs : List VC} {j : Nat} (hj : j < xs.length) (v : VC) (i : Nat) : el (xs.set j v) i = if i = j then v else el xs i := by
  unfold el
  split
  · subst i; rw [List.getElem?_set_self hj]; rfl
  · rw [List.getElem?_set_ne (by omega)]
theorem set8_flat {xs : List VC} (sp : List Value) {j : Nat} (hj : j < xs.length) (v : VC) : set8 (flat xs ++ sp) (j * 8) v = flat (xs.set j v) ++ sp := by
  have hl := flat_len xs
  have hl2 := flat_len (xs.set j v)
  rw [List.length_set] at hl2
  refine List.ext_getElem? (fun i => ?_)
  by_cases h1 : j * 8 ≤ i ∧ i < j * 8 + 8
  · obtain ⟨r, rfl⟩ : ∃ r, i = j * 8 + r := ⟨i - j * 8, by omega⟩
    rw [set8_in v (by omega) (by rw [List.length_append]; omega), List.getElem?_append_left (by omega), flat_get _ _ _ (by rw [List.length_set]; exact hj) (by omega), el_set hj, if_pos rfl]
  · rw [set8_out v (by omega)]
    by_cases h2 : i < xs.length * 8
    · obtain ⟨k, r, hk, rfl⟩ : ∃ k r, r < 8 ∧ i = k * 8 + r := ⟨i / 8, i % 8, by omega, by omega⟩
      rw [List.getElem?_append_left (by omega), List.getElem?_append_left (by omega), flat_get _ _ _ (by omega) hk, flat_get _ _ _ (by rw [List.length_set]; omega) hk, el_set hj, if_neg (by omega)]
    · rw [List.getElem?_append_right (by omega), List.getElem?_append_right (by omega), hl, hl2]

/-- a version's list is what it says, and lies not in the row itself -/
structure VOk (W : World) (g : Nat) (v : VC) : Prop where
  ia : IA W v.ad v.n v.at_
  ok : v.act.Ok
  far : v.n = 0 ∨ ∀ b off, v.ad = some ⟨b, off, none⟩ → b ≠ g
theorem VOk.keep {W W' : World} {g : Nat} {v : VC} (h : VOk W g v) (hb : Bl W W') : VOk W' g v := ⟨h.ia.keep hb, h.ok, h.far⟩
theorem VOk.set {W : World} {g : Nat} {v : VC} (h : VOk W g v) (j : Nat) (u : Value) : VOk (W.setCell ⟨g, j, none⟩ u) g v := by
  refine ⟨⟨h.ia.len, h.ia.cap, fun i hi => ?_, h.ia.wf⟩, h.ok, h.far⟩
  obtain ⟨b, off, e, hc⟩ := h.ia.cells i hi
  refine ⟨b, off, e, fun k hk => ?_⟩
  have hne : b ≠ g := by
    rcases h.far with q | q
    · omega
    · exact q b off e
  rw [World.cell?_setCell_far _ _ _ _ (show g ≠ b from fun q => hne q.symm)]
  exact hc k hk
/-- the row at g holds xs -/
structure RW (w W : World) (g : Nat) (xs : List VC) : Prop where
  bl : Bl w W
  new : w.heap.size ≤ g
  row : ∃ sp, AC W g (flat xs ++ sp)
  ok : ∀ v ∈ xs, VOk W g v
theorem RW.keep {w W W' : World} {g : Nat} {xs : List VC} (h : RW w W g xs) (hb : Bl W W') : RW w W' g xs := by
  obtain ⟨sp, hr⟩ := h.row
  exact ⟨h.bl.trans hb, h.new, ⟨sp, hr.keep hb⟩, fun v hv => (h.ok v hv).keep hb⟩
theorem RW.cells {w W : World} {g : Nat} {xs : List VC} (h : RW w W g xs) {j : Nat} (hj : j < xs.length) :
    W.cell? ⟨g, j * 8, none⟩ = some (.string (el xs j).key) ∧ W.cell? ⟨g, j * 8 + 1, none⟩ = some (.slice (el xs j).ad (el xs j).n (el xs j).ca) ∧ W.cell? ⟨g, j * 8 + 2, none⟩ = some (.int .i64 (el xs j).origin) ∧ W.cell? ⟨g, j * 8 + 3, none⟩ = some (.int .i64 (el xs j).tx) ∧
    W.cell? ⟨g, j * 8 + 4, none⟩ = some (.int .i64 (el xs j).act.k) ∧ W.cell? ⟨g, j * 8 + 5, none⟩ = some (.float .f64 (el xs j).act.x) ∧ W.cell? ⟨g, j * 8 + 6, none⟩ = some (.int .i64 (el xs j).act.n) ∧ W.cell? ⟨g, j * 8 + 7, none⟩ = some (.string (el xs j).act.s) := by
  obtain ⟨sp, hr⟩ := h.row
  have key : ∀ r v, r < 8 → (el xs j).cs[r]? = some v → W.cell? ⟨g, j * 8 + r, none⟩ = some v := fun r v h8 hv => hr.cell (j * 8 + r) v (by rw [List.getElem?_append_left (by rw [flat_len]; omega), flat_get xs j r hj h8]; exact hv)
  exact ⟨key 0 _ (by decide) rfl, key 1 _ (by decide) rfl, key 2 _ (by decide) rfl, key 3 _ (by decide) rfl, key 4 _ (by decide) rfl, key 5 _ (by decide) rfl, key 6 _ (by decide) rfl, key 7 _ (by decide) rfl⟩
theorem RW.at8 {w W : World} {g : Nat} {xs : List VC} (h : RW w W g xs) {j : Nat} (hj : j < xs.length) {x : VC} (hx : el xs j = x) :
    W.cell? ⟨g, j * 8, none⟩ = some (.string x.key) ∧ W.cell? ⟨g, j * 8 + 1, none⟩ = some (.slice x.ad x.n x.ca) ∧ W.cell? ⟨g, j * 8 + 2, none⟩ = some (.int .i64 x.origin) ∧ W.cell? ⟨g, j * 8 + 3, none⟩ = some (.int .i64 x.tx) ∧
    W.cell? ⟨g, j * 8 + 4, none⟩ = some (.int .i64 x.act.k) ∧ W.cell? ⟨g, j * 8 + 5, none⟩ = some (.float .f64 x.act.x) ∧ W.cell? ⟨g, j * 8 + 6, none⟩ = some (.int .i64 x.act.n) ∧ W.cell? ⟨g, j * 8 + 7, none⟩ = some (.string x.act.s) := by
  subst hx; exact h.cells hj
/-- the facts of one element, in every later world -/
theorem RW.all8 {w Z : World} {g : Nat} {xs : List VC} (h : RW w Z g xs) {j : Nat} (hj : j < xs.length) {x : VC} (hx : el xs j = x) :
    (∀ q : Ext Z, q.at.cell? ⟨g, j * 8, none⟩ = some (.string x.key)) ∧ (∀ q : Ext Z, q.at.cell? ⟨g, j * 8 + 1, none⟩ = some (.slice x.ad x.n x.ca)) ∧ (∀ q : Ext Z, q.at.cell? ⟨g, j * 8 + 2, none⟩ = some (.int .i64 x.origin)) ∧ (∀ q : Ext Z, q.at.cell? ⟨g, j * 8 + 3, none⟩ = some (.int .i64 x.tx)) ∧
    (∀ q : Ext Z, q.at.cell? ⟨g, j * 8 + 4, none⟩ = some (.int .i64 x.act.k)) ∧ (∀ q : Ext Z, q.at.cell? ⟨g, j * 8 + 5, none⟩ = some (.float .f64 x.act.x)) ∧ (∀ q : Ext Z, q.at.cell? ⟨g, j * 8 + 6, none⟩ = some (.int .i64 x.act.n)) ∧ (∀ q : Ext Z, q.at.cell? ⟨g, j * 8 + 7, none⟩ = some (.string x.act.s)) := by
  have k := fun q : Ext Z => (h.keep q.bl).at8 hj hx
  exact ⟨fun q => (k q).1, fun q => (k q).2.1, fun q => (k q).2.2.1, fun q => (k q).2.2.2.1, fun q => (k q).2.2.2.2.1, fun q => (k q).2.2.2.2.2.1, fun q => (k q).2.2.2.2.2.2.1, fun q => (k q).2.2.2.2.2.2.2⟩
theorem RW.frozen {w W : World} {g : Nat} {xs : List VC} (h : RW w W g xs) (j : Nat) : W.frozen? ⟨g, j, none⟩ = false := by
  obtain ⟨sp, hr⟩ := h.row
  exact hr.frozen j
/-- eight cells that are written -/
def st8 (W : World) (g o : Nat) (v : VC) : World :=
  (((((((W.setCell ⟨g, o, none⟩ (.string v.key)).setCell ⟨g, o + 1, none⟩ (.slice v.ad v.n v.ca)).setCell ⟨g, o + 2, none⟩ (.int .i64 v.origin)).setCell ⟨g, o + 3, none⟩ (.int .i64 v.tx)).setCell ⟨g, o + 4, none⟩ (.int .i64 v.act.k)).setCell ⟨g, o + 5, none⟩ (.float .f64 v.act.x)).setCell ⟨g, o + 6, none⟩ (.int .i64 v.act.n)).setCell ⟨g, o + 7, none⟩ (.string v.act.s)
theorem AC.st8 {W : World} {g : Nat} {L : List Value} (h : AC W g L) (o : Nat) (v : VC) : AC (st8 W g o v) g (set8 L o v) :=
  (((((((h.putj o _).putj (o + 1) _).putj (o + 2) _).putj (o + 3) _).putj (o + 4) _).putj (o + 5) _).putj (o + 6) _).putj (o + 7) _
theorem Bl.st8 {w W : World} (h : Bl w W) {g : Nat} (hg : w.heap.size ≤ g) (o : Nat) (v : VC) : Bl w (st8 W g o v) :=
  Below.setCell (p := ⟨g, o + 7, none⟩) (Below.setCell (p := ⟨g, o + 6, none⟩) (Below.setCell (p := ⟨g, o + 5, none⟩) (Below.setCell (p := ⟨g, o + 4, none⟩) (Below.setCell (p := ⟨g, o + 3, none⟩) (Below.setCell (p := ⟨g, o + 2, none⟩) (Below.setCell (p := ⟨g, o + 1, none⟩) (Below.setCell (p := ⟨g, o, none⟩) h hg _) hg _) hg _) hg _) hg _) hg _) hg _) hg _
theorem VOk.st8 {W : World} {g : Nat} {v : VC} (h : VOk W g v) (o : Nat) (u : VC) : VOk (st8 W g o u) g v :=
  (((((((h.set o _).set (o + 1) _).set (o + 2) _).set (o + 3) _).set (o + 4) _).set (o + 5) _).set (o + 6) _).set (o + 7) _
theorem RW.st8 {w W : World} {g : Nat} {xs : List VC} (h : RW w W g xs) {j : Nat} (hj : j < xs.length) {v : VC} (hv : VOk W g v) : RW w (st8 W g (j * 8) v) g (xs.set j v) := by
  obtain ⟨sp, hr⟩ := h.row
  refine ⟨h.bl.st8 h.new _ _, h.new, ⟨sp, by rw [← set8_flat sp hj v]; exact hr.st8 _ _⟩, fun u hu => ?_⟩
  rcases List.mem_or_eq_of_mem_set hu with q | q
  · exact (h.ok u q).st8 _ _
  · subst q; exact hv.st8 _ _
theorem RW.at_ {w W : World} {g : Nat} {xs : List VC} (h : RW w W g xs) {j : Nat} (hj : j < xs.length) : VOk W g (el xs j) := h.ok _ (el_mem hj)
/-- two elements changed for each other -/
def swp (xs : List VC) (i j : Nat) : List VC := (xs.set i (el xs j)).set j (el xs i)
theorem swp_len (xs : List VC) (i j : Nat) : (swp xs i j).length = xs.length := by simp [swp]
theorem swp_mid (P M Q : List VC) (a b : VC) : swp (P ++ (a :: (M ++ (b :: Q)))) P.length (P.length + (M.length + 1)) = P ++ (b :: (M ++ (a :: Q))) := by
  have e1 : el (P ++ (a :: (M ++ (b :: Q)))) P.length = a := by have := el_right P (a :: (M ++ (b :: Q))) 0; rw [Nat.add_zero] at this; rw [this]; rfl
  have e2 : el (P ++ (a :: (M ++ (b :: Q)))) (P.length + (M.length + 1)) = b := by
    rw [el_right, show (a :: (M ++ (b :: Q))) = [a] ++ (M ++ (b :: Q)) from rfl, show M.length + 1 = [a].length + M.length by simp; omega, el_right]
    have := el_right M (b :: Q) 0; rw [Nat.add_zero] at this; rw [this]; rfl
  unfold swp
  rw [e1, e2]
  rw [List.set_append_right _ _ (Nat.le_refl _), Nat.sub_self, List.set_cons_zero, List.set_append_right _ _ (Nat.le_add_right _ _), Nat.add_sub_cancel_left, List.set_cons_succ, List.set_append_right _ _ (Nat.le_refl _), Nat.sub_self, List.set_cons_zero]
theorem swp_comm (xs : List VC) {i j : Nat} (hi : i < xs.length) (hj : j < xs.length) : swp xs i j = swp xs j i := by
  by_cases e : i = j
  · subst e; rfl
  · unfold swp; rw [List.set_comm _ _ (by omega)]
end Go.Proofs.Ytginbjcpcgphgaa
end
