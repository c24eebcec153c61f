import Derived.Test.YtginbjcpcgphgaaCore1
import Derived.Below
import Derived.Test.YtginbjcpcgphgaaCore10
import Derived.Test.YtginbjcpcgphgaaCore15
import Derived.Deep.Onto

/- a frame: which blocks may turn. By an AI agent. -/
section
set_option linter.unusedVariables false
namespace Go.Proofs.Ytginbjcpcgphgaa
open Go.RowKit

/-- blocks that lay in w and are not of S are as they were -/
structure Fr (S : Nat → Prop) (w w' : World) : Prop where
  os : w'.os = w.os
  tape : w'.tape = w.tape
  output : w'.output = w.output
  size : w.heap.size ≤ w'.heap.size
  block : ∀ k, k < w.heap.size → ¬ S k → w'.heap[k]? = w.heap[k]?
theorem Fr.refl (S : Nat → Prop) (w : World) : Fr S w w := ⟨rfl, rfl, rfl, Nat.le_refl _, fun _ _ _ => rfl⟩
theorem Fr.trans {S : Nat → Prop} {a b c : World} (h : Fr S a b) (k : Fr S b c) : Fr S a c :=
  ⟨k.os.trans h.os, k.tape.trans h.tape, k.output.trans h.output, Nat.le_trans h.size k.size, fun i hi hs => (k.block i (Nat.lt_of_lt_of_le hi h.size) hs).trans (h.block i hi hs)⟩
theorem Fr.bl {S : Nat → Prop} {a b c : World} (h : Fr S a b) (k : Bl b c) : Fr S a c :=
  h.trans ⟨k.os, k.tape, k.output, k.size, fun i hi _ => k.block i hi⟩
theorem Fr.grown {S : Nat → Prop} {a b c : World} {row : Option Nat} (h : Fr S a b) (k : b.grownBy c row) (hr : ∀ i, row = some i → S i) : Fr S a c :=
  h.trans ⟨k.os, k.tape, k.output, k.size, fun i hi hs => k.block i hi (fun e => hs (hr i e.symm))⟩
theorem Fr.below {S : Nat → Prop} {w w' : World} (h : Fr S w w') {B : Nat} (hB : B ≤ w.heap.size) (hs : ∀ k, S k → B ≤ k) : Below B w w' :=
  ⟨h.os, h.tape, h.output, h.size, fun k hk => h.block k (by omega) (fun q => by have := hs k q; omega)⟩
theorem Fr.cell {S : Nat → Prop} {w w' : World} (h : Fr S w w') {p : Addr} {v : Value} (hv : w.cell? p = some v) (hs : ¬ S p.block) : w'.cell? p = some v := by
  rw [← hv]
  exact World.cell?_of_block (h.block p.block (World.block_lt_of_cell? _ _ hv) hs)
theorem Fr.ia {S : Nat → Prop} {w w' : World} (h : Fr S w w') {a : Option Addr} {n : Nat} {xs : List Int} (hl : IA w a n xs) (hs : ∀ b off, a = some ⟨b, off, none⟩ → ¬ S b) : IA w' a n xs := ⟨hl.len, hl.cap, fun j hj => by
  obtain ⟨b, off, e, hc⟩ := hl.cells j hj
  exact ⟨b, off, e, fun j hj => h.cell (hc j hj) (hs b off e)⟩, hl.wf⟩

theorem Fr.own {S : Nat → Prop} {w w' : World} (h : Fr S w w') {B : Nat} {E : TypeId} {z : Nat} {v : Value} {n : Nat} {cs : List Value} (ho : w.ownsRow B E z v n cs) (hs : ∀ b, v.ownBlock = some b → ¬ S b) : w'.ownsRow B E z v n cs := by
  obtain ⟨h1, h2 | ⟨g, cap, cur, rfl, hB, hg, r⟩⟩ := ho
  · exact ⟨h1, .inl h2⟩
  · exact ⟨h1, .inr ⟨g, cap, cur, rfl, hB, by rw [h.block g (lt_of_heap hg) (hs g rfl)]; exact hg, r⟩⟩
theorem FI.fr {S : Nat → Prop} {B : Nat} {w w' : World} {v : Value} {xs : List Int} (h : FI B w v xs) (hf : Fr S w w') (hs : ∀ b, v.ownBlock = some b → ¬ S b) : FI B w' v xs := ⟨hf.own h.own hs, h.cap, h.wf⟩
end Go.Proofs.Ytginbjcpcgphgaa
end

/- fold.copied. By an AI agent. -/
section
set_option linter.unusedVariables false
set_option linter.unusedSimpArgs false
namespace Go.Proofs.Ytginbjcpcgphgaa
open Go.RowKit

theorem Fr.setj (w : World) (g j : Nat) (u : Value) : Fr (fun b => b = g) w (w.setCell ⟨g, j, none⟩ u) := ⟨rfl, rfl, rfl, by simp, fun k hk hne => Below.heap_setCell _ _ _ _ (fun e => hne (by rw [e]))⟩
theorem Fr.st8 (w : World) (g o : Nat) (v : VC) : Fr (fun b => b = g) w (st8 w g o v) :=
  (((((((Fr.setj _ _ _ _).trans (Fr.setj _ _ _ _)).trans (Fr.setj _ _ _ _)).trans (Fr.setj _ _ _ _)).trans (Fr.setj _ _ _ _)).trans (Fr.setj _ _ _ _)).trans (Fr.setj _ _ _ _)).trans (Fr.setj _ _ _ _)
theorem copied_results {tmps : Array Value} {W : World} {g0 : Nat} {v : VC} (h0 : tmps.getD 2 undef = .pointer (some ⟨g0, 0, none⟩)) (c0 : AC W g0 v.cs) :
    (results Try.f31 tmps).run Try.prog W = .ok (.agg #[.string v.key, .slice v.ad v.n v.ca, .int .i64 v.origin, .int .i64 v.tx, .int .i64 v.act.k, .float .f64 v.act.x, .int .i64 v.act.n, .string v.act.s]) W := by
  rw [Array.getD_eq_getD_getElem?] at h0
  obtain ⟨k0, k1, k2, k3, k4, k5, k6, k7⟩ := AC.ver (key := v.key) (a := v.ad) (n := v.n) (ca := v.ca) (o := v.origin) (t := v.tx) (k := v.act.k) (x := v.act.x) (m := v.act.n) (s := v.act.s) c0
  simp [results, Try.results31, go_sem, h0, k0, k1, k2, k3, k4, k5, k6, k7]
theorem AC.otherj {w : World} {g g' : Nat} {cs : List Value} (h : AC w g cs) (hn : g ≠ g') (j : Nat) (v : Value) : AC (w.setCell ⟨g', j, none⟩ v) g cs := by
  obtain ⟨t, h⟩ := h
  exact ⟨t, by rw [Below.heap_setCell _ _ _ _ (by exact hn)]; exact h⟩
set_option maxHeartbeats 1600000 in
set_option maxRecDepth 100000 in
theorem copied_any (v : VC) (w : World) (hx : IA w v.ad v.n v.at_) :
    Calls Try.prog 31 #[.agg #[.string v.key, .slice v.ad v.n v.ca, .int .i64 v.origin, .int .i64 v.tx, .int .i64 v.act.k, .float .f64 v.act.x, .int .i64 v.act.n, .string v.act.s]] w fun e w' =>
      ∃ a n ca, e = .returned (.agg #[.string v.key, .slice a n ca, .int .i64 v.origin, .int .i64 v.tx, .int .i64 v.act.k, .float .f64 v.act.x, .int .i64 v.act.n, .string v.act.s]) ∧ FI w.heap.size w' (.slice a n ca) v.at_ ∧ Bl w w' := by
  have hsf := store_fl
  have G := (AC.new w w.heap.size rfl v.cs 35).keep ((Bl.refl _).alloc (.cells #[.string ⟨#[]⟩, .slice none 0 0, .int .i64 0, .int .i64 0, .int .i64 0, .float .f64 0, .int .i64 0, .string ⟨#[]⟩] 35))
  have G2 := AC.new (w.alloc (.cells v.cs.toArray 35)) (w.heap.size + 1) (by simp) [.string ⟨#[]⟩, .slice none 0 0, .int .i64 0, .int .i64 0, .int .i64 0, .float .f64 0, .int .i64 0, .string ⟨#[]⟩] 35
  have hb := ((Bl.refl w).alloc (.cells v.cs.toArray 35)).alloc (.cells #[.string ⟨#[]⟩, .slice none 0 0, .int .i64 0, .int .i64 0, .int .i64 0, .float .f64 0, .int .i64 0, .string ⟨#[]⟩] 35)
  have hsz : w.heap.size + 2 ≤ ((w.alloc (.cells v.cs.toArray 35)).alloc (.cells #[.string ⟨#[]⟩, .slice none 0 0, .int .i64 0, .int .i64 0, .int .i64 0, .float .f64 0, .int .i64 0, .string ⟨#[]⟩] 35)).heap.size := by simp
  unfold VC.cs verC at *
  have c1 := G.cell 1 _ rfl
  have HG := Lib.hid G
  have HG2 := Lib.hid G2
  have HB := Lib.hid hb
  have HX := Lib.hid (hx.keep hb)
  have HSZ := Lib.hid hsz
  clear G G2 hb hx hsz
  go_enter Try.func31, Try.ntmps31
  go_wp2_with fail
  generalize (w.alloc _).alloc _ = W at *
  refine (vclone_any v.ad v.n v.ca v.at_ _ HX.out).mono ?_
  rintro e w1 ⟨v1, rfl, hf, hb1⟩
  obtain ⟨a1, n1, k1, rfl, -⟩ := hf.si
  have HF := Lib.hid hf
  have G1 := HG.out.keep hb1
  have fr1 := G1.frozen
  have d1 := G1.cell 1 _ rfl
  have E := AC.putj G1 1 (.slice a1 n1 k1)
  have E2 := (HG2.out.keep hb1).otherj (g' := w.heap.size) (by omega) 1 (.slice a1 n1 k1)
  obtain ⟨e0, e1, e2, e3, e4, e5, e6, e7⟩ := AC.ver (key := v.key) (a := a1) (n := n1) (ca := k1) (o := v.origin) (t := v.tx) (k := v.act.k) (x := v.act.x) (m := v.act.n) (s := v.act.s) E
  obtain ⟨h0, h1, h2, h3, h4, h5, h6, h7⟩ := AC.ver (key := ⟨#[]⟩) (a := none) (n := 0) (ca := 0) (o := 0) (t := 0) (k := 0) (x := 0) (m := 0) (s := ⟨#[]⟩) E2
  have fr2 := E2.frozen
  have HE2 := Lib.hid E2
  have HBB := Lib.hid (HB.out.trans hb1)
  clear E E2 G1 hf hb1 c1
  go_wp2_with fail
  obtain ⟨u, hu⟩ : ∃ u : VC, u = ⟨v.key, a1, n1, k1, v.at_, v.origin, v.tx, v.act⟩ := ⟨_, rfl⟩
  have R1 : AC (st8 (w1.setCell ⟨w.heap.size, 1, none⟩ (.slice a1 n1 k1)) (w.heap.size + 1) 0 u) (w.heap.size + 1) u.cs := HE2.out.st8 0 u
  have R2 : FI w.heap.size (st8 (w1.setCell ⟨w.heap.size, 1, none⟩ (.slice a1 n1 k1)) (w.heap.size + 1) 0 u) (.slice a1 n1 k1) v.at_ := by
    have hlo := HSZ.out
    have HF2 := FI.fr (S := fun b => b = w.heap.size) HF.out (Fr.setj w1 w.heap.size 1 (.slice a1 n1 k1)) (fun b e q => by have := (World.ownsRow.lt HF.out.own b e).1; omega)
    have HF3 := FI.fr (S := fun b => b = w.heap.size + 1) HF2 (Fr.st8 _ (w.heap.size + 1) 0 u) (fun b e q => by have := (World.ownsRow.lt HF.out.own b e).1; omega)
    exact ⟨World.ownsRow.mono HF3.own (by omega), HF3.cap, HF3.wf⟩
  have R3 : Bl w (st8 (w1.setCell ⟨w.heap.size, 1, none⟩ (.slice a1 n1 k1)) (w.heap.size + 1) 0 u) := Bl.st8 (HBB.out.setCell (p := ⟨w.heap.size, 1, none⟩) (Nat.le_refl _) _) (Nat.le_succ _) 0 u
  subst hu
  exact bodyPost_ret (copied_results rfl R1) rfl ⟨a1, n1, k1, rfl, R2, R3⟩
end Go.Proofs.Ytginbjcpcgphgaa
end
