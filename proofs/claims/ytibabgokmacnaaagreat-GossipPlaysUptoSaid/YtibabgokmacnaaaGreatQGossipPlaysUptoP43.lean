import Derived.Test.YtibabgokmacnaaaGreatQGossipPlaysUptoP41
import Derived.Test.YtibabgokmacnaaaGreatQGossipPlaysUptoP42
import Derived.Test.YtibabgokmacnaaaGreatQGossipPlaysUptoP18
import Derived.Test.YtibabgokmacnaaaGreatQGossipPlaysUptoP13
import Derived.Test.YtibabgokmacnaaaGreatQGossipPlaysUptoP3
import Derived.Test.YtibabgokmacnaaaGreatQGossipPlaysUptoP33

/- GossipPlays: the state of two lots of rows and of a book. By an AI agent. -/
section
set_option linter.unusedVariables false
set_option linter.unusedSimpArgs false
namespace Go.Proofs.YtibabgokmacnaaaGreat
open Go.RowKit

/-- a call makes blocks: they are left alone by the book -/
theorem BP.frameN {B : Nat} {W W' : World} {g : Nat} {ps : List (Value × List Int)} {T : Nat → Prop} (h : BP B W g ps T) {b : Nat} (hf : Fr (fun k => k = b) W W') (hb : T b)
    (ht : ∃ cur t fz, W.heap[b]? = some (.cells cur t fz) ∧ t ≠ 3) : BP B W' g ps (TN T W W') := by
  obtain ⟨n, vv, wv, vs, us, xs, h2⟩ := h
  have k := BP.frameT ⟨n, vv, wv, vs, us, xs, h2⟩ hf hb ht
  have hsub := fun b hb => h2.sub (b := b) hb
  have hbs := (h2.t b hb).2
  have hfi : ∀ {B : Nat} {v : Value} {xs : List Int}, FI B W v xs → FI B W' v xs := fun f => f.fr hf (fun k e q => by
    subst q
    obtain ⟨cur, t, fz, h1, h2⟩ := ht
    obtain ⟨cur2, fz2, h3⟩ := f.typed e
    rw [h1] at h3
    simp only [Option.some.injEq, Obj.cells.injEq] at h3
    exact h2 h3.2.1)
  obtain ⟨t, hbox⟩ := h2.bo.box
  refine ⟨n, vv, wv, vs, us, xs, ⟨h2.bo.few, h2.bo.base, ⟨t, by rw [hf.block g (lt_of_heap hbox) (fun e => hbs (.inl e.symm))]; exact hbox⟩, hf.own h2.bo.rv (fun k e q => hbs (.inr (.inl (q ▸ e)))), hf.own h2.bo.ru (fun k e q => hbs (.inr (.inr (q ▸ e)))), fun j hj => hfi (h2.bo.fv j hj), fun j hj => hfi (h2.bo.fu j hj), h2.bo.small, h2.bo.gv, h2.bo.gu, h2.bo.vu, h2.bo.avg, h2.bo.aug, h2.bo.avv⟩, fun p hp => ⟨hfi (h2.fi p hp).1, (h2.fi p hp).2⟩, h2.ap, h2.av, h2.pw, fun k hk => ?_⟩
  rcases hk with q | q
  · exact ⟨Nat.lt_of_lt_of_le (h2.t k q).1 hf.size, (h2.t k q).2⟩
  · exact ⟨q.2, fun r => by have := hsub k r; omega⟩
/-- the vectors that are still to be kept are left alone too -/
theorem BP.pend {B : Nat} {W : World} {g : Nat} {ps : List (Value × List Int)} {T : Nat → Prop} (h : BP B W g ps T) : BP B W g ps (fun b => T b ∨ ∃ p ∈ ps, p.1.ownBlock = some b) := by
  obtain ⟨n, vv, wv, vs, us, xs, h⟩ := h
  refine ⟨n, vv, wv, vs, us, xs, h.bo, h.fi, h.ap, h.av, h.pw, fun b hb => ?_⟩
  rcases hb with q | ⟨p, hp, e⟩
  · exact h.t b q
  · exact ⟨(World.ownsRow.lt (h.fi p hp).1.own b e).2, h.ap p hp b e⟩

/-- the blocks that the book leaves alone -/
def TT (w : World) (T1 T2 : Nat → Prop) (b : Nat) : Prop := b < w.heap.size ∨ T1 b ∨ T2 b
structure PS (w W : World) (gb : Nat) (T1 T2 : Nat → Prop) (gr hr gq hq : Nat) (R Q : List (List Int)) : Prop where
  bl : Bl w W
  r : RT T1 w.heap.size W gr hr R
  q : RT T2 w.heap.size W gq hq Q
  ty : TyAt 73 W gq
  d : ∀ b, T1 b → T2 b → False
  t1 : ∀ b, T1 b → w.heap.size ≤ b ∧ b < W.heap.size
  t2 : ∀ b, T2 b → w.heap.size ≤ b ∧ b < W.heap.size
  bp : BP w.heap.size W gb [] (TT w T1 T2)
theorem PS.keep {w W W' : World} {gb : Nat} {T1 T2 : Nat → Prop} {gr hr gq hq : Nat} {R Q : List (List Int)} (h : PS w W gb T1 T2 gr hr gq hq R Q) (k : Bl W W') : PS w W' gb T1 T2 gr hr gq hq R Q :=
  ⟨h.bl.trans k, h.r.keep k, h.q.keep k, h.ty.keep k, h.d, fun b q => ⟨(h.t1 b q).1, Nat.lt_of_lt_of_le (h.t1 b q).2 k.size⟩, fun b q => ⟨(h.t2 b q).1, Nat.lt_of_lt_of_le (h.t2 b q).2 k.size⟩, h.bp.keep k⟩
/-- behind a call of the book -/
theorem PS.book {w W W' : World} {gb : Nat} {T1 T2 S : Nat → Prop} {gr hr gq hq : Nat} {R Q : List (List Int)} (h : PS w W gb T1 T2 gr hr gq hq R Q) (hf : Fr (fun b => ¬ S b) W W') (hs : ∀ b, TT w T1 T2 b → S b) (hp : BP w.heap.size W' gb [] S) : PS w W' gb T1 T2 gr hr gq hq R Q := by
  have n1 : ∀ b, T1 b → ¬ ¬ S b := fun b q => not_not_intro (hs b (.inr (.inl q)))
  have n2 : ∀ b, T2 b → ¬ ¬ S b := fun b q => not_not_intro (hs b (.inr (.inr q)))
  exact ⟨h.bl.fr hf (fun b q => Nat.le_of_not_lt (fun l => q (hs b (.inl l)))), h.r.fr hf n1, h.q.fr hf n2, h.ty.fr hf (n2 _ h.q.hT.1), h.d, fun b q => ⟨(h.t1 b q).1, Nat.lt_of_lt_of_le (h.t1 b q).2 hf.size⟩, fun b q => ⟨(h.t2 b q).1, Nat.lt_of_lt_of_le (h.t2 b q).2 hf.size⟩, hp.less hs⟩
theorem vec_ne_int : 23 ≠ 3 := by decide
theorem rows_ne_int : 73 ≠ 3 := by decide
/-- behind Set of the program's rows -/
theorem PS.setR {w W W' : World} {gb : Nat} {T1 T2 : Nat → Prop} {gr hr gq hq : Nat} {R Q R' : List (List Int)} (h : PS w W gb T1 T2 gr hr gq hq R Q) (hf : Fr (fun b => b = hr) W W') (hr' : RT (TN T1 W W') w.heap.size W' gr hr R') : PS w W' gb (TN T1 W W') T2 gr hr gq hq R' Q := by
  have hT := h.r.hT.2
  obtain ⟨_, cur, fz, hh⟩ := h.r.rh.block
  have n2 : ∀ b, T2 b → ¬ b = hr := fun b q e => h.d b (e ▸ hT) q
  refine ⟨h.bl.fr hf (fun b q => q ▸ (h.t1 hr hT).1), hr', h.q.fr hf n2, h.ty.fr hf (n2 _ h.q.hT.1), fun b q1 q2 => ?_, fun b q => ?_, fun b q => ⟨(h.t2 b q).1, Nat.lt_of_lt_of_le (h.t2 b q).2 hf.size⟩, (h.bp.frameN hf (.inr (.inl hT)) ⟨cur, _, fz, hh, vec_ne_int⟩).less (fun b q => ?_)⟩
  · rcases q1 with q | q
    · exact h.d b q q2
    · have := (h.t2 b q2).2; omega
  · rcases q with q | q
    · exact ⟨(h.t1 b q).1, Nat.lt_of_lt_of_le (h.t1 b q).2 hf.size⟩
    · have := h.bl.size; exact ⟨by omega, q.2⟩
  · rcases q with q | (q | q) | q
    · exact .inl (.inl q)
    · exact .inl (.inr (.inl q))
    · exact .inr q
    · exact .inl (.inr (.inr q))
/-- behind Set of the document's rows -/
theorem PS.setQ {w W W' : World} {gb : Nat} {T1 T2 : Nat → Prop} {gr hr gq hq hq' : Nat} {R Q Q' : List (List Int)} (h : PS w W gb T1 T2 gr hr gq hq R Q) (hf : Fr (fun b => b = gq) W W') (hr' : RT (TN T2 W W') w.heap.size W' gq hq' Q') (hty : TyAt 73 W' gq) : PS w W' gb T1 (TN T2 W W') gr hr gq hq' R Q' := by
  have hT := h.q.hT.1
  obtain ⟨cur, fz, hh⟩ := h.ty
  have n1 : ∀ b, T1 b → ¬ b = gq := fun b q e => h.d b q (e ▸ hT)
  refine ⟨h.bl.fr hf (fun b q => q ▸ (h.t2 gq hT).1), h.r.fr hf n1, hr', hty, fun b q1 q2 => ?_, fun b q => ⟨(h.t1 b q).1, Nat.lt_of_lt_of_le (h.t1 b q).2 hf.size⟩, fun b q => ?_, (h.bp.frameN hf (.inr (.inr hT)) ⟨cur, _, fz, hh, rows_ne_int⟩).less (fun b q => ?_)⟩
  · rcases q2 with q | q
    · exact h.d b q1 q
    · have := (h.t1 b q1).2; omega
  · rcases q with q | q
    · exact ⟨(h.t2 b q).1, Nat.lt_of_lt_of_le (h.t2 b q).2 hf.size⟩
    · have := h.bl.size; exact ⟨by omega, q.2⟩
  · rcases q with q | q | q | q
    · exact .inl (.inl q)
    · exact .inl (.inr (.inl q))
    · exact .inl (.inr (.inr q))
    · exact .inr q
/-- other rows of the program -/
theorem PS.load {w W W' : World} {gb : Nat} {T1 T2 : Nat → Prop} {gr hr gq hq gr' : Nat} {R Q R' : List (List Int)} (h : PS w W gb T1 T2 gr hr gq hq R Q) (k : Bl W W') (hr' : RG W.heap.size W' gr' R') (hp : 0 < R'.length) : ∃ hr2, PS w W' gb (fun b => W.heap.size ≤ b ∧ b < W'.heap.size) T2 gr' hr2 gq hq R' Q := by
  obtain ⟨h2, hr2⟩ := hr'.rt (T := fun b => W.heap.size ≤ b ∧ b < W'.heap.size) hp (fun b q1 q2 => ⟨q1, q2⟩)
  have hs := h.bl.size
  exact ⟨h2, h.bl.trans k, hr2.mono (fun _ q => q) hs, h.q.keep k, h.ty.keep k, fun b q1 q2 => by have := (h.t2 b q2).2; omega, fun b q => ⟨by omega, q.2⟩, fun b q => ⟨(h.t2 b q).1, Nat.lt_of_lt_of_le (h.t2 b q).2 k.size⟩, (h.bp.more k).less (fun b q => by
    rcases q with q | q | q
    · exact .inl (.inl q)
    · exact .inr q
    · exact .inl (.inr (.inr q)))⟩
end Go.Proofs.YtibabgokmacnaaaGreat
end

/- the law's own first call, of chapter 20. By an AI agent. -/
section
namespace Go.Proofs.YtibabgokmacnaaaGreat
open Go.RowKit

theorem fkey_inj {x y : Nat} (hx : x < two64) (hy : y < two64) (h : fkey x = fkey y) (h0 : fkey y ≠ 0) : x = y := by
  unfold fkey at h h0
  unfold two63 two64 at *
  split at h <;> split at h <;> (try split at h) <;> (try split at h) <;> simp_all <;> omega
theorem fkey_zero {x : Nat} (hx : x < two64) (h : fkey x = 0) : nanB x = true := by
  cases hn : nanB x
  · exfalso
    rw [fkey_num hn] at h
    have h2 : x % two63 ≤ infR := by simpa [nanB] using hn
    unfold two63 two64 infR at *
    split at h <;> omega
  · rfl

set_option maxHeartbeats 1600000 in
set_option maxRecDepth 100000 in
theorem alive20_any (w : World) : Calls Tryz.prog 32 #[] w fun e w' => e = .returned (.bool true) ∧ Bl w w' := by
  go_enter Tryz.func32, Tryz.ntmps32
  go_wp2_with fail
  refine (new_yes 2 _ (by decide) (by decide)).mono ?_
  rintro e w1 ⟨g, rfl, hr, hb1⟩
  go_wp2_with fail
  refine (set_yes _ g 2 _ _ 0 _ [5, 2] _ (hr.keep ((Bl.refl _).alloc _)) (by decide) (by decide) (by decide) (IA.lit w1 [5, 2] _ (by decide) (by decide)) (by decide)).mono ?_
  rintro e w2 ⟨rfl, hr2, hb2⟩
  have hb2 : Bl w w2 := Below.trans (hb1.alloc _) hb2
  rw [show (List.replicate 2 (zeroL 2)).set 0 (joinL (nthR (List.replicate 2 (zeroL 2)) 0) [5, 2]) = [[5, 2], [0, 0]] from by decide] at hr2
  go_wp2_with fail
  refine (set_yes _ g 2 _ _ 1 _ [3, 4] _ (hr2.keep ((Bl.refl _).alloc _)) (by decide) (by decide) (by decide) (IA.lit w2 [3, 4] _ (by decide) (by decide)) (by decide)).mono ?_
  rintro e w3 ⟨rfl, hr3, hb3⟩
  have hb3 : Bl w w3 := Below.trans (hb2.alloc _) hb3
  rw [show List.set [[5, 2], [0, 0]] 1 (joinL (nthR [[5, 2], [0, 0]] 1) [3, 4]) = [[5, 2], [3, 4]] from by decide] at hr3
  clear hb1 hr hr2
  go_wp2_with fail
  refine (new_yes 1 _ (by decide) (by decide)).mono ?_
  rintro e w4 ⟨g4, rfl, hr4, hb4⟩
  go_wp2_with fail
  refine (lag_yes _ g4 _ _ hr4 (by decide) (by decide) (by decide)).mono ?_
  rintro e w5 ⟨x, rfl, hx, hxk, hb5⟩
  rw [show lagK (allL min (List.replicate 1 (zeroL 1))) (allL max (List.replicate 1 (zeroL 1))) (allL min (List.replicate 1 (zeroL 1))).length = 0 from by decide +kernel] at hxk
  have hxn : (FloatKind.f64.format.order x x != some .eq) = true := (self_nan hx).trans (fkey_zero hx hxk)
  have hr5 := hr3.keep (hb4.trans hb5)
  have hb5 := hb3.trans (hb4.trans hb5)
  clear hxk hx hr3 hr4 hb4
  go_wp2_with fail
  refine (stable_yes _ g _ _ hr5 (by decide) (by decide)).mono ?_
  rintro e w6 ⟨v6, rfl, hf6, hb6⟩
  rw [show allL min [[5, 2], [3, 4]] = [3, 2] from by decide] at hf6
  obtain ⟨a6, n6, c6, rfl, hI6⟩ := hf6.si
  have hr6 := hr5.keep hb6
  have hb6 := hb5.trans hb6
  clear hf6 hr5
  go_wp2_with fail
  refine (rsame_any _ _ _ _ _ _ [3, 2] [3, 2] _ ?_ ?_).mono ?_
  · exact hI6.keep ((Bl.refl _).alloc _)
  · exact IA.lit w6 [3, 2] _ (by decide) (by decide)
  rintro e w7 ⟨rfl, hb7⟩
  rw [show decide (([3, 2] : List Int) = [3, 2]) = true from by decide]
  have hb7 := ((Bl.refl w6).alloc _).trans hb7
  have hr7 := hr6.keep hb7
  have hb7 := hb6.trans hb7
  clear hr6 hI6
  go_wp2_with fail
  refine (best_yes _ g _ _ hr7 (by decide) (by decide)).mono ?_
  rintro e w8 ⟨v8, rfl, hf8, hb8⟩
  rw [show allL max [[5, 2], [3, 4]] = [5, 4] from by decide] at hf8
  obtain ⟨a8, n8, c8, rfl, hI8⟩ := hf8.si
  have hr8 := hr7.keep hb8
  have hb8 := hb7.trans hb8
  clear hf8 hr7
  go_wp2_with fail
  refine (rsame_any _ _ _ _ _ _ [5, 4] [5, 4] _ ?_ ?_).mono ?_
  · exact hI8.keep ((Bl.refl _).alloc _)
  · exact IA.lit w8 [5, 4] _ (by decide) (by decide)
  rintro e w9 ⟨rfl, hb9⟩
  rw [show decide (([5, 4] : List Int) = [5, 4]) = true from by decide]
  have hb9 := ((Bl.refl w8).alloc _).trans hb9
  have hr9 := hr8.keep hb9
  have hb9 := hb8.trans hb9
  clear hr8 hI8
  go_wp2_with fail
  refine (lag_yes _ g _ _ hr9 (by decide) (by decide) (by decide)).mono ?_
  rintro e w10 ⟨y, rfl, hy, hyk, hb10⟩
  rw [show lagK (allL min [[5, 2], [3, 4]]) (allL max [[5, 2], [3, 4]]) (allL min [[5, 2], [3, 4]]).length = fkey 4602678819172646912 from by decide +kernel] at hyk
  obtain rfl := fkey_inj hy (by decide) hyk (by decide)
  have hyh : (FloatKind.f64.format.order 4602678819172646912 4602678819172646912 == some .eq) = true := by decide +kernel
  have hb10 := hb9.trans hb10
  clear hyk hy hr9
  go_wp2_with fail
  go_ret
  exact ⟨rfl, hb10⟩
end Go.Proofs.YtibabgokmacnaaaGreat
end
