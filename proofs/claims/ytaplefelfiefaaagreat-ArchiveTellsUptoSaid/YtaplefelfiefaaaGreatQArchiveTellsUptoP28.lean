import Derived.Test.YtaplefelfiefaaaGreatQArchiveTellsUptoP8
import Derived.Test.YtaplefelfiefaaaGreatQArchiveTellsUptoP9
import Derived.Test.YtaplefelfiefaaaGreatQArchiveTellsUptoP2
import Derived.Test.YtaplefelfiefaaaGreatQArchiveTellsUptoP24
import Derived.StillTailTactics
import Derived.Deep.DeepCutAuto
import Derived.Outline
import Derived.Test.YtaplefelfiefaaaGreatQArchiveTellsUptoP14
import Derived.Test.YtaplefelfiefaaaGreatQArchiveTellsUptoP19
import Derived.Test.YtaplefelfiefaaaGreatQArchiveTellsUptoP26
import Derived.Test.YtaplefelfiefaaaGreatQArchiveTellsUptoP27
import Derived.Test.YtaplefelfiefaaaGreatQArchiveTellsUptoP22
import Derived.Test.YtaplefelfiefaaaGreatQArchiveTellsUptoP1

/- bedrockref3.Get. By an AI agent. -/
section
set_option linter.unusedVariables false
set_option linter.unusedSimpArgs false
namespace Go.Proofs.YtaplefelfiefaaaGreat
open Go.RowKit

theorem el_int : EL 23 3 1 8 := el_of Tryz.underlying23 (by kernel_rfl) (by decide)
/-- what reading a vector comes to -/
def RdPost (w : World) (l : List UInt8) (e : Ending) (w' : World) : Prop :=
  (∃ (xs : List Int) (m : List UInt8) (v : Value), rdV l = some (xs, m) ∧ e = .returned (.tuple #[v, .int .i64 ((1 + 6 * xs.length : Nat) : Int), .int .i64 0]) ∧ FI w.heap.size w' v xs ∧ Bl w w') ∨
  (rdV l = none ∧ ∃ c : Int, (c = 3 ∨ c = 4) ∧ e = .returned (.tuple #[.slice none 0 0, .int .i64 0, .int .i64 c]) ∧ Bl w w')
theorem rget3_nil (w : World) : Calls Tryz.prog 29 #[.string ⟨#[]⟩] w (RdPostC w []) := by
  go_enter Tryz.func29, Tryz.ntmps29
  go_wp2_with fail
  go_ret3
  exact .inr ⟨rfl, rfl, Bl.refl _⟩
set_option maxHeartbeats 3200000 in
set_option maxRecDepth 100000 in
theorem rget3_bad (s : ByteArray) (d : UInt8) (m : List UInt8) (w : World) (hs : s = strL (d :: m)) (n : Nat) (hdn : d.toNat = n) (hm : m.length ≤ 1900000) (hd : (n < 1 ∨ 8 < n) ∨ m.length < 6 * n) : Calls Tryz.prog 29 #[.string s] w (RdPostC w (d :: m)) := by
  have hsz : s.size = m.length + 1 := by rw [hs, strL_size]; simp
  have hz : 0 < s.size := by omega
  have h0 : (s[0]'hz).toNat = n := by subst hs; exact hdn
  have HR : Hid (rdV (d :: m) = none) := Lib.hid (by rw [rdV_cons, if_neg (by omega)])
  have hnb : n ≤ 255 := by have := UInt8.toNat_lt d; omega
  have HC0 : Hid (codeV (d :: m) = if n < 1 ∨ 8 < n then 4 else 3) := Lib.hid (by rw [codeV_cons, hdn])
  clear hs hdn
  by_cases hn : n < 1 ∨ 8 < n
  · clear hd
    have HCD : Hid (codeV (d :: m) = 4) := Lib.hid (by rw [HC0.out, if_pos hn])
    rcases hn with h | h
    · go_enter Tryz.func29, Tryz.ntmps29
      go_wp2_with fail
      go_ret3
      exact .inr ⟨HR.out, by rw [HCD.out]; rfl, Bl.refl _⟩
    · go_enter Tryz.func29, Tryz.ntmps29
      go_wp2_with fail
      go_ret3
      exact .inr ⟨HR.out, by rw [HCD.out]; rfl, Bl.refl _⟩
  · have h1 : 1 ≤ n := by omega
    have h8 : n ≤ 8 := by omega
    have hlt : m.length < 6 * n := by omega
    have HCD : Hid (codeV (d :: m) = 3) := Lib.hid (by rw [HC0.out, if_neg hn])
    clear hd hn
    go_enter Tryz.func29, Tryz.ntmps29
    go_wp2_with fail
    go_ret3
    exact .inr ⟨HR.out, by rw [HCD.out]; rfl, Bl.refl _⟩
set_option maxHeartbeats 3200000 in
set_option maxRecDepth 100000 in
theorem rget3_loop (s : ByteArray) (d : UInt8) (m : List UInt8) (w : World) (hs : s = strL (d :: m)) (n : Nat) (hdn : d.toNat = n) (h1 : 1 ≤ n) (h8 : n ≤ 8) (hm : m.length ≤ 1900000) (hlt : 6 * n ≤ m.length) : Calls Tryz.prog 29 #[.string s] w (RdPostC w (d :: m)) := by
  have hsz : s.size = m.length + 1 := by rw [hs, strL_size]; simp
  have hz : 0 < s.size := by omega
  have h0 : (s[0]'hz).toNat = n := by subst hs; exact hdn
  have HX : Hid (∀ k, s.extract (1 + 6 * k) (7 + 6 * k) = strL ((m.drop (6 * k)).take 6)) := Lib.hid (fun k => by
    subst hs
    rw [strL_ext, show 1 + 6 * k = 6 * k + 1 by omega, List.drop_succ_cons]
    congr 2
    omega)
  have HR : Hid (rdV (d :: m) = some (valsL n m, m.drop (6 * n))) := Lib.hid (by rw [rdV_cons, hdn, if_pos (by omega)])
  clear hs hdn
  go_enter Tryz.func29, Tryz.ntmps29
  go_wp2_with fail
  clear h0 hz
  go_loopw [6, 7] (fun sv i wr => ∃ (k : Nat) (acc : List Int), k ≤ n ∧ i = .int .i64 k ∧ OI w.heap.size wr sv acc ∧ Bl w wr ∧ acc = valsL k m) (fun _ i _ => n - (intOf i).toNat)
  case atStart => exact ⟨0, [], Nat.zero_le _, rfl, OI.nil _ _, Bl.refl _, rfl⟩
  case round =>
    obtain ⟨k, acc, hk, rfl, hoi, hb, hacc⟩ := hrel
    have HA := Lib.hid hacc
    have hal : acc.length = k := by rw [hacc, valsL_len]
    have HO := Lib.hid hoi
    have HB := Lib.hid hb
    clear hacc hoi hb
    by_cases hk2 : k < n
    · have hl6 : ((m.drop (6 * k)).take 6).length = 6 := by rw [List.length_take, List.length_drop]; omega
      have HXk := Lib.hid (HX.out k)
      have HG := Lib.hid (fun w => refGet_any (strL ((m.drop (6 * k)).take 6)) w (by rw [strL_size, hl6]; omega) (by rw [strL_size, hl6]; omega))
      rw [show (strL ((m.drop (6 * k)).take 6)).data.toList = (m.drop (6 * k)).take 6 from rfl] at HG
      have HGB := Lib.hid (get6_bound (m.drop (6 * k)))
      have HS := Lib.hid (valsL_succ k m)
      generalize getN ((m.drop (6 * k)).take 6) = x at *
      generalize strL ((m.drop (6 * k)).take 6) = sx at *
      clear hl6
      have hxk := HXk.out
      go_wp2_with fail
      refine (HG.out _).mono ?_
      rintro e w1 ⟨rfl, rfl⟩
      have hsz2 := HB.out.size
      go_wp2_with (at_builtin; refine wpList_appG rfl _ _ _ rfl el_int w.heap.size _ acc.length _ rfl (ownsRow_bl HO.out ((Bl.refl wr).alloc _)) ?c1 _ 1 1 [.int .i64 x] rfl (SG.lit (heap_alloc_new _ _) rfl (by simp [Value.oneCell'])) ?c2 ?c3 ?_)
      case c1 => simp; omega
      case c2 => unfold maxLen; omega
      case c3 => omega
      intro v' w2 ho2 hg2
      have hb2 := Lib.hid (Bl.ownRow (HB.out.alloc (.cells #[.int .i64 x] 3)) (ownsRow_bl HO.out ((Bl.refl wr).alloc _)) (Nat.le_refl _) hg2)
      have HO2 : Hid (OI w.heap.size w2 v' (acc ++ [x])) := Lib.hid (by
        unfold OI
        rw [List.length_append, List.map_append, hal]
        exact ho2)
      clear ho2 hg2
      go_wp2_with fail
      go_roundw
      case rel => exact ⟨k + 1, acc ++ [x], by omega, by go_num, HO2.out, hb2.out, by rw [HS.out, HA.out]⟩
      case measure => simp [intOf]; omega
    · obtain rfl : k = n := by omega
      go_wp2_with fail
      go_ret3
      refine .inl ⟨acc, m.drop (6 * k), _, by rw [HA.out]; exact HR.out, ?_, ⟨HO.out, by omega, fun y hy => ?_⟩, HB.out⟩
      · rw [hal]; simp
      · rw [HA.out] at hy
        have := valsL_bound _ _ y hy
        omega
theorem rget3_c (l : List UInt8) (w : World) (hz : l.length ≤ 1900000) : Calls Tryz.prog 29 #[.string (strL l)] w (RdPostC w l) := by
  cases l with
  | nil => exact rget3_nil w
  | cons d m =>
    rw [List.length_cons] at hz
    by_cases hd : (d.toNat < 1 ∨ 8 < d.toNat) ∨ m.length < 6 * d.toNat
    · exact rget3_bad _ d m w rfl _ rfl (by omega) hd
    · exact rget3_loop _ d m w rfl d.toNat rfl (by omega) (by omega) (by omega) (by omega)
theorem rget3_any (l : List UInt8) (w : World) (hz : l.length ≤ 1900000) : Calls Tryz.prog 29 #[.string (strL l)] w (RdPost w l) := by
  refine (rget3_c l w hz).mono ?_
  rintro e w' (⟨xs, m, v, h1, h2, h3, h4⟩ | ⟨h1, h2, h3⟩)
  · exact .inl ⟨xs, m, v, h1, h2, h3, h4⟩
  · exact .inr ⟨h1, codeV l, codeV_is l, h2, h3⟩
end Go.Proofs.YtaplefelfiefaaaGreat
end

/- bedrockref24.Read (printed by gen/r24read.py). By an AI agent. -/
section
set_option linter.unusedVariables false
set_option linter.unusedSimpArgs false
namespace Go.Proofs.YtaplefelfiefaaaGreat
open Go.RowKit
attribute [local go_sem] eOp eOper eUpon pOp pOper pUpon

theorem r24Read_results {tmps : Array Value} {w : World} {g0 : Nat} {n parts : Int} {ad : Option Addr} {an ac : Nat} {pd : Option Addr} {pn pc : Nat} {v1 : Int} (h0 : tmps.getD 2 undef = .pointer (some ⟨g0, 0, none⟩)) (h1 : tmps.getD 3 undef = .int .i64 v1)
    (d0 : AC w g0 (arcCs n parts ad an ac pd pn pc)) :
    (results Tryz.f8 tmps).run Tryz.prog w = .ok (.tuple #[arcV n parts ad an ac pd pn pc, .int .i64 v1]) w := by
  rw [Array.getD_eq_getD_getElem?] at h0 h1
  obtain ⟨c0, c1, c2, c3⟩ := d0.arc
  simp [results, Tryz.results8, go_sem, h0, h1, c0, c1, c2, c3, arcV]
/-- the answer's box, the desk -/
structure RG (w W : World) (l : List UInt8) (bad : Bool) : Prop where
  bl : Bl w W
  r : AC W w.heap.size zeroArcCs
  d : AC W (w.heap.size + 1) [.string (strL l), .bool bad]
theorem RG.keep {w W W' : World} {l : List UInt8} {bad : Bool} (h : RG w W l bad) (k : Bl W W') : RG w W' l bad := ⟨h.bl.trans k, h.r.keep k, h.d.keep k⟩
theorem RG.new (w : World) (l : List UInt8) (T U : TypeId) : RG w ((w.alloc (.cells zeroArcCs.toArray T)).alloc (.cells #[.string (strL l), .bool false] U)) l false :=
  ⟨((Bl.refl w).alloc _).alloc _, (AC.new w _ rfl zeroArcCs T).keep ((Bl.refl _).alloc _), AC.new _ (w.heap.size + 1) (by simp) [.string (strL l), .bool false] U⟩
theorem RG.lt {w W : World} {l : List UInt8} {bad : Bool} (h : RG w W l bad) : w.heap.size + 1 < W.heap.size := h.d.lt
theorem RG.dk {w W : World} {l : List UInt8} {bad : Bool} (h : RG w W l bad) (n : Nat) : RG w (dkW W (w.heap.size + 1) n l bad) (dkTake n l bad).2.1 (dkTake n l bad).2.2 := by
  unfold dkW dkTake
  by_cases hc : bad = false ∧ n ≤ l.length
  · rw [if_pos hc, if_pos hc]
    obtain ⟨rfl, hn⟩ := hc
    exact ⟨h.bl.setCell (p := ⟨w.heap.size + 1, 0, none⟩) (Nat.le_succ _) _, h.r.other (by omega), h.d.setj 0 _⟩
  · rw [if_neg hc, if_neg hc]
    exact ⟨h.bl.setCell (p := ⟨w.heap.size + 1, 1, none⟩) (Nat.le_succ _) _, h.r.other (by omega), h.d.setj 1 _⟩
theorem RG.dkE {w W : World} {l : List UInt8} {bad : Bool} (h : RG w W l bad) {n : Nat} {t m : List UInt8} {b : Bool} (e : dkTake n l bad = (t, m, b)) : RG w (dkW W (w.heap.size + 1) n l bad) m b := by
  have := h.dk n
  rw [e] at this
  exact this
/-- .. and the archive's own box, its vector, its pairs so far (which lie from block B on) -/
structure RPG (w W : World) (l : List UInt8) (bad : Bool) (gx B : Nat) (cs : List Value) (ad : Option Addr) (n : Nat) (xs : List Int) (pv : Value) (k : Nat) (acc : List (ByteArray × ValL)) : Prop where
  g : RG w W l bad
  a : AC W gx cs
  x : FarO (gx + 1) W ad n (cap2 cs) xs
  ap : ∀ b off, ad = some ⟨b, off, none⟩ → gx < b ∧ b < B
  o : OPR B W pv k acc
  ge : w.heap.size + 1 + 1 ≤ gx
  gb : gx < B
  lt : B ≤ W.heap.size
section
variable {w W W' : World} {l : List UInt8} {bad : Bool} {gx B : Nat} {cs : List Value} {ad : Option Addr} {n : Nat} {xs : List Int} {pv : Value} {k : Nat} {acc : List (ByteArray × ValL)}
theorem RPG.keep (h : RPG w W l bad gx B cs ad n xs pv k acc) (b : Bl W W') : RPG w W' l bad gx B cs ad n xs pv k acc :=
  ⟨h.g.keep b, h.a.keep b, h.x.keep b, h.ap, h.o.keep b, h.ge, h.gb, Nat.le_trans h.lt b.size⟩
theorem RPG.dkE (h : RPG w W l bad gx B cs ad n xs pv k acc) {i : Nat} {t m : List UInt8} {b : Bool} (e : dkTake i l bad = (t, m, b)) : RPG w (dkW W (w.heap.size + 1) i l bad) m b gx B cs ad n xs pv k acc := by
  have hge := h.ge
  have hgb := h.gb
  have hg := h.g.dkE e
  have key : ∀ j v, dkW W (w.heap.size + 1) i l bad = W.setCell ⟨w.heap.size + 1, j, none⟩ v → RPG w (dkW W (w.heap.size + 1) i l bad) m b gx B cs ad n xs pv k acc := fun j v ev => by
    rw [ev] at hg ⊢
    exact ⟨hg, h.a.other (by omega), h.x.apart (fun b off e => by have := h.ap b off e; omega) _ _, h.ap, h.o.set (by omega) _ _, h.ge, h.gb, by simpa using h.lt⟩
  by_cases hc : bad = false ∧ i ≤ l.length
  · exact key 0 _ (by unfold dkW; rw [if_pos hc])
  · exact key 1 _ (by unfold dkW; rw [if_neg hc])
theorem RPG.new (g : RG w W l bad) (a : AC W gx cs) (x : FarO (gx + 1) W ad n (cap2 cs) xs) (hge : w.heap.size + 1 + 1 ≤ gx) : RPG w W l bad gx W.heap.size cs ad n xs (.slice none 0 0) 0 [] :=
  ⟨g, a, x, fun b off e => by have h1 := x.block b off e; omega, OPR.nil _ _, hge, a.lt, Nat.le_refl _⟩
theorem RPG.app {v' : Value} (h : RPG w W l bad gx B cs ad n xs pv k acc) (p : ByteArray × ValL)
    (ho : W'.ownsRow B 58 5 v' (k + 1) (cellsP acc ++ pairCs p)) (hg : W.grownBy W' pv.ownBlock) : RPG w W' l bad gx B cs ad n xs v' (k + 1) (acc ++ [p]) := by
  have hb : Below B W W' := Below.grown (Below.refl _ W) hg h.lt (fun q hq => (World.ownsRow.lt h.o.2 q hq).1)
  have hge := h.ge
  have hgb := h.gb
  refine ⟨⟨Below.trans h.g.bl (Below.mono hb (by omega)), h.g.r.below hb (by omega), h.g.d.below hb (by omega)⟩, h.a.below hb (by omega), h.x.below hb (fun b off e => by have := h.ap b off e; omega), h.ap, ⟨by rw [List.length_append, h.o.1]; rfl, by rw [cellsP_snoc]; exact ho⟩, h.ge, h.gb, Nat.le_trans h.lt hb.size⟩
theorem RPG.store (h : RPG w W l bad gx B cs ad n xs pv k acc) (j : Nat) (v : Value) (hj : j ≠ 2 := by decide) : RPG w (W.setCell ⟨gx, j, none⟩ v) l bad gx B (cs.set j v) ad n xs pv k acc := by
  have hge := h.ge
  have hgb := h.gb
  exact ⟨⟨h.g.bl.setCell (p := ⟨gx, j, none⟩) (by show w.heap.size ≤ gx; omega) v, h.g.r.other (by omega), h.g.d.other (by omega)⟩, h.a.setj j v, by rw [cap2_set cs hj]; exact h.x.apart (fun b off e => by have := h.ap b off e; omega) _ _, h.ap, h.o.set (by omega) _ _, h.ge, h.gb, by simpa using h.lt⟩
end
set_option maxHeartbeats 12800000 in
set_option maxRecDepth 100000 in
theorem r24Read_any (l : List UInt8) (w : World) (hz : l.length ≤ 9000) : Calls Tryz.prog 8 #[.string (strL l)] w (RfPost w l) := by
  have hsf := store_float
  have G := RG.new w l 52 80
  unfold zeroArcCs arcCs at G
  obtain ⟨sl, hsl⟩ : ∃ sl, strL l = sl := ⟨_, rfl⟩
  have HSL := Lib.hid hsl
  rw [hsl]
  rw [hsl] at G
  clear hsl
  go_enter Tryz.func8, Tryz.ntmps8
  go_wp2_with fail
  generalize (w.alloc _).alloc _ = W at *
  obtain ⟨⟨t8, l8, b8⟩, h8⟩ : ∃ p, dkTake 8 l false = p := ⟨_, rfl⟩
  refine (dktake_any (w.heap.size + 1) l false 8 W G.d).mono ?_
  rintro e W8 ⟨rfl, rfl⟩
  rw [h8]
  dsimp only
  have G8 := Lib.hid (G.dkE h8)
  have H8 := Lib.hid h8
  clear G h8
  generalize dkW W _ _ _ _ = W8 at *
  by_cases hbg : t8 = beginL
  case neg =>
    have HN := Lib.hid (rdArc_no (rfBegin H8.out hbg))
    have qb : ((strL t8).toList == [66, 69, 68, 82, 79, 67, 75, 49]) = false := by
      rw [ByteArray.toList_eq]
      show (t8 == beginL) = false
      rw [beq_eq_false_iff_ne]; exact hbg
    clear hbg
    generalize strL t8 = s8 at *
    obtain ⟨r0, r1, r2, r3⟩ := AC.arc G8.out.r
    have fr := G8.out.r.frozen
    go_wp2_with fail
    refine bodyPost_ret (r24Read_results rfl rfl (G8.out.r.fill zeroArcCs rfl)) rfl (.inr ⟨HN.out, rfl, Bl.fill (Nat.le_refl _) zeroArcCs _ 0 G8.out.bl⟩)
  have qb : ((strL t8).toList == [66, 69, 68, 82, 79, 67, 75, 49]) = true := by rw [hbg, ByteArray.toList_eq]; rfl
  clear hbg
  generalize strL t8 = s8 at *
  go_wp2_with fail
  clear qb
  obtain ⟨⟨t9, l9, b9⟩, h9⟩ : ∃ p, dkTake 1 l8 b8 = p := ⟨_, rfl⟩
  refine (dknum_any (w.heap.size + 1) l8 b8 1 _ G8.out.d (by decide) (by decide)).mono ?_
  rintro e W9 ⟨rfl, rfl⟩
  obtain ⟨v9, n9⟩ : ∃ v, dkNum 1 l8 b8 = v := ⟨_, rfl⟩
  rw [n9]
  have hge9 := dkNum_ge 1 l8 b8
  rw [n9] at hge9
  have hl9 := (dkTake_len h9).1
  have N9 := Lib.hid n9
  have H9 := Lib.hid h9
  have G9 := Lib.hid (G8.out.dkE h9)
  clear n9 h9 G8
  generalize dkW _ _ _ _ _ = W9 at *
  go_wp2_with fail
  obtain ⟨⟨t10, l10, b10⟩, h10⟩ : ∃ p, dkTake 1 l9 b9 = p := ⟨_, rfl⟩
  refine (dknum_any (w.heap.size + 1) l9 b9 1 _ G9.out.d (by decide) (by decide)).mono ?_
  rintro e W10 ⟨rfl, rfl⟩
  obtain ⟨v10, n10⟩ : ∃ v, dkNum 1 l9 b9 = v := ⟨_, rfl⟩
  rw [n10]
  have hge10 := dkNum_ge 1 l9 b9
  rw [n10] at hge10
  have hl10 := (dkTake_len h10).1
  have N10 := Lib.hid n10
  have H10 := Lib.hid h10
  have G10 := Lib.hid (G9.out.dkE h10)
  clear n10 h10 G9
  generalize dkW _ _ _ _ _ = W10 at *
  have hl8 := (dkTake_len H8.out).1
  have HI0 := Lib.hid (fun hr => rfHead H8.out H9.out N9.out H10.out N10.out hr)
  clear H8 H9 N9 H10 N10
  have hga := AC.new W10 _ rfl (arcCs v9 v10 none 0 0 none 0 0) 52
  have hgb := (Bl.refl W10).alloc (.cells (arcCs v9 v10 none 0 0 none 0 0).toArray 52)
  unfold arcCs at hga hgb
  have hlt := G10.out.lt
  have G2 := Lib.hid (G10.out.keep hgb)
  have cz := G2.out.d.cell 0 _ rfl
  go_wp2_with fail
  have GA := Lib.hid hga
  have hsz : (W10.alloc (.cells #[.int .i64 v9, .int .i64 v10, .slice none 0 0, .slice none 0 0] 52)).heap.size = W10.heap.size + 1 := by simp
  clear hga hgb cz G10
  generalize W10.alloc _ = W11 at *
  generalize W10.heap.size = gx at *
  refine (rget3_any l10 _ (by omega)).mono ?_
  rintro e W12 (⟨xs, m11, v, hv, rfl, hfi, hb⟩ | ⟨hv, c, hc, rfl, hb⟩)
  case inr =>
    have HN := Lib.hid (rdArc_no (rfVec hv HI0.out))
    have GB := Lib.hid (G2.out.keep hb)
    clear hv hb
    rcases hc with rfl | rfl
    · as_aux_lemma =>
      obtain ⟨r0, r1, r2, r3⟩ := AC.arc GB.out.r
      have fr := GB.out.r.frozen
      go_wp2_with fail
      refine bodyPost_ret (r24Read_results rfl rfl (GB.out.r.fill zeroArcCs rfl)) rfl (.inr ⟨HN.out, rfl, Bl.fill (Nat.le_refl _) zeroArcCs _ 0 GB.out.bl⟩)
    · as_aux_lemma =>
      obtain ⟨r0, r1, r2, r3⟩ := AC.arc GB.out.r
      have fr := GB.out.r.frozen
      go_wp2_with fail
      refine bodyPost_ret (r24Read_results rfl rfl (GB.out.r.fill zeroArcCs rfl)) rfl (.inr ⟨HN.out, rfl, Bl.fill (Nat.le_refl _) zeroArcCs _ 0 GB.out.bl⟩)
  obtain ⟨va, vn, vc, rfl, hI⟩ := hfi.si
  have HV := Lib.hid hv
  have hvl := rdV_len hv
  have hF0 : FarO _ _ _ _ _ _ := hfi
  rw [hsz] at hF0
  obtain ⟨⟨t13, l13, b13⟩, h13⟩ : ∃ p, dkTake (1 + 6 * xs.length) l10 b10 = p := ⟨_, rfl⟩
  have HT13 := Lib.hid h13
  have G3 := Lib.hid (G2.out.keep hb)
  have GA3 := Lib.hid (GA.out.keep hb)
  have HF3 := Lib.hid hF0
  have HK : Hid (∀ w' : World, AC w' (w.heap.size + 1) [.string (strL l10), .bool b10] → Calls Tryz.prog 27 #[.pointer (some ⟨w.heap.size + 1, 0, none⟩), .int .i64 ((1 + 6 * xs.length : Nat) : Int)] w' fun e w'' => e = .returned (.string (strL t13)) ∧ w'' = dkW w' (w.heap.size + 1) (1 + 6 * xs.length) l10 b10) := Lib.hid (fun w' h => by
    have := dktake_any (w.heap.size + 1) l10 b10 (1 + 6 * xs.length) w' h
    rw [h13] at this
    exact this)
  have hl13 := (dkTake_len h13).1
  have HD13 := Lib.hid (G3.out.dkE h13)
  clear h13 hv hfi hI hb hF0 G2 GA hsz hvl
  have GA4 : Hid (AC (dkW W12 (w.heap.size + 1) (1 + 6 * xs.length) l10 b10) gx [.int .i64 v9, .int .i64 v10, .slice none 0 0, .slice none 0 0]) := Lib.hid (by
    unfold dkW
    split
    · exact GA3.out.other (by omega)
    · exact GA3.out.other (by omega))
  have HF4 : Hid (FarO (gx + 1) (dkW W12 (w.heap.size + 1) (1 + 6 * xs.length) l10 b10) va vn vc xs) := Lib.hid (by
    unfold dkW
    split
    · exact HF3.out.set (q := w.heap.size + 1) (by omega) 0 _
    · exact HF3.out.set (q := w.heap.size + 1) (by omega) 1 _)
  clear GA3 HF3
  generalize hkv : ((1 + 6 * xs.length : Nat) : Int) = kv at *
  go_wp2_with fail
  refine (HK.out _ G3.out.d).mono ?_
  rintro e W13 ⟨rfl, rfl⟩
  clear G3 HK hkv
  generalize dkW _ _ _ _ _ = W13 at *
  have a2 := (AC.arc GA4.out).2.2.1
  have f2 := GA4.out.frozen 2
  have P0 := RPG.new (n := vn) ⟨HD13.out.bl.setCell (p := ⟨gx, 2, none⟩) (by show w.heap.size ≤ gx; omega) (.slice va vn vc), HD13.out.r.other (j := 2) (u := .slice va vn vc) (by omega : w.heap.size ≠ gx), HD13.out.d.other (j := 2) (u := .slice va vn vc) (by omega : w.heap.size + 1 ≠ gx)⟩ (GA4.out.setj 2 (.slice va vn vc)) (HF4.out.set (q := gx) (Nat.lt_succ_self _) 2 (.slice va vn vc)) (by omega : w.heap.size + 1 + 1 ≤ gx)
  go_wp2_with fail
  clear a2 f2 HD13 GA4 HF4
  have P1 := Lib.hid (show RPG w _ l13 b13 gx _ (arcCs v9 v10 va vn vc none 0 0) va vn xs (.slice none 0 0) 0 [] from P0)
  clear P0
  generalize W13.setCell ⟨gx, 2, none⟩ (.slice va vn vc) = W14 at *
  generalize hBB : W14.heap.size = B at *
  clear hBB hlt
  obtain ⟨⟨t15, l15, b15⟩, h15⟩ : ∃ p, dkTake 4 l13 b13 = p := ⟨_, rfl⟩
  refine (dknum_any (w.heap.size + 1) l13 b13 4 _ P1.out.g.d (by decide) (by decide)).mono ?_
  rintro e W15 ⟨rfl, rfl⟩
  obtain ⟨v15, n15⟩ : ∃ v, dkNum 4 l13 b13 = v := ⟨_, rfl⟩
  rw [n15]
  have hge15 := dkNum_ge 4 l13 b13
  rw [n15] at hge15
  have hl15 := (dkTake_len h15).1
  have N15 := Lib.hid n15
  have H15 := Lib.hid h15
  have P15 := Lib.hid (P1.out.dkE h15)
  clear n15 h15 P1
  generalize dkW _ _ _ _ _ = W15 at *
  obtain ⟨pn, rfl⟩ := Int.eq_ofNat_of_zero_le hge15
  have hpn4 : pn < 4294967296 := by have := dkNum_lt4 l13 b13; rw [N15.out] at this; omega
  have HI := Lib.hid (rfInv0 HV.out HT13.out H15.out N15.out HI0.out)
  clear HI0 H15 N15 HT13 HV
  go_wp2_with fail
  go_loopw [9] (fun kv wr => ∃ (k : Nat) (lk : List UInt8) (bad : Bool) (m : Nat) (acc : List (ByteArray × ValL)) (pd : Option Addr) (pc : Nat), kv = .int .i64 k ∧ k < 4294967296 ∧ RPG w wr lk bad gx B (arcCs v9 v10 va vn vc pd m pc) va vn xs (.slice pd m pc) m acc ∧ lk.length + 3 * m ≤ l.length ∧ (∀ p ∈ acc, p.1.size ≤ 255 ∧ p.2.Ok) ∧ RfInv l v9 v10 xs k lk bad acc) (fun kv _ => (intOf kv).toNat)
  case atStart => exact ⟨pn, l15, b15, 0, [], none, 0, rfl, hpn4, P15.out, by omega, by simp, HI.out⟩
  case round =>
    clear HI P15
    obtain ⟨k, lk, bad, m, acc, pd, pc, rfl, hk4, hP, hzk, hok, hinv⟩ := hrel
    have Q := Lib.hid hP
    have HO := Lib.hid hok
    have HI := Lib.hid hinv
    clear hP hok hinv
    have cz1 := Q.out.g.d.cell 1 _ rfl
    by_cases hk : 0 < k
    · obtain ⟨j, rfl⟩ : ∃ j, k = j + 1 := ⟨k - 1, by omega⟩
      cases bad
      case true =>
        as_aux_lemma =>
        have HN := Lib.hid (rdArc_no HI.out.bad)
        obtain ⟨r0, r1, r2, r3⟩ := AC.arc Q.out.g.r
        have fr := Q.out.g.r.frozen
        go_wp2_with fail
        refine bodyPost_ret (r24Read_results rfl rfl (Q.out.g.r.fill zeroArcCs rfl)) rfl (.inr ⟨HN.out, rfl, Bl.fill (Nat.le_refl _) zeroArcCs _ 0 Q.out.g.bl⟩)
      go_wp2_with fail
      clear cz1
      obtain ⟨⟨t20, l20, b20⟩, h20⟩ : ∃ p, dkTake 1 lk false = p := ⟨_, rfl⟩
      refine (dknum_any (w.heap.size + 1) lk false 1 _ Q.out.g.d (by decide) (by decide)).mono ?_
      rintro e W20 ⟨rfl, rfl⟩
      obtain ⟨v20, n20⟩ : ∃ v, dkNum 1 lk false = v := ⟨_, rfl⟩
      rw [n20]
      have hge20 := dkNum_ge 1 lk false
      rw [n20] at hge20
      have hl20 := (dkTake_len h20).1
      have N20 := Lib.hid n20
      have H20 := Lib.hid h20
      have Q20 := Lib.hid (Q.out.dkE h20)
      clear n20 h20 Q
      generalize dkW _ _ _ _ _ = W20 at *
      obtain ⟨kn, rfl⟩ := Int.eq_ofNat_of_zero_le hge20
      go_wp2_with fail
      obtain ⟨⟨key, l21, b21⟩, h21⟩ : ∃ p, dkTake kn l20 b20 = p := ⟨_, rfl⟩
      refine (dktake_any (w.heap.size + 1) l20 b20 kn _ Q20.out.g.d).mono ?_
      rintro e W21 ⟨rfl, rfl⟩
      rw [h21]
      dsimp only
      have hl21 := (dkTake_len h21).1
      have H21 := Lib.hid h21
      have Q21 := Lib.hid (Q20.out.dkE h21)
      clear h21 Q20
      generalize dkW _ _ _ _ _ = W21 at *
      go_wp2_with fail
      obtain ⟨⟨t22, l22, b22⟩, h22⟩ : ∃ p, dkTake 2 l21 b21 = p := ⟨_, rfl⟩
      refine (dknum_any (w.heap.size + 1) l21 b21 2 _ Q21.out.g.d (by decide) (by decide)).mono ?_
      rintro e W22 ⟨rfl, rfl⟩
      obtain ⟨v22, n22⟩ : ∃ v, dkNum 2 l21 b21 = v := ⟨_, rfl⟩
      rw [n22]
      have hge22 := dkNum_ge 2 l21 b21
      rw [n22] at hge22
      have hl22 := (dkTake_len h22).1
      have N22 := Lib.hid n22
      have H22 := Lib.hid h22
      have Q22 := Lib.hid (Q21.out.dkE h22)
      clear n22 h22 Q21
      generalize dkW _ _ _ _ _ = W22 at *
      obtain ⟨tn, rfl⟩ := Int.eq_ofNat_of_zero_le hge22
      go_wp2_with fail
      obtain ⟨⟨ta, l23, b23⟩, h23⟩ : ∃ p, dkTake tn l22 b22 = p := ⟨_, rfl⟩
      refine (dktake_any (w.heap.size + 1) l22 b22 tn _ Q22.out.g.d).mono ?_
      rintro e W23 ⟨rfl, rfl⟩
      rw [h23]
      dsimp only
      have hl23 := (dkTake_len h23).1
      have ST := Lib.hid (rfStep H20.out N20.out H21.out H22.out N22.out h23)
      have Q23 := Lib.hid (Q22.out.dkE h23)
      clear h23 Q22 H20 N20 H21 H22 N22
      generalize dkW _ _ _ _ _ = W23 at *
      have HOG := Lib.hid (fun w => refGetA_any (strL ta) ta w (strL_SB ta) (by rw [strL_size]; have := ST.out.tlen; omega))
      have HGC := Lib.hid (getA_codes ta)
      have HGB := Lib.hid (fun h => (putA_getA ta h).2.2)
      have HFAIL := Lib.hid (fun h => rdArc_no (HI.out.fail ST.out h))
      have HSTEP := Lib.hid (fun h => HI.out.step ST.out h)
      have HYES := Lib.hid ST.out.yes
      have hkz : (strL key).size ≤ 255 := by rw [strL_size]; exact ST.out.klen
      clear ST HI
      generalize getA ta = gta at *
      obtain ⟨⟨ak, ax, an2, az⟩, code⟩ := gta
      unfold outA at HOG
      dsimp only at HOG HGC HGB HFAIL HSTEP HYES
      generalize strL key = ks at *
      generalize strL ta = ts at *
      go_wp2_with fail
      refine (HOG.out _).mono ?_
      rintro e X6 ⟨rfl, hb6⟩
      have Q6 := Lib.hid (Q23.out.keep hb6)
      clear hb6 Q23 HOG
      have hgact := AC.new X6 _ rfl [.int .i64 ak, .float .f64 ax, .int .i64 an2, .string az] 66
      have hbact := (Bl.refl X6).alloc (.cells #[.int .i64 ak, .float .f64 ax, .int .i64 an2, .string az] 66)
      have Q7 := Lib.hid (Q6.out.keep hbact)
      have HGA := Lib.hid hgact
      have HROW := Lib.hid (fun q hq => (World.ownsRow.lt Q6.out.o.2 q hq).2)
      clear hgact hbact Q6
      rcases HGC.out with hcode | hcode
      case inr =>
        as_aux_lemma =>
        subst hcode
        have HN := Lib.hid (HFAIL.out (by decide))
        clear HGA HROW
        obtain ⟨r0, r1, r2, r3⟩ := AC.arc Q7.out.g.r
        have fr := Q7.out.g.r.frozen
        go_wp2_with fail
        refine bodyPost_ret (r24Read_results rfl rfl (Q7.out.g.r.fill zeroArcCs rfl)) rfl (.inr ⟨HN.out, rfl, Bl.fill (Nat.le_refl _) zeroArcCs _ 0 Q7.out.g.bl⟩)
      subst hcode
      have HAO := Lib.hid (HGB.out rfl)
      have HY := Lib.hid (HYES.out rfl)
      have HST := Lib.hid (HSTEP.out rfl)
      clear HGC HGB HFAIL HSTEP HYES
      obtain ⟨rfl, hy2⟩ := HY.out
      clear HY
      obtain ⟨⟨rb, rx, rn, rs⟩, hV⟩ : ∃ V : ValL, afterL ks noVal ⟨ak, ax, an2, az⟩ = V := ⟨_, rfl⟩
      rw [hV] at HST
      have HV2 := Lib.hid hV
      have HVO := Lib.hid (show (⟨rb, rx, rn, rs⟩ : ValL).Ok from hV ▸ after_ok noVal_ok HAO.out)
      clear hV
      go_upto_region 17 with fail
      generalize hx7 : X6.alloc _ = X7 at *
      clear hx7
      generalize X6.heap.size = ga at *
      have Q9 := Lib.hid (Q7.out.keep (Bl.refl X7).drew)
      have HGA9 := Lib.hid (HGA.out.keep (Bl.refl X7).drew)
      clear Q7 HGA
      refine wp_region_panicsT [0, 1, 2, 3, 4, 5, 6, 7] 4 (HasTwo gx (arcCs v9 v10 va vn vc pd m pc) ga [.int .i64 ak, .float .f64 ax, .int .i64 an2, .string az]) HasTwo.keep ⟨Q9.out.a, HGA9.out⟩ [11] (fun c W' => False) ?hR (by kernel_rfl) rfl (by kernel_rfl) (by kernel_rfl) (by kernel_rfl) ?_
      case hR => intro c tt W' h; exact h.elim
      generalize X7.drew = XD at *
      haveI : Nonempty (ExtC (HasTwo gx (arcCs v9 v10 va vn vc pd m pc) ga [.int .i64 ak, .float .f64 ax, .int .i64 an2, .string az])) := ⟨⟨XD, Q9.out.a, HGA9.out⟩⟩
      have d3 : ∀ q : ExtC (HasTwo gx (arcCs v9 v10 va vn vc pd m pc) ga [.int .i64 ak, .float .f64 ax, .int .i64 an2, .string az]), _ := fun q => (AC.arc q.ok.1).2.2.2
      have a0 : ∀ q : ExtC (HasTwo gx (arcCs v9 v10 va vn vc pd m pc) ga [.int .i64 ak, .float .f64 ax, .int .i64 an2, .string az]), _ := fun q => (AC.act q.ok.2).1
      have a1 : ∀ q : ExtC (HasTwo gx (arcCs v9 v10 va vn vc pd m pc) ga [.int .i64 ak, .float .f64 ax, .int .i64 an2, .string az]), _ := fun q => (AC.act q.ok.2).2.1
      have a2 : ∀ q : ExtC (HasTwo gx (arcCs v9 v10 va vn vc pd m pc) ga [.int .i64 ak, .float .f64 ax, .int .i64 an2, .string az]), _ := fun q => (AC.act q.ok.2).2.2.1
      have a3 : ∀ q : ExtC (HasTwo gx (arcCs v9 v10 va vn vc pd m pc) ga [.int .i64 ak, .float .f64 ax, .int .i64 an2, .string az]), _ := fun q => (AC.act q.ok.2).2.2.2
      have HAF := Lib.hid (fun w => refAfter_agg ks false 0 0 ⟨#[]⟩ ak ax an2 az rb rx rn rs w HV2 (Nat.le_trans hkz (by decide)) (Lib.hid noVal_ok) HAO)
      repeat (refine wpI_step rfl (fun K hK => ?_); go_simp; first | (refine hK _ ?_; clear hK K) | (apply Exists.intro; refine ⟨fun q => ?_, hK _ ?_⟩; (with_reducible exact HAF.out _); clear hK K))
      refine wpI_nil ?_
      clear d3 a0 a1 a2 a3 HAF this
      refine wpAnyP_one (i := 8) (by kernel_rfl) ?_
      intro Y1 hy1
      go_simp
      have hbl := (Bl.refl Y1).alloc (.cells #[.string ks, .bool rb, .float .f64 rx, .int .i64 rn, .string rs] 58)
      have hlit : (Y1.alloc (.cells #[.string ks, .bool rb, .float .f64 rx, .int .i64 rn, .string rs] 58)).heap[Y1.heap.size]? = some (.cells (pairCs (ks, ⟨rb, rx, rn, rs⟩)).toArray 58 (0, 0)) := heap_alloc_new Y1 _
      have Q10 := Lib.hid ((Q9.out.keep hy1).keep hbl)
      have HGA10 := Lib.hid ((HGA9.out.keep hy1).keep hbl)
      have HL := Lib.hid (SG.lit (size := 5) hlit rfl (by simp [pairCs, Value.oneCell']))
      clear hlit hbl hy1 Q9 HGA9
      refine ⟨⟨Q10.out.a, HGA10.out⟩, ?_⟩
      generalize Y1.alloc _ = Y2 at *
      generalize Y1.heap.size = gl at *
      refine wpAnyP_one (i := 9) (by kernel_rfl) ?_
      intro Y3 hy3
      have Q11 := Lib.hid (Q10.out.keep hy3)
      have HGA11 := Lib.hid (HGA10.out.keep hy3)
      have HL2 := Lib.hid (HL.out.keep hy3)
      clear HL Q10 HGA10 hy3
      refine pOp_appG rfl rfl _ _ _ rfl el_pair B (.slice pd m pc) m (cellsP acc) rfl Q11.out.o.2 Q11.out.lt (some ⟨gl, 0, none⟩) 1 1 (pairCs (ks, ⟨rb, rx, rn, rs⟩)) rfl HL2.out (by unfold maxLen; omega) (by omega) ?_
      intro v' Y4 ho hgr
      have Q12 := Lib.hid (Q11.out.app (ks, ⟨rb, rx, rn, rs⟩) ho hgr)
      have HGA12 := Lib.hid (HGA11.out.grown hgr (fun e => absurd (HROW.out _ e.symm) (Nat.lt_irrefl _)))
      clear ho hgr Q11 HL2 HGA11
      obtain ⟨pd', pc', rfl⟩ := Q12.out.o.form
      refine ⟨fun _ => ⟨Q12.out.a, HGA12.out⟩, ?_⟩
      simp only [Act.put, List.setIfInBounds_toArray]
      refine wpAnyP_one (i := 10) (by kernel_rfl) ?_
      intro Y5 hy5
      go_simp
      have Q13 := Lib.hid (Q12.out.keep hy5)
      have HGA13 := Lib.hid (HGA12.out.keep hy5)
      clear hy5 Q12 HGA12
      refine ⟨⟨Q13.out.a, HGA13.out⟩, ?_⟩
      refine wpAnyP_one (i := 11) (by kernel_rfl) ?_
      intro Y6 hy6
      have Q14 := Lib.hid (Q13.out.keep hy6)
      clear hy6 Q13 HGA13
      have f3 := Q14.out.a.frozen 3
      have e3 := Q14.out.a.cell 3 _ rfl
      go_simp
      have Q15 := Lib.hid (Q14.out.store 3 (.slice pd' (m + 1) pc'))
      clear f3 e3 Q14
      generalize World.setCell _ _ (.slice pd' (m + 1) pc') = Y7 at *
      refine wpAnyP_done (by kernel_rfl) ?_
      intro Y8 hy8
      have Q16 : Hid (RPG w Y8 l23 false gx B (arcCs v9 v10 va vn vc pd' (m + 1) pc') va vn xs (.slice pd' (m + 1) pc') (m + 1) (acc ++ [(ks, ⟨rb, rx, rn, rs⟩)])) := Lib.hid (Q15.out.keep hy8)
      clear Q15 hy8
      go_wp2_with fail
      go_roundw
      case rel => exact ⟨j, l23, false, m + 1, _, pd', pc', by go_num, by omega, Q16.out, by omega, fun p hp => by
        rcases List.mem_append.1 hp with h | h
        · exact HO.out p h
        · obtain rfl := List.mem_singleton.1 h
          exact ⟨hkz, HVO.out⟩, HST.out⟩
      case measure => simp [intOf] <;> omega
    · obtain rfl : k = 0 := by omega
      cases bad
      case true =>
        as_aux_lemma =>
        have HN := Lib.hid (rdArc_no HI.out.bad)
        obtain ⟨r0, r1, r2, r3⟩ := AC.arc Q.out.g.r
        have fr := Q.out.g.r.frozen
        go_wp2_with fail
        refine bodyPost_ret (r24Read_results rfl rfl (Q.out.g.r.fill zeroArcCs rfl)) rfl (.inr ⟨HN.out, rfl, Bl.fill (Nat.le_refl _) zeroArcCs _ 0 Q.out.g.bl⟩)
      have HLAST := Lib.hid HI.out.last
      have HOKA : Hid (ArcOk ⟨v9, v10, xs, acc⟩) := Lib.hid (fun p hp => by have := HO.out p hp; exact ⟨by omega, this.2⟩)
      have hk6 : m ≤ 1000000 := by omega
      have HFP : Hid (FarPO B wr pd m pc acc) := Lib.hid Q.out.o
      have HWR := Lib.hid (fun hn => rf_written (a := ⟨v9, v10, xs, acc⟩) (show l.length ≤ 524288 by omega) HLAST.out hn)
      have HWI := Lib.hid (wr_iff ⟨v9, v10, xs, acc⟩ l (by omega))
      obtain ⟨b0, b1, b2, b3⟩ := AC.arc Q.out.a
      clear HI HLAST
      go_wp2_with fail
      clear b0 b1 b2 b3 cz1
      refine (r24Write_any ⟨v9, v10, xs, acc⟩ va vn vc pd m pc _ Q.out.x.far.1 (HFP.out.far hk6).1 HOKA.out).mono ?_
      rintro e Z1 ⟨rfl, hb1⟩
      have Q1 := Lib.hid (Q.out.keep hb1)
      have HFP1 := Lib.hid (HFP.out.keep hb1)
      clear hb1 Q HFP
      generalize wrC ⟨v9, v10, xs, acc⟩ = cc at *
      by_cases hcc : cc = 0
      · subst hcc
        by_cases hw : wrL ⟨v9, v10, xs, acc⟩ = l
        · have HVA := Lib.hid (HWI.out.1 ⟨rfl, hw⟩)
          rw [hw, HSL.out]
          clear hw HWR HWI
          obtain ⟨b0, b1, b2, b3⟩ := AC.arc Q1.out.a
          obtain ⟨r0, r1, r2, r3⟩ := AC.arc Q1.out.g.r
          have fr := Q1.out.g.r.frozen
          go_wp2_with fail
          refine bodyPost_ret (r24Read_results rfl rfl (Q1.out.g.r.fill (arcCs v9 v10 va vn vc pd m pc) rfl)) rfl (.inl ⟨⟨v9, v10, xs, acc⟩, va, vn, vc, pd, m, pc, ⟨HVA.out.1, HOKA.out, HVA.out.2⟩, rfl, ?_, ?_, ?_⟩)
          · exact (FarO.fill (q := w.heap.size) (by have := Q1.out.ge; omega) (arcCs v9 v10 va vn vc pd m pc) _ 0 Q1.out.x).mono (by have := Q1.out.ge; omega)
          · exact (FarPO.fill (q := w.heap.size) (by have := Q1.out.ge; have := Q1.out.gb; omega) (arcCs v9 v10 va vn vc pd m pc) _ 0 HFP1.out).mono (by have := Q1.out.ge; have := Q1.out.gb; omega)
          · exact Bl.fill (Nat.le_refl _) (arcCs v9 v10 va vn vc pd m pc) _ 0 Q1.out.g.bl
        · have HN := Lib.hid (HWR.out (fun q => hw q.2))
          have qw : ((strL (wrL ⟨v9, v10, xs, acc⟩)).toList == sl.toList) = false := by rw [← HSL.out, SB.beq (strL_SB _) (strL_SB _)]; exact decide_eq_false hw
          clear hw HWR HWI
          generalize strL (wrL ⟨v9, v10, xs, acc⟩) = sw at *
          obtain ⟨r0, r1, r2, r3⟩ := AC.arc Q1.out.g.r
          have fr := Q1.out.g.r.frozen
          go_wp2_with fail
          refine bodyPost_ret (r24Read_results rfl rfl (Q1.out.g.r.fill zeroArcCs rfl)) rfl (.inr ⟨HN.out, rfl, Bl.fill (Nat.le_refl _) zeroArcCs _ 0 Q1.out.g.bl⟩)
      · have HN := Lib.hid (HWR.out (fun q => hcc q.1))
        have qc : (cc == 0) = false := by rw [beq_eq_false_iff_ne]; exact hcc
        clear HWR HWI
        generalize strL (wrL ⟨v9, v10, xs, acc⟩) = sw at *
        obtain ⟨r0, r1, r2, r3⟩ := AC.arc Q1.out.g.r
        have fr := Q1.out.g.r.frozen
        go_wp2_with fail
        refine bodyPost_ret (r24Read_results rfl rfl (Q1.out.g.r.fill zeroArcCs rfl)) rfl (.inr ⟨HN.out, rfl, Bl.fill (Nat.le_refl _) zeroArcCs _ 0 Q1.out.g.bl⟩)
end Go.Proofs.YtaplefelfiefaaaGreat
end

/- slices of ints that are written out; a string of known bytes. By an AI agent. -/
section
namespace Go.Proofs.YtaplefelfiefaaaGreat
open Go.RowKit

theorem IA.lit (w : World) (xs : List Int) (t : TypeId) (hc : xs.length ≤ 1000) (hw : ∀ x ∈ xs, -9223372036854775808 ≤ x ∧ x ≤ 9223372036854775807) :
    IA (w.alloc (.cells (xs.map (Value.int .i64)).toArray t)) (some ⟨w.heap.size, 0, none⟩) xs.length xs :=
  ⟨rfl, by omega, fun j hj => ⟨w.heap.size, 0, rfl, fun j hj => by
    rw [Nat.zero_add, cell_of_row _ w.heap.size j _ t (0, 0) (heap_alloc_new w _)]
    simp [nth_eq hj, hj]⟩, hw⟩



end Go.Proofs.YtaplefelfiefaaaGreat
end
