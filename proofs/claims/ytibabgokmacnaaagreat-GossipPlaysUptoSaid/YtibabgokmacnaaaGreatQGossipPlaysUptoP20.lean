import Derived.Test.YtibabgokmacnaaaGreatQGossipPlaysUptoP17
import Derived.Test.YtibabgokmacnaaaGreatQGossipPlaysUptoP18
import Derived.Test.YtibabgokmacnaaaGreatQGossipPlaysUptoP19
import Derived.Test.YtibabgokmacnaaaGreatQGossipPlaysUptoP12

/- Lag of the reference's rows. By an AI agent. -/
section
set_option linter.unusedVariables false
set_option linter.unusedSimpArgs false
namespace Go.Proofs.YtibabgokmacnaaaGreat
open Go.RowKit

attribute [local go_sem] eOp eOper eUpon

theorem lagK_zero (s b : List Int) : lagK s b 0 = 0 := rfl
set_option maxHeartbeats 1600000 in
set_option maxRecDepth 100000 in
theorem rlag_any (B g : Nat) (rows : List (List Int)) (w : World) (hr : RG B w g rows) (hn8 : rows.length ≤ 8) (hk : 0 < rows.length) (hl : (allL min rows).length = (allL max rows).length) (hp : 0 < (allL min rows).length) :
    Calls Tryz.prog 46 #[.pointer (some ⟨g, 0, none⟩)] w fun e w' => ∃ x, e = .returned (.float .f64 x) ∧ x < two64 ∧ fkey x = lagK (allL min rows) (allL max rows) (allL min rows).length ∧ Bl w w' := by
  go_enter Tryz.func46, Tryz.ntmps46
  go_wp2_with fail
  refine (rstable_any B g rows _ hr hn8 hk).mono ?_
  rintro e w2 ⟨v2, rfl, hf2, hb2⟩
  go_wp2_with fail
  refine (rbest_any B g rows _ (hr.keep hb2) hn8 hk).mono ?_
  rintro e w3 ⟨v3, rfl, hf3, hb3⟩
  have hb3' := hb2.trans hb3
  obtain ⟨sa, ns, cs, rfl, hs⟩ := hf2.si
  obtain ⟨ba, nb, cb, rfl, hb⟩ := hf3.si
  have hs := hs.keep hb3
  clear hf2 hf3 hb2 hb3
  generalize hsl : allL min rows = s at *
  generalize hbl : allL max rows = b at *
  obtain rfl : ns = nb := by rw [← hs.len, ← hb.len]; exact hl
  have HS := Lib.hid hs.len
  have hp : 0 < ns := by rw [← hs.len]; exact hp
  have HSL := Lib.hid hsl
  have HBL := Lib.hid hbl
  clear hsl hbl hl
  have hs1 := hs.cap
  go_wp2_with fail
  go_loopw [5, 6] (fun v i wr => ∃ (k x : Nat), k ≤ ns ∧ i = .int .i64 k ∧ v = .float .f64 x ∧ x < two64 ∧ (k = 0 ∨ fkey x = lagK s b k) ∧ Bl w3 wr) (fun _ i _ => ns - (intOf i).toNat)
  case atStart => exact ⟨0, 0, Nat.zero_le _, rfl, rfl, by decide, .inl rfl, Bl.refl _⟩
  case round =>
    obtain ⟨k, x, hkl, rfl, rfl, hx, hkey, hbr⟩ := hrel
    have HKEY := Lib.hid hkey; clear hkey
    by_cases hlt : k < ns
    · obtain ⟨sb, so, rfl, hcs⟩ := hs.cells k hlt
      obtain ⟨bb, bo, rfl, hcb⟩ := hb.cells k hlt
      have hcs1 := Lib.hid (hbr.cell (hcs k hlt))
      have hcb1 := Lib.hid (hbr.cell (hcb k hlt))
      have HBR := Lib.hid hbr
      clear hcs hcb hbr
      go_upto_region 6 with fail
      refine wp_region_ext 8 3 (by kernel_rfl) rfl (by kernel_rfl) (by kernel_rfl) ?_
      simp only [List.take_succ_cons, List.take_zero]
      have HBZ := Lib.hid (HBR.out.drew)
      have f1 := Lib.hid ((Bl.refl wr).drew.cell hcs1.out)
      have f2 := Lib.hid ((Bl.refl wr).drew.cell hcb1.out)
      clear HBR hcs1 hcb1
      generalize wr.drew = Z at *
      have c1 : ∀ q : Ext Z, _ := fun q => q.bl.cell f1.out
      have c2 : ∀ q : Ext Z, _ := fun q => q.bl.cell f2.out
      repeat (refine wpE_step (fun K hK => ?_); go_simp; first | (refine hK _ ?_; clear hK K) | (apply Exists.intro; refine ⟨fun q => ?_, hK _ ?_⟩; (fail); clear hK K))
      refine wpE_nil ?_
      clear c1 c2 f1 f2
      refine wpAnyE_one (i := 8) (by kernel_rfl) ?_
      intro W2 hb2
      go_simp
      refine (refRatio_any _ _ _).mono ?_
      rintro e W3 ⟨q, rfl, hq, hb3⟩
      refine ⟨_, rfl, hb2.trans hb3, ?_⟩
      refine wpAnyE_one (i := 9) (by kernel_rfl) ?_
      intro W4 hb4
      obtain ⟨r, wr2, hr2, hrun2, hb5⟩ := run_float .sub (.inr rfl) 69 4607182418800017408 q W4
      have HK := Lib.hid (kOf_step hq hr2)
      have hr3 := hr2.1
      have HB5 := Lib.hid (((hb2.trans hb3).trans hb4).trans hb5)
      clear hq hr2 hb2 hb3 hb4 hb5
      go_simp
      refine ⟨HB5.out, ?_⟩
      refine wpAnyE_one (i := 10) (by kernel_rfl) ?_
      intro W6 hb6
      have HB6 := Lib.hid (HB5.out.trans hb6)
      clear hb6 HB5 hrun2
      go_simp
      refine ⟨HB6.out, ?_⟩
      refine wpAnyE_done (by kernel_rfl) ?_
      intro W7 hb7
      have HB7 := Lib.hid (HBZ.out.trans (HB6.out.trans hb7))
      clear HB6 hb7 HBZ
      by_cases hk0 : k = 0
      · subst hk0
        go_wp2_with fail
        refine (refMax_any r r _ hr3 hr3).mono ?_
        rintro e W8 ⟨rfl, rfl⟩
        have HM := Lib.hid (rmax_key r r)
        have hml := rmax_lt hr3 hr3
        generalize rmax r r = m at *
        go_wp2_with fail
        go_roundw
        case rel => exact ⟨1, m, by omega, by go_num, rfl, hml, .inr (by rw [HM.out, HK.out, lagK_succ, lagK_zero, Nat.max_self, Nat.zero_max]), HB7.out⟩
        case measure => simp [intOf]; omega
      · have hk1 := Lib.hid (HKEY.out.resolve_left hk0)
        have q0 : ((k : Int) == 0) = false := by rw [beq_eq_false_iff_ne]; omega
        go_wp2_with fail
        refine (refMax_any x r _ hx hr3).mono ?_
        rintro e W8 ⟨rfl, rfl⟩
        have HM := Lib.hid (rmax_key x r)
        have hml := rmax_lt hx hr3
        generalize rmax x r = m at *
        go_wp2_with fail
        go_roundw
        case rel => exact ⟨k + 1, m, by omega, by go_num, rfl, hml, .inr (by rw [HM.out, HK.out, hk1.out, lagK_succ]), HB7.out⟩
        case measure => simp [intOf]; omega
    · obtain rfl : k = ns := by omega
      go_wp2_with fail
      go_ret
      exact ⟨_, rfl, hx, by rw [HSL.out, HBL.out, HS.out]; exact HKEY.out.resolve_left (by omega), hb3'.trans hbr⟩
end Go.Proofs.YtibabgokmacnaaaGreat
end

/- gossip.Set that is refused; gossip.New of no number. By an AI agent. -/
section
namespace Go.Proofs.YtibabgokmacnaaaGreat
open Go.RowKit

theorem new_no (n : Int) (w : World) (h : n < 1 ∨ 8 < n) :
    Calls Tryz.prog 33 #[.int .i64 n] w fun e w' => e = .returned (.pointer none) ∧ w = w' := by
  by_cases h1 : n < 1
  · clear h
    go_enter Tryz.func33, Tryz.ntmps33
    go_wp2_with fail
    go_ret
    exact ⟨rfl, rfl⟩
  · have h8 : 8 < n := by omega
    clear h
    go_enter Tryz.func33, Tryz.ntmps33
    go_wp2_with fail
    go_ret
    exact ⟨rfl, rfl⟩

set_option maxHeartbeats 800000 in
theorem set_index (B g m c : Nat) (ad : Option Addr) (i : Int) (rows : List (List Int)) (w : World) (hr : RG B w g rows) (h1 : 1 ≤ rows.length) (hn8 : rows.length ≤ 8) (hi : i < 0 ∨ (rows.length : Int) ≤ i) :
    Calls Tryz.prog 38 #[.pointer (some ⟨g, 0, none⟩), .int .i64 i, .slice ad m c] w fun e w' => e = .returned (.int .i64 5) ∧ w = w' := by
  obtain ⟨v, hc, _, hor⟩ := hr
  obtain ⟨a0, cap, rfl⟩ := hor.slice
  have hcc := hc.cell
  have q0 : decide (rows.length = 0) = false := decide_eq_false (by omega)
  by_cases h0 : i < 0
  · clear hi
    go_enter Tryz.func38, Tryz.ntmps38
    go_wp2_with fail
    refine (none_any g _ _ _ _ hc).mono ?_
    rintro e w1 ⟨rfl, rfl⟩
    rw [q0]
    go_wp2_with fail
    go_ret
    exact ⟨rfl, rfl⟩
  · have h2 : (rows.length : Int) ≤ i := by omega
    clear hi
    go_enter Tryz.func38, Tryz.ntmps38
    go_wp2_with fail
    refine (none_any g _ _ _ _ hc).mono ?_
    rintro e w1 ⟨rfl, rfl⟩
    rw [q0]
    go_wp2_with fail
    go_ret
    exact ⟨rfl, rfl⟩

set_option maxHeartbeats 800000 in
theorem set_arg (B g m c k : Nat) (ad : Option Addr) (rows : List (List Int)) (xs : List Int) (w : World) (hr : RG B w g rows) (h1 : 1 ≤ rows.length) (hn8 : rows.length ≤ 8) (hk : k < rows.length) (hx : IA w ad m xs) (hv : validL xs = false ∨ m ≠ rows.length) :
    Calls Tryz.prog 38 #[.pointer (some ⟨g, 0, none⟩), .int .i64 k, .slice ad m c] w fun e w' => e = .returned (.int .i64 1) ∧ w = w' := by
  obtain ⟨v, hc, _, hor⟩ := hr
  obtain ⟨a0, cap, rfl⟩ := hor.slice
  have hcc := hc.cell
  have q0 : decide (rows.length = 0) = false := decide_eq_false (by omega)
  have hkn : ((k : Nat) : Int) < (rows.length : Int) := by omega
  have hm := hx.cap
  cases hvx : validL xs
  · clear hv
    go_enter Tryz.func38, Tryz.ntmps38
    go_wp2_with fail
    refine (none_any g _ _ _ _ hc).mono ?_
    rintro e w1 ⟨rfl, rfl⟩
    rw [q0]
    go_wp2_with fail
    refine (valid_any ad _ c xs _ hx).mono ?_
    rintro e w1 ⟨rfl, rfl⟩
    rw [hvx]
    go_wp2_with fail
    go_ret
    exact ⟨rfl, rfl⟩
  · have q1 : ((m : Int) != (rows.length : Int)) = true := by
      rcases hv with h | h
      · rw [hvx] at h; cases h
      · simp; omega
    clear hv
    go_enter Tryz.func38, Tryz.ntmps38
    go_wp2_with fail
    refine (none_any g _ _ _ _ hc).mono ?_
    rintro e w1 ⟨rfl, rfl⟩
    rw [q0]
    go_wp2_with fail
    refine (valid_any ad _ c xs _ hx).mono ?_
    rintro e w1 ⟨rfl, rfl⟩
    rw [hvx]
    go_wp2_with fail
    go_ret
    exact ⟨rfl, rfl⟩
end Go.Proofs.YtibabgokmacnaaaGreat
end
