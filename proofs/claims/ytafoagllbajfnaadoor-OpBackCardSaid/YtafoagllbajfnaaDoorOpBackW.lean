/- the walk of OpBack. By an AI agent. -/
import Derived.Test.YtafoagllbajfnaaDoorOpSame
import Derived.Test.YtafoagllbajfnaaDoorOpGet2
import Derived.Test.YtafoagllbajfnaaDoorOp7
import Derived.Test.YtafoagllbajfnaaDoorOpenA
import Derived.Test.YtafoagllbajfnaaDoorExt2
import Derived.Laws.BitsAllLaws
import Derived.Deep.DeepCutAuto
namespace Go.Proofs.YtafoagllbajfnaaDoor
open Go.RowKit
attribute [local go_sem] eOp eOper eUpon

theorem get_agg (s : ByteArray) (l : List UInt8) (k : Int) (x : Nat) (n : Int) (z : ByteArray) (c : Int) (w : World) (hs : Hid (SB s l)) (h : Hid (getA l = (⟨k, x, n, z⟩, c))) :
    Calls Tryd.prog 54 #[.string s] w fun e w' => e = .returned (.tuple #[.agg #[.int .i64 k, .float .f64 x, .int .i64 n, .string z], .int .i64 c]) ∧ Bl w w' := by
  have := oget_any s l w hs.out
  rw [h.out] at this
  exact this

set_option maxHeartbeats 800000 in
set_option maxRecDepth 100000 in
theorem back_long (ak : Int) (ax : Nat) (an : Int) (az : ByteArray) (by_ : Int) (w : World) (hT : Tab w) (hz : ¬ az.size ≤ 3000) :
    Calls Tryd.prog 16 #[.agg #[.int .i64 ak, .float .f64 ax, .int .i64 an, .string az], .int .i64 by_] w fun e w' => e = .returned (.bool true) ∧ Bl w w' := by
  go_enter Tryd.func16, Tryd.ntmps16
  go_wp2_with fail
  refine (alive6_any _ (hT.keep ((Bl.refl w).alloc _))).mono ?_
  rintro e w1 ⟨rfl, hb1⟩
  go_wp2_with fail
  go_ret
  exact ⟨rfl, ((Bl.refl w).alloc _).trans hb1⟩
set_option maxHeartbeats 800000 in
set_option maxRecDepth 100000 in
theorem back_not (ak : Int) (ax : Nat) (an : Int) (az : ByteArray) (by_ : Int) (w : World) (hT : Tab w) (hz : az.size ≤ 3000) (Oa : Hid (ActL.Ok ⟨ak, ax, an, az⟩)) (H : Hid (SB ⟨#[]⟩ (putS ⟨ak, ax, an, az⟩) ∧ putC ⟨ak, ax, an, az⟩ = 40)) :
    Calls Tryd.prog 16 #[.agg #[.int .i64 ak, .float .f64 ax, .int .i64 an, .string az], .int .i64 by_] w fun e w' => e = .returned (.bool true) ∧ Bl w w' := by
  go_enter Tryd.func16, Tryd.ntmps16
  go_wp2_with fail
  refine (put_agg ak ax an az ⟨#[]⟩ 40 _ Oa H).mono ?_
  rintro e w1 ⟨rfl, hb1⟩
  have HB := ((Bl.refl w).alloc _).trans hb1
  clear hb1
  go_wp2_with fail
  refine (alive6_any _ (hT.keep HB)).mono ?_
  rintro e w2 ⟨rfl, hb2⟩
  go_wp2_with fail
  go_ret
  exact ⟨rfl, HB.trans hb2⟩
set_option maxHeartbeats 1600000 in
set_option maxRecDepth 100000 in
theorem back_yes (ak : Int) (ax : Nat) (an : Int) (az : ByteArray) (by_ : Int) (s : ByteArray) (xk : Int) (xx : Nat) (xn : Int) (xz : ByteArray) (w : World) (hT : Tab w) (hz : az.size ≤ 3000) (Oa : Hid (ActL.Ok ⟨ak, ax, an, az⟩)) (Ox : Hid (ActL.Ok ⟨xk, xx, xn, xz⟩))
    (H : Hid (SB s (putS ⟨ak, ax, an, az⟩) ∧ putC ⟨ak, ax, an, az⟩ = 0)) (l : List UInt8) (HS : Hid (SB s l)) (G1 : Hid (getA l = (⟨xk, xx, xn, xz⟩, 0))) (S1 : Hid (sameA ⟨ak, ax, an, az⟩ ⟨xk, xx, xn, xz⟩ = true))
    (q : (by_ % 256 == 0) = true) (q2 : ((s.size : Int) == 0) = false) :
    Calls Tryd.prog 16 #[.agg #[.int .i64 ak, .float .f64 ax, .int .i64 an, .string az], .int .i64 by_] w fun e w' => e = .returned (.bool true) ∧ Bl w w' := by
  have hsf := store_float
  go_enter Tryd.func16, Tryd.ntmps16
  go_wp2_with fail
  refine (put_agg ak ax an az s 0 _ Oa H).mono ?_
  rintro e w1 ⟨rfl, hb1⟩
  have G := (Box.new w ak ax an az _).keep hb1
  clear hb1
  go_wp2_with fail
  refine (get_agg s l xk xx xn xz 0 _ HS G1).mono ?_
  rintro e w2 ⟨rfl, hb2⟩
  have G := G.keep hb2
  clear hb2
  obtain ⟨a0, a1, a2, a3⟩ := G.a.act
  obtain ⟨l0, l1, l2, l3⟩ := G.later
  go_wp2_with fail
  refine (sameA_agg _ _ _ _ _ _ _ _ _ _ S1 Oa Ox).mono ?_
  rintro e w3 ⟨rfl, hb3⟩
  have HB := (G.bl.alloc (.cells #[.int .i64 xk, .float .f64 xx, .int .i64 xn, .string xz] 24)).trans hb3
  clear hb3 a0 a1 a2 a3 l0 l1 l2 l3 G
  go_wp2_with fail
  refine (alive6_any _ (hT.keep HB)).mono ?_
  rintro e w4 ⟨rfl, hb4⟩
  go_wp2_with fail
  go_ret
  exact ⟨rfl, HB.trans hb4⟩
/-- another first byte -/
structure NewB (s : ByteArray) (X : Int) (u v : ByteArray) : Prop where
  rest : s.extract 1 s.size = v
  one : strOfNums [X] = u
theorem conv_one {W : World} {g : Nat} {c : Int} (h : AC W g [.int .u8 c]) : (convert 76 9 (.slice (some ⟨g, 0, none⟩) 1 1)).run Tryd.prog W = .ok (.string (strOfNums [c])) W :=
  AR.string (xs := [c]) h 0 1 1 rfl
set_option maxHeartbeats 3200000 in
set_option maxRecDepth 100000 in
theorem back_chg_no (ak : Int) (ax : Nat) (an : Int) (az : ByteArray) (by_ : Int) (s : ByteArray) (xk : Int) (xx : Nat) (xn : Int) (xz : ByteArray) (yk : Int) (yx : Nat) (yn : Int) (yz : ByteArray) (w : World) (hT : Tab w) (hz : az.size ≤ 3000) (Oa : Hid (ActL.Ok ⟨ak, ax, an, az⟩)) (Ox : Hid (ActL.Ok ⟨xk, xx, xn, xz⟩))
    (H : Hid (SB s (putS ⟨ak, ax, an, az⟩) ∧ putC ⟨ak, ax, an, az⟩ = 0)) (l : List UInt8) (HS : Hid (SB s l)) (hp : 0 < s.size) (hsz : s.size ≤ 1026) (G1 : Hid (getA l = (⟨xk, xx, xn, xz⟩, 0))) (S1 : Hid (sameA ⟨ak, ax, an, az⟩ ⟨xk, xx, xn, xz⟩ = true))
    (q : (by_ % 256 == 0) = false) (q2 : ((s.size : Int) == 0) = false) (X : Int) (hX : bits .xor .u8 (s[0].toNat : Int) (IntKind.u8.wrap by_) = X) (u v : ByteArray) (l2 : List UInt8) (N : Hid (NewB s X u v)) (hu : u.size = 1) (hv : v.size ≤ 1026) (HL2 : Hid (SB (u ++ v) l2)) (G3 : Hid (getA l2 = (⟨yk, yx, yn, yz⟩, 4))) :
    Calls Tryd.prog 16 #[.agg #[.int .i64 ak, .float .f64 ax, .int .i64 an, .string az], .int .i64 by_] w fun e w' => e = .returned (.bool true) ∧ Bl w w' := by
  have hsf := store_float
  have hrest := N.out.rest
  have GB0 := Box.new w ak ax an az 24
  go_enter Tryd.func16, Tryd.ntmps16
  go_wp2_with fail
  generalize w.alloc (.cells #[.int .i64 ak, .float .f64 ax, .int .i64 an, .string az] 24) = wb at *
  refine (put_agg ak ax an az s 0 _ Oa H).mono ?_
  rintro e w1 ⟨rfl, hb1⟩
  have G := GB0.keep hb1
  clear hb1
  go_wp2_with fail
  refine (get_agg s l xk xx xn xz 0 _ HS G1).mono ?_
  rintro e w2 ⟨rfl, hb2⟩
  have G := G.keep hb2
  clear hb2
  obtain ⟨a0, a1, a2, a3⟩ := G.a.act
  obtain ⟨l0, l1, l2', l3⟩ := G.later
  go_wp2_with fail
  refine (sameA_agg _ _ _ _ _ _ _ _ _ _ S1 Oa Ox).mono ?_
  rintro e w3 ⟨rfl, hb3⟩
  have G := G.keep (((Bl.refl w2).alloc (.cells #[.int .i64 xk, .float .f64 xx, .int .i64 xn, .string xz] 24)).trans hb3)
  clear hb3 a0 a1 a2 a3 l0 l1 l2' l3
  have hp1 : (1 : Int) ≤ (s.size : Int) := by omega
  have hzz : ((9223372036854775807 : Nat) < 1 + v.size) = False := by simp; omega
  go_upto_region 11 with fail
  go_cut [9, 10] (fun s9 s10 W => ∃ g, s9 = .pointer (some ⟨g, 0, none⟩) ∧ s10 = .int .i64 4 ∧ Box w W ak ax an az ∧ AC W g [.int .i64 yk, .float .f64 yx, .int .i64 yn, .string yz])
  case first =>
    refine wp_region_idx [0, 1, 2, 3, 4, 7, 8] 10 (Bl w3.drew) (fun _ _ h k => h.trans k) (Bl.refl _) (by kernel_rfl) rfl (by kernel_rfl) (by kernel_rfl) ?_
    have GD := G.keep ((Bl.refl w3).drew)
    clear G
    generalize w3.drew = W at *
    repeat (refine wpI_step rfl (fun K hK => ?_); go_simp; refine hK _ ?_; clear hK K)
    refine wpI_nil ?_
    refine wpAnyE_all (rs := [5, 14]) (by kernel_rfl) (by simp) ?_
    intro i hi W1 hc1
    simp only [List.mem_cons, List.not_mem_nil, or_false] at hi
    rcases hi with rfl | rfl
    · have hb1 := hc1
      clear hc1
      go_simp
      obtain ⟨j, hj⟩ : ∃ g, g = W1.heap.size := ⟨_, rfl⟩
      rw [← hj]
      have hzj : W.heap.size ≤ j := by rw [hj]; exact hb1.size
      have cj := AC.new W1 j hj [.int .u8 X] 5
      replace hb1 := hb1.alloc (.cells #[.int .u8 X] 5)
      clear hj
      refine ⟨hb1, ?_⟩
      generalize W1.alloc (.cells #[.int .u8 X] 5) = X1 at *
      refine wpAnyE_sub (C' := (fun W' => Bl W W' ∧ AC W' j [.int .u8 X])) (fun _ h => h.1) ?_
      have hst : ∀ n : ExtC (fun W' => Bl W W' ∧ AC W' j [.int .u8 X]), (convert 76 9 (.slice (some ⟨j, 0, none⟩) 1 1)).run Tryd.prog n.at = .ok (.string u) n.at := fun n => by have h := conv_one n.ok.2; rw [N.out.one] at h; exact h
      have hne0 : Nonempty (ExtC (fun W' => Bl W W' ∧ AC W' j [.int .u8 X])) := ⟨⟨X1, hb1, cj⟩⟩
      refine wpAnyE_idx (C := (fun W' => Bl W W' ∧ AC W' j [.int .u8 X])) (fun _ _ h k => ⟨h.1.trans k, h.2.keep k⟩) (by kernel_rfl) 3 _ ⟨hb1, cj⟩ [6, 9, 10, 11, 12, 13] _ _ (by kernel_rfl) ?_
      repeat (refine wpI_step rfl (fun K hK => ?_); go_simp; first | (refine hK _ ?_; clear hK K) | (apply Exists.intro; refine ⟨fun n => ?_, hK _ ?_⟩; (exact get_agg (u ++ v) l2 yk yx yn yz 4 n.at HL2 G3); clear hK K))
      refine wpI_nil ?_
      clear hst hne0
      refine wpAnyE_one (i := 14) (by kernel_rfl) ?_
      intro W3 hbn
      replace cj := cj.keep hbn
      replace hb1 := hb1.trans hbn
      clear hbn
      go_simp
      obtain ⟨g, hg⟩ : ∃ g, g = W3.heap.size := ⟨_, rfl⟩
      rw [← hg]
      have hzg : W.heap.size ≤ g := by rw [hg]; exact hb1.size
      have hnejg : j ≠ g := by have := cj.lt; omega
      have cg := AC.new W3 g hg [.int .i64 0, .float .f64 0, .int .i64 0, .string ⟨#[]⟩] 24
      replace cj := cj.keep ((Bl.refl W3).alloc (.cells #[.int .i64 0, .float .f64 0, .int .i64 0, .string ⟨#[]⟩] 24))
      replace hb1 := hb1.alloc (.cells #[.int .i64 0, .float .f64 0, .int .i64 0, .string ⟨#[]⟩] 24)
      clear hg
      refine ⟨⟨hb1, cj⟩, ?_⟩
      generalize W3.alloc (.cells #[.int .i64 0, .float .f64 0, .int .i64 0, .string ⟨#[]⟩] 24) = X2 at *
      refine wpAnyE_one (i := 15) (by kernel_rfl) ?_
      intro W4 hbn
      replace cg := cg.keep hbn
      replace cj := cj.keep hbn
      replace hb1 := hb1.trans hbn
      clear hbn
      have hnj : j ≠ g := hnejg
      obtain ⟨g0, g1, g2, g3⟩ := cg.act
      have f0 := cg.frozen 0
      have f1 := cg.frozen 1
      have f2 := cg.frozen 2
      have f3 := cg.frozen 3
      go_simp
      clear g0 g1 g2 g3 f0 f1 f2 f3
      replace hb1 := hb1.store4 hzg (.int .i64 yk) (.float .f64 yx) (.int .i64 yn) (.string yz)
      replace cj := cj.other4 hnj (.int .i64 yk) (.float .f64 yx) (.int .i64 yn) (.string yz)
      replace cg := cg.set4 (.int .i64 yk) (.float .f64 yx) (.int .i64 yn) (.string yz)
      refine ⟨⟨hb1, cj⟩, ?_⟩
      generalize ((((W4.setCell ⟨g, 0, none⟩ (.int .i64 yk)).setCell ⟨g, 1, none⟩ (.float .f64 yx)).setCell ⟨g, 2, none⟩ (.int .i64 yn)).setCell ⟨g, 3, none⟩ (.string yz)) = X3 at *
      refine wpAnyE_one (i := 16) (by kernel_rfl) ?_
      intro W5 hbn
      replace cg := cg.keep hbn
      replace cj := cj.keep hbn
      replace hb1 := hb1.trans hbn
      clear hbn
      go_simp
      refine ⟨by kernel_rfl, ?_⟩
      intro WE hbn
      replace cg := cg.keep hbn
      replace cj := cj.keep hbn
      replace hb1 := hb1.trans hbn
      clear hbn
      go_step
      go_meet
      case rel => exact ⟨g, rfl, rfl, GD.keep hb1, cg⟩
    · have hb1 := hc1
      clear hc1
      go_simp
      obtain ⟨g, hg⟩ : ∃ g, g = W1.heap.size := ⟨_, rfl⟩
      rw [← hg]
      have hzg : W.heap.size ≤ g := by rw [hg]; exact hb1.size
      have cg := AC.new W1 g hg [.int .i64 0, .float .f64 0, .int .i64 0, .string ⟨#[]⟩] 24
      replace hb1 := hb1.alloc (.cells #[.int .i64 0, .float .f64 0, .int .i64 0, .string ⟨#[]⟩] 24)
      clear hg
      refine ⟨hb1, ?_⟩
      generalize W1.alloc (.cells #[.int .i64 0, .float .f64 0, .int .i64 0, .string ⟨#[]⟩] 24) = X1 at *
      refine wpAnyE_one (i := 5) (by kernel_rfl) ?_
      intro W3 hbn
      replace cg := cg.keep hbn
      replace hb1 := hb1.trans hbn
      clear hbn
      go_simp
      obtain ⟨j, hj⟩ : ∃ g, g = W3.heap.size := ⟨_, rfl⟩
      rw [← hj]
      have hzj : W.heap.size ≤ j := by rw [hj]; exact hb1.size
      have hnegj : g ≠ j := by have := cg.lt; omega
      have cj := AC.new W3 j hj [.int .u8 X] 5
      replace cg := cg.keep ((Bl.refl W3).alloc (.cells #[.int .u8 X] 5))
      replace hb1 := hb1.alloc (.cells #[.int .u8 X] 5)
      clear hj
      refine ⟨hb1, ?_⟩
      generalize W3.alloc (.cells #[.int .u8 X] 5) = X2 at *
      refine wpAnyE_sub (C' := (fun W' => Bl W W' ∧ AC W' j [.int .u8 X])) (fun _ h => h.1) ?_
      have hst : ∀ n : ExtC (fun W' => Bl W W' ∧ AC W' j [.int .u8 X]), (convert 76 9 (.slice (some ⟨j, 0, none⟩) 1 1)).run Tryd.prog n.at = .ok (.string u) n.at := fun n => by have h := conv_one n.ok.2; rw [N.out.one] at h; exact h
      have hne0 : Nonempty (ExtC (fun W' => Bl W W' ∧ AC W' j [.int .u8 X])) := ⟨⟨X2, hb1, cj⟩⟩
      refine wpAnyE_idx (C := (fun W' => Bl W W' ∧ AC W' j [.int .u8 X])) (fun _ _ h k => ⟨h.1.trans k, h.2.keep k⟩) (by kernel_rfl) 2 _ ⟨hb1, cj⟩ [6, 9, 10, 11, 12, 13] _ _ (by kernel_rfl) ?_
      repeat (refine wpI_step rfl (fun K hK => ?_); go_simp; first | (refine hK _ ?_; clear hK K) | (apply Exists.intro; refine ⟨fun n => ?_, hK _ ?_⟩; (exact get_agg (u ++ v) l2 yk yx yn yz 4 n.at HL2 G3); clear hK K))
      refine wpI_nil ?_
      clear hst hne0
      refine wpAnyE_one (i := 15) (by kernel_rfl) ?_
      intro W4 hbn
      replace cg := cg.keep hbn
      replace cj := cj.keep hbn
      replace hb1 := hb1.trans hbn
      clear hbn
      have hnj : j ≠ g := Ne.symm hnegj
      obtain ⟨g0, g1, g2, g3⟩ := cg.act
      have f0 := cg.frozen 0
      have f1 := cg.frozen 1
      have f2 := cg.frozen 2
      have f3 := cg.frozen 3
      go_simp
      clear g0 g1 g2 g3 f0 f1 f2 f3
      replace hb1 := hb1.store4 hzg (.int .i64 yk) (.float .f64 yx) (.int .i64 yn) (.string yz)
      replace cj := cj.other4 hnj (.int .i64 yk) (.float .f64 yx) (.int .i64 yn) (.string yz)
      replace cg := cg.set4 (.int .i64 yk) (.float .f64 yx) (.int .i64 yn) (.string yz)
      refine ⟨⟨hb1, cj⟩, ?_⟩
      generalize ((((W4.setCell ⟨g, 0, none⟩ (.int .i64 yk)).setCell ⟨g, 1, none⟩ (.float .f64 yx)).setCell ⟨g, 2, none⟩ (.int .i64 yn)).setCell ⟨g, 3, none⟩ (.string yz)) = X3 at *
      refine wpAnyE_one (i := 16) (by kernel_rfl) ?_
      intro W5 hbn
      replace cg := cg.keep hbn
      replace cj := cj.keep hbn
      replace hb1 := hb1.trans hbn
      clear hbn
      go_simp
      refine ⟨by kernel_rfl, ?_⟩
      intro WE hbn
      replace cg := cg.keep hbn
      replace cj := cj.keep hbn
      replace hb1 := hb1.trans hbn
      clear hbn
      go_step
      go_meet
      case rel => exact ⟨g, rfl, rfl, GD.keep hb1, cg⟩
  case rest =>
    obtain ⟨g, rfl, rfl, GE, cg⟩ := hcut
    clear G
    go_wp2_with fail
    refine (alive6_any _ (hT.keep GE.bl)).mono ?_
    rintro e w4 ⟨rfl, hb4⟩
    have GE := GE.keep hb4
    replace cg := cg.keep hb4
    clear hb4
    go_wp2_with fail
    go_ret
    exact ⟨rfl, GE.bl⟩
set_option maxHeartbeats 3200000 in
set_option maxRecDepth 100000 in
theorem back_chg_yes (ak : Int) (ax : Nat) (an : Int) (az : ByteArray) (by_ : Int) (s : ByteArray) (xk : Int) (xx : Nat) (xn : Int) (xz : ByteArray) (yk : Int) (yx : Nat) (yn : Int) (yz : ByteArray) (w : World) (hT : Tab w) (hz : az.size ≤ 3000) (Oa : Hid (ActL.Ok ⟨ak, ax, an, az⟩)) (Ox : Hid (ActL.Ok ⟨xk, xx, xn, xz⟩))
    (H : Hid (SB s (putS ⟨ak, ax, an, az⟩) ∧ putC ⟨ak, ax, an, az⟩ = 0)) (l : List UInt8) (HS : Hid (SB s l)) (hp : 0 < s.size) (hsz : s.size ≤ 1026) (G1 : Hid (getA l = (⟨xk, xx, xn, xz⟩, 0))) (S1 : Hid (sameA ⟨ak, ax, an, az⟩ ⟨xk, xx, xn, xz⟩ = true))
    (q : (by_ % 256 == 0) = false) (q2 : ((s.size : Int) == 0) = false) (X : Int) (hX : bits .xor .u8 (s[0].toNat : Int) (IntKind.u8.wrap by_) = X) (u v : ByteArray) (l2 : List UInt8) (N : Hid (NewB s X u v)) (hu : u.size = 1) (hv : v.size ≤ 1026) (HL2 : Hid (SB (u ++ v) l2)) (G3 : Hid (getA l2 = (⟨yk, yx, yn, yz⟩, 0))) (Oy : Hid (ActL.Ok ⟨yk, yx, yn, yz⟩)) (S2 : Hid (sameA ⟨ak, ax, an, az⟩ ⟨yk, yx, yn, yz⟩ = false)) :
    Calls Tryd.prog 16 #[.agg #[.int .i64 ak, .float .f64 ax, .int .i64 an, .string az], .int .i64 by_] w fun e w' => e = .returned (.bool true) ∧ Bl w w' := by
  have hsf := store_float
  have hrest := N.out.rest
  have GB0 := Box.new w ak ax an az 24
  go_enter Tryd.func16, Tryd.ntmps16
  go_wp2_with fail
  generalize w.alloc (.cells #[.int .i64 ak, .float .f64 ax, .int .i64 an, .string az] 24) = wb at *
  refine (put_agg ak ax an az s 0 _ Oa H).mono ?_
  rintro e w1 ⟨rfl, hb1⟩
  have G := GB0.keep hb1
  clear hb1
  go_wp2_with fail
  refine (get_agg s l xk xx xn xz 0 _ HS G1).mono ?_
  rintro e w2 ⟨rfl, hb2⟩
  have G := G.keep hb2
  clear hb2
  obtain ⟨a0, a1, a2, a3⟩ := G.a.act
  obtain ⟨l0, l1, l2', l3⟩ := G.later
  go_wp2_with fail
  refine (sameA_agg _ _ _ _ _ _ _ _ _ _ S1 Oa Ox).mono ?_
  rintro e w3 ⟨rfl, hb3⟩
  have G := G.keep (((Bl.refl w2).alloc (.cells #[.int .i64 xk, .float .f64 xx, .int .i64 xn, .string xz] 24)).trans hb3)
  clear hb3 a0 a1 a2 a3 l0 l1 l2' l3
  have hp1 : (1 : Int) ≤ (s.size : Int) := by omega
  have hzz : ((9223372036854775807 : Nat) < 1 + v.size) = False := by simp; omega
  go_upto_region 11 with fail
  go_cut [9, 10] (fun s9 s10 W => ∃ g, s9 = .pointer (some ⟨g, 0, none⟩) ∧ s10 = .int .i64 0 ∧ Box w W ak ax an az ∧ AC W g [.int .i64 yk, .float .f64 yx, .int .i64 yn, .string yz])
  case first =>
    refine wp_region_idx [0, 1, 2, 3, 4, 7, 8] 10 (Bl w3.drew) (fun _ _ h k => h.trans k) (Bl.refl _) (by kernel_rfl) rfl (by kernel_rfl) (by kernel_rfl) ?_
    have GD := G.keep ((Bl.refl w3).drew)
    clear G
    generalize w3.drew = W at *
    repeat (refine wpI_step rfl (fun K hK => ?_); go_simp; refine hK _ ?_; clear hK K)
    refine wpI_nil ?_
    refine wpAnyE_all (rs := [5, 14]) (by kernel_rfl) (by simp) ?_
    intro i hi W1 hc1
    simp only [List.mem_cons, List.not_mem_nil, or_false] at hi
    rcases hi with rfl | rfl
    · have hb1 := hc1
      clear hc1
      go_simp
      obtain ⟨j, hj⟩ : ∃ g, g = W1.heap.size := ⟨_, rfl⟩
      rw [← hj]
      have hzj : W.heap.size ≤ j := by rw [hj]; exact hb1.size
      have cj := AC.new W1 j hj [.int .u8 X] 5
      replace hb1 := hb1.alloc (.cells #[.int .u8 X] 5)
      clear hj
      refine ⟨hb1, ?_⟩
      generalize W1.alloc (.cells #[.int .u8 X] 5) = X1 at *
      refine wpAnyE_sub (C' := (fun W' => Bl W W' ∧ AC W' j [.int .u8 X])) (fun _ h => h.1) ?_
      have hst : ∀ n : ExtC (fun W' => Bl W W' ∧ AC W' j [.int .u8 X]), (convert 76 9 (.slice (some ⟨j, 0, none⟩) 1 1)).run Tryd.prog n.at = .ok (.string u) n.at := fun n => by have h := conv_one n.ok.2; rw [N.out.one] at h; exact h
      have hne0 : Nonempty (ExtC (fun W' => Bl W W' ∧ AC W' j [.int .u8 X])) := ⟨⟨X1, hb1, cj⟩⟩
      refine wpAnyE_idx (C := (fun W' => Bl W W' ∧ AC W' j [.int .u8 X])) (fun _ _ h k => ⟨h.1.trans k, h.2.keep k⟩) (by kernel_rfl) 3 _ ⟨hb1, cj⟩ [6, 9, 10, 11, 12, 13] _ _ (by kernel_rfl) ?_
      repeat (refine wpI_step rfl (fun K hK => ?_); go_simp; first | (refine hK _ ?_; clear hK K) | (apply Exists.intro; refine ⟨fun n => ?_, hK _ ?_⟩; (exact get_agg (u ++ v) l2 yk yx yn yz 0 n.at HL2 G3); clear hK K))
      refine wpI_nil ?_
      clear hst hne0
      refine wpAnyE_one (i := 14) (by kernel_rfl) ?_
      intro W3 hbn
      replace cj := cj.keep hbn
      replace hb1 := hb1.trans hbn
      clear hbn
      go_simp
      obtain ⟨g, hg⟩ : ∃ g, g = W3.heap.size := ⟨_, rfl⟩
      rw [← hg]
      have hzg : W.heap.size ≤ g := by rw [hg]; exact hb1.size
      have hnejg : j ≠ g := by have := cj.lt; omega
      have cg := AC.new W3 g hg [.int .i64 0, .float .f64 0, .int .i64 0, .string ⟨#[]⟩] 24
      replace cj := cj.keep ((Bl.refl W3).alloc (.cells #[.int .i64 0, .float .f64 0, .int .i64 0, .string ⟨#[]⟩] 24))
      replace hb1 := hb1.alloc (.cells #[.int .i64 0, .float .f64 0, .int .i64 0, .string ⟨#[]⟩] 24)
      clear hg
      refine ⟨⟨hb1, cj⟩, ?_⟩
      generalize W3.alloc (.cells #[.int .i64 0, .float .f64 0, .int .i64 0, .string ⟨#[]⟩] 24) = X2 at *
      refine wpAnyE_one (i := 15) (by kernel_rfl) ?_
      intro W4 hbn
      replace cg := cg.keep hbn
      replace cj := cj.keep hbn
      replace hb1 := hb1.trans hbn
      clear hbn
      have hnj : j ≠ g := hnejg
      obtain ⟨g0, g1, g2, g3⟩ := cg.act
      have f0 := cg.frozen 0
      have f1 := cg.frozen 1
      have f2 := cg.frozen 2
      have f3 := cg.frozen 3
      go_simp
      clear g0 g1 g2 g3 f0 f1 f2 f3
      replace hb1 := hb1.store4 hzg (.int .i64 yk) (.float .f64 yx) (.int .i64 yn) (.string yz)
      replace cj := cj.other4 hnj (.int .i64 yk) (.float .f64 yx) (.int .i64 yn) (.string yz)
      replace cg := cg.set4 (.int .i64 yk) (.float .f64 yx) (.int .i64 yn) (.string yz)
      refine ⟨⟨hb1, cj⟩, ?_⟩
      generalize ((((W4.setCell ⟨g, 0, none⟩ (.int .i64 yk)).setCell ⟨g, 1, none⟩ (.float .f64 yx)).setCell ⟨g, 2, none⟩ (.int .i64 yn)).setCell ⟨g, 3, none⟩ (.string yz)) = X3 at *
      refine wpAnyE_one (i := 16) (by kernel_rfl) ?_
      intro W5 hbn
      replace cg := cg.keep hbn
      replace cj := cj.keep hbn
      replace hb1 := hb1.trans hbn
      clear hbn
      go_simp
      refine ⟨by kernel_rfl, ?_⟩
      intro WE hbn
      replace cg := cg.keep hbn
      replace cj := cj.keep hbn
      replace hb1 := hb1.trans hbn
      clear hbn
      go_step
      go_meet
      case rel => exact ⟨g, rfl, rfl, GD.keep hb1, cg⟩
    · have hb1 := hc1
      clear hc1
      go_simp
      obtain ⟨g, hg⟩ : ∃ g, g = W1.heap.size := ⟨_, rfl⟩
      rw [← hg]
      have hzg : W.heap.size ≤ g := by rw [hg]; exact hb1.size
      have cg := AC.new W1 g hg [.int .i64 0, .float .f64 0, .int .i64 0, .string ⟨#[]⟩] 24
      replace hb1 := hb1.alloc (.cells #[.int .i64 0, .float .f64 0, .int .i64 0, .string ⟨#[]⟩] 24)
      clear hg
      refine ⟨hb1, ?_⟩
      generalize W1.alloc (.cells #[.int .i64 0, .float .f64 0, .int .i64 0, .string ⟨#[]⟩] 24) = X1 at *
      refine wpAnyE_one (i := 5) (by kernel_rfl) ?_
      intro W3 hbn
      replace cg := cg.keep hbn
      replace hb1 := hb1.trans hbn
      clear hbn
      go_simp
      obtain ⟨j, hj⟩ : ∃ g, g = W3.heap.size := ⟨_, rfl⟩
      rw [← hj]
      have hzj : W.heap.size ≤ j := by rw [hj]; exact hb1.size
      have hnegj : g ≠ j := by have := cg.lt; omega
      have cj := AC.new W3 j hj [.int .u8 X] 5
      replace cg := cg.keep ((Bl.refl W3).alloc (.cells #[.int .u8 X] 5))
      replace hb1 := hb1.alloc (.cells #[.int .u8 X] 5)
      clear hj
      refine ⟨hb1, ?_⟩
      generalize W3.alloc (.cells #[.int .u8 X] 5) = X2 at *
      refine wpAnyE_sub (C' := (fun W' => Bl W W' ∧ AC W' j [.int .u8 X])) (fun _ h => h.1) ?_
      have hst : ∀ n : ExtC (fun W' => Bl W W' ∧ AC W' j [.int .u8 X]), (convert 76 9 (.slice (some ⟨j, 0, none⟩) 1 1)).run Tryd.prog n.at = .ok (.string u) n.at := fun n => by have h := conv_one n.ok.2; rw [N.out.one] at h; exact h
      have hne0 : Nonempty (ExtC (fun W' => Bl W W' ∧ AC W' j [.int .u8 X])) := ⟨⟨X2, hb1, cj⟩⟩
      refine wpAnyE_idx (C := (fun W' => Bl W W' ∧ AC W' j [.int .u8 X])) (fun _ _ h k => ⟨h.1.trans k, h.2.keep k⟩) (by kernel_rfl) 2 _ ⟨hb1, cj⟩ [6, 9, 10, 11, 12, 13] _ _ (by kernel_rfl) ?_
      repeat (refine wpI_step rfl (fun K hK => ?_); go_simp; first | (refine hK _ ?_; clear hK K) | (apply Exists.intro; refine ⟨fun n => ?_, hK _ ?_⟩; (exact get_agg (u ++ v) l2 yk yx yn yz 0 n.at HL2 G3); clear hK K))
      refine wpI_nil ?_
      clear hst hne0
      refine wpAnyE_one (i := 15) (by kernel_rfl) ?_
      intro W4 hbn
      replace cg := cg.keep hbn
      replace cj := cj.keep hbn
      replace hb1 := hb1.trans hbn
      clear hbn
      have hnj : j ≠ g := Ne.symm hnegj
      obtain ⟨g0, g1, g2, g3⟩ := cg.act
      have f0 := cg.frozen 0
      have f1 := cg.frozen 1
      have f2 := cg.frozen 2
      have f3 := cg.frozen 3
      go_simp
      clear g0 g1 g2 g3 f0 f1 f2 f3
      replace hb1 := hb1.store4 hzg (.int .i64 yk) (.float .f64 yx) (.int .i64 yn) (.string yz)
      replace cj := cj.other4 hnj (.int .i64 yk) (.float .f64 yx) (.int .i64 yn) (.string yz)
      replace cg := cg.set4 (.int .i64 yk) (.float .f64 yx) (.int .i64 yn) (.string yz)
      refine ⟨⟨hb1, cj⟩, ?_⟩
      generalize ((((W4.setCell ⟨g, 0, none⟩ (.int .i64 yk)).setCell ⟨g, 1, none⟩ (.float .f64 yx)).setCell ⟨g, 2, none⟩ (.int .i64 yn)).setCell ⟨g, 3, none⟩ (.string yz)) = X3 at *
      refine wpAnyE_one (i := 16) (by kernel_rfl) ?_
      intro W5 hbn
      replace cg := cg.keep hbn
      replace cj := cj.keep hbn
      replace hb1 := hb1.trans hbn
      clear hbn
      go_simp
      refine ⟨by kernel_rfl, ?_⟩
      intro WE hbn
      replace cg := cg.keep hbn
      replace cj := cj.keep hbn
      replace hb1 := hb1.trans hbn
      clear hbn
      go_step
      go_meet
      case rel => exact ⟨g, rfl, rfl, GD.keep hb1, cg⟩
  case rest =>
    obtain ⟨g, rfl, rfl, GE, cg⟩ := hcut
    clear G
    go_wp2_with fail
    refine (alive6_any _ (hT.keep GE.bl)).mono ?_
    rintro e w4 ⟨rfl, hb4⟩
    have GE := GE.keep hb4
    replace cg := cg.keep hb4
    clear hb4
    obtain ⟨a0, a1, a2, a3⟩ := GE.a.act
    obtain ⟨y0, y1, y2, y3⟩ := cg.act
    go_wp2_with fail
    refine (sameA_agg _ _ _ _ _ _ _ _ _ _ S2 Oa Oy).mono ?_
    rintro e w5 ⟨rfl, hb5⟩
    have GE := GE.keep hb5
    go_wp2_with fail
    go_ret
    exact ⟨rfl, GE.bl⟩
end Go.Proofs.YtafoagllbajfnaaDoor
