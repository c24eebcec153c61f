/- the walk of OpTogether, every way. By an AI agent. -/
import Derived.Test.YtafoagllbajfnaaDoorTogether
import Derived.Test.YtafoagllbajfnaaDoorOpenA
namespace Go.Proofs.YtafoagllbajfnaaDoor
open Go.RowKit

set_option maxHeartbeats 1600000 in
set_option maxRecDepth 100000 in
theorem together_no1 (key : ByteArray) (ak : Int) (ax : Nat) (an : Int) (az : ByteArray) (bk : Int) (bx : Nat) (bn : Int) (bz : ByteArray) (ck : Int) (cx : Nat) (cn : Int) (cz : ByteArray) (vb : Bool) (vx : Nat) (vn : Int) (vz : ByteArray) (w : World) (hkey : key.size ≤ 140737488351232) (hT : Tab w) (Oa : Hid (ActL.Ok ⟨ak, ax, an, az⟩)) (Fa : Hid (fitsB key ⟨ak, ax, an, az⟩ = false)) :
    Calls Tryd.prog 4 #[.string key, .agg #[.int .i64 ak, .float .f64 ax, .int .i64 an, .string az], .agg #[.int .i64 bk, .float .f64 bx, .int .i64 bn, .string bz], .agg #[.int .i64 ck, .float .f64 cx, .int .i64 cn, .string cz], .agg #[.bool vb, .float .f64 vx, .int .i64 vn, .string vz]] w fun e w' => e = .returned (.bool true) ∧ Bl w w' := by
  go_enter Tryd.func4, Tryd.ntmps4
  go_wp2_with fail
  refine (fits_agg key ak ax an az false _ Fa hkey Oa).mono ?_
  rintro e w1 ⟨rfl, hb1⟩
  have G := (Four.new w ⟨ak, ax, an, az⟩ ⟨bk, bx, bn, bz⟩ ⟨ck, cx, cn, cz⟩ ⟨vb, vx, vn, vz⟩ _ _ _ _).keep hb1
  clear hb1
  go_wp2_with fail
  refine (alive6_any _ (hT.keep G.bl)).mono ?_
  rintro e w2 ⟨rfl, hb2⟩
  have G := G.keep hb2
  go_wp2_with fail
  go_ret
  exact ⟨rfl, G.bl⟩
set_option maxHeartbeats 1600000 in
set_option maxRecDepth 100000 in
theorem together_no2 (key : ByteArray) (ak : Int) (ax : Nat) (an : Int) (az : ByteArray) (bk : Int) (bx : Nat) (bn : Int) (bz : ByteArray) (ck : Int) (cx : Nat) (cn : Int) (cz : ByteArray) (vb : Bool) (vx : Nat) (vn : Int) (vz : ByteArray) (w : World) (hkey : key.size ≤ 140737488351232) (hT : Tab w) (Oa : Hid (ActL.Ok ⟨ak, ax, an, az⟩)) (Ob : Hid (ActL.Ok ⟨bk, bx, bn, bz⟩)) (Fa : Hid (fitsB key ⟨ak, ax, an, az⟩ = true)) (Fb : Hid (fitsB key ⟨bk, bx, bn, bz⟩ = false)) :
    Calls Tryd.prog 4 #[.string key, .agg #[.int .i64 ak, .float .f64 ax, .int .i64 an, .string az], .agg #[.int .i64 bk, .float .f64 bx, .int .i64 bn, .string bz], .agg #[.int .i64 ck, .float .f64 cx, .int .i64 cn, .string cz], .agg #[.bool vb, .float .f64 vx, .int .i64 vn, .string vz]] w fun e w' => e = .returned (.bool true) ∧ Bl w w' := by
  go_enter Tryd.func4, Tryd.ntmps4
  go_wp2_with fail
  refine (fits_agg key ak ax an az true _ Fa hkey Oa).mono ?_
  rintro e w1 ⟨rfl, hb1⟩
  have G := (Four.new w ⟨ak, ax, an, az⟩ ⟨bk, bx, bn, bz⟩ ⟨ck, cx, cn, cz⟩ ⟨vb, vx, vn, vz⟩ _ _ _ _).keep hb1
  clear hb1
  obtain ⟨b0, b1, b2, b3⟩ := G.b.act
  go_wp2_with fail
  refine (fits_agg key bk bx bn bz false _ Fb hkey Ob).mono ?_
  rintro e w1 ⟨rfl, hb1⟩
  have G := G.keep hb1
  clear b0 b1 b2 b3
  clear hb1
  go_wp2_with fail
  refine (alive6_any _ (hT.keep G.bl)).mono ?_
  rintro e w2 ⟨rfl, hb2⟩
  have G := G.keep hb2
  go_wp2_with fail
  go_ret
  exact ⟨rfl, G.bl⟩
set_option maxHeartbeats 1600000 in
set_option maxRecDepth 100000 in
theorem together_no3 (key : ByteArray) (ak : Int) (ax : Nat) (an : Int) (az : ByteArray) (bk : Int) (bx : Nat) (bn : Int) (bz : ByteArray) (ck : Int) (cx : Nat) (cn : Int) (cz : ByteArray) (vb : Bool) (vx : Nat) (vn : Int) (vz : ByteArray) (w : World) (hkey : key.size ≤ 140737488351232) (hT : Tab w) (Oa : Hid (ActL.Ok ⟨ak, ax, an, az⟩)) (Ob : Hid (ActL.Ok ⟨bk, bx, bn, bz⟩)) (Oc : Hid (ActL.Ok ⟨ck, cx, cn, cz⟩)) (Fa : Hid (fitsB key ⟨ak, ax, an, az⟩ = true)) (Fb : Hid (fitsB key ⟨bk, bx, bn, bz⟩ = true)) (Fc : Hid (fitsB key ⟨ck, cx, cn, cz⟩ = false)) :
    Calls Tryd.prog 4 #[.string key, .agg #[.int .i64 ak, .float .f64 ax, .int .i64 an, .string az], .agg #[.int .i64 bk, .float .f64 bx, .int .i64 bn, .string bz], .agg #[.int .i64 ck, .float .f64 cx, .int .i64 cn, .string cz], .agg #[.bool vb, .float .f64 vx, .int .i64 vn, .string vz]] w fun e w' => e = .returned (.bool true) ∧ Bl w w' := by
  go_enter Tryd.func4, Tryd.ntmps4
  go_wp2_with fail
  refine (fits_agg key ak ax an az true _ Fa hkey Oa).mono ?_
  rintro e w1 ⟨rfl, hb1⟩
  have G := (Four.new w ⟨ak, ax, an, az⟩ ⟨bk, bx, bn, bz⟩ ⟨ck, cx, cn, cz⟩ ⟨vb, vx, vn, vz⟩ _ _ _ _).keep hb1
  clear hb1
  obtain ⟨b0, b1, b2, b3⟩ := G.b.act
  go_wp2_with fail
  refine (fits_agg key bk bx bn bz true _ Fb hkey Ob).mono ?_
  rintro e w1 ⟨rfl, hb1⟩
  have G := G.keep hb1
  clear b0 b1 b2 b3
  clear hb1
  obtain ⟨b0, b1, b2, b3⟩ := G.c.act
  go_wp2_with fail
  refine (fits_agg key ck cx cn cz false _ Fc hkey Oc).mono ?_
  rintro e w1 ⟨rfl, hb1⟩
  have G := G.keep hb1
  clear b0 b1 b2 b3
  clear hb1
  go_wp2_with fail
  refine (alive6_any _ (hT.keep G.bl)).mono ?_
  rintro e w2 ⟨rfl, hb2⟩
  have G := G.keep hb2
  go_wp2_with fail
  go_ret
  exact ⟨rfl, G.bl⟩
set_option maxHeartbeats 1600000 in
set_option maxRecDepth 100000 in
theorem together_no4 (key : ByteArray) (ak : Int) (ax : Nat) (an : Int) (az : ByteArray) (bk : Int) (bx : Nat) (bn : Int) (bz : ByteArray) (ck : Int) (cx : Nat) (cn : Int) (cz : ByteArray) (vb : Bool) (vx : Nat) (vn : Int) (vz : ByteArray) (w : World) (hkey : key.size ≤ 140737488351232) (hT : Tab w) (Oa : Hid (ActL.Ok ⟨ak, ax, an, az⟩)) (Ob : Hid (ActL.Ok ⟨bk, bx, bn, bz⟩)) (Oc : Hid (ActL.Ok ⟨ck, cx, cn, cz⟩)) (Fa : Hid (fitsB key ⟨ak, ax, an, az⟩ = true)) (Fb : Hid (fitsB key ⟨bk, bx, bn, bz⟩ = true)) (Fc : Hid (fitsB key ⟨ck, cx, cn, cz⟩ = true)) (hv : ¬ vz.size ≤ 3000) :
    Calls Tryd.prog 4 #[.string key, .agg #[.int .i64 ak, .float .f64 ax, .int .i64 an, .string az], .agg #[.int .i64 bk, .float .f64 bx, .int .i64 bn, .string bz], .agg #[.int .i64 ck, .float .f64 cx, .int .i64 cn, .string cz], .agg #[.bool vb, .float .f64 vx, .int .i64 vn, .string vz]] w fun e w' => e = .returned (.bool true) ∧ Bl w w' := by
  go_enter Tryd.func4, Tryd.ntmps4
  go_wp2_with fail
  refine (fits_agg key ak ax an az true _ Fa hkey Oa).mono ?_
  rintro e w1 ⟨rfl, hb1⟩
  have G := (Four.new w ⟨ak, ax, an, az⟩ ⟨bk, bx, bn, bz⟩ ⟨ck, cx, cn, cz⟩ ⟨vb, vx, vn, vz⟩ _ _ _ _).keep hb1
  clear hb1
  obtain ⟨b0, b1, b2, b3⟩ := G.b.act
  go_wp2_with fail
  refine (fits_agg key bk bx bn bz true _ Fb hkey Ob).mono ?_
  rintro e w1 ⟨rfl, hb1⟩
  have G := G.keep hb1
  clear b0 b1 b2 b3
  clear hb1
  obtain ⟨b0, b1, b2, b3⟩ := G.c.act
  go_wp2_with fail
  refine (fits_agg key ck cx cn cz true _ Fc hkey Oc).mono ?_
  rintro e w1 ⟨rfl, hb1⟩
  have G := G.keep hb1
  clear b0 b1 b2 b3
  clear hb1
  obtain ⟨b0, b1, b2, b3⟩ := G.v.val
  go_wp2_with fail
  refine (alive6_any _ (hT.keep G.bl)).mono ?_
  rintro e w2 ⟨rfl, hb2⟩
  have G := G.keep hb2
  go_wp2_with fail
  go_ret
  exact ⟨rfl, G.bl⟩
theorem opTogether_walk (key : ByteArray) (a b c : ActL) (v : ValL) (w : World) (hkey : key.size ≤ 140737488351232) (oa : a.Ok) (ob : b.Ok) (oc : c.Ok) (ov : v.Ok) (hT : Tab w) :
    Calls Tryd.prog 4 #[.string key, .agg #[.int .i64 a.k, .float .f64 a.x, .int .i64 a.n, .string a.s], .agg #[.int .i64 b.k, .float .f64 b.x, .int .i64 b.n, .string b.s], .agg #[.int .i64 c.k, .float .f64 c.x, .int .i64 c.n, .string c.s], .agg #[.bool v.there, .float .f64 v.x, .int .i64 v.n, .string v.s]] w fun e w' => e = .returned (.bool true) ∧ Bl w w' := by
  cases fa : fitsB key a
  · exact together_no1 key a.k a.x a.n a.s b.k b.x b.n b.s c.k c.x c.n c.s v.there v.x v.n v.s w hkey hT (Lib.hid oa) (Lib.hid fa)
  cases fb : fitsB key b
  · exact together_no2 key a.k a.x a.n a.s b.k b.x b.n b.s c.k c.x c.n c.s v.there v.x v.n v.s w hkey hT (Lib.hid oa) (Lib.hid ob) (Lib.hid fa) (Lib.hid fb)
  cases fc : fitsB key c
  · exact together_no3 key a.k a.x a.n a.s b.k b.x b.n b.s c.k c.x c.n c.s v.there v.x v.n v.s w hkey hT (Lib.hid oa) (Lib.hid ob) (Lib.hid oc) (Lib.hid fa) (Lib.hid fb) (Lib.hid fc)
  by_cases hv : v.s.size ≤ 3000
  · obtain ⟨l1, l2, l3, l4⟩ := together v oa ob oc fa fb fc
    obtain ⟨r1, er1, or1⟩ := after_ex key v a ov oa
    obtain ⟨r2, er2, or2⟩ := after_ex key r1 b or1 ob
    obtain ⟨r3, er3, or3⟩ := after_ex key r2 c or2 oc
    obtain ⟨ab, eab, oab⟩ := both_ex key a b oa ob
    obtain ⟨abc, eabc, oabc⟩ := both_ex key ab c oab oc
    obtain ⟨r5, er5, or5⟩ := after_ex key v abc ov oabc
    obtain ⟨bc, ebc, obc⟩ := both_ex key b c ob oc
    obtain ⟨d, ed, od⟩ := both_ex key a bc oa obc
    obtain ⟨r6, er6, or6⟩ := after_ex key v d ov od
    obtain ⟨u1, eu1, ou1⟩ := after_ex key noVal c noVal_ok oc
    obtain ⟨t1, et1, ot1⟩ := after_ex key v c ov oc
    obtain ⟨t2, et2, ot2⟩ := after_ex key t1 a ot1 oa
    obtain ⟨t3, et3, ot3⟩ := after_ex key t2 b ot2 ob
    rw [er1, er2, er3, eab, eabc, er5] at l1
    rw [er1, er2, er3, ebc, ed, er6] at l2
    rw [er1, er2, er3, eu1] at l3
    rw [er1, er2, er3, et1, et2, et3, eab] at l4
    exact together_core key v.there v.x v.n v.s r1.there r1.x r1.n r1.s r2.there r2.x r2.n r2.s r3.there r3.x r3.n r3.s r5.there r5.x r5.n r5.s r6.there r6.x r6.n r6.s u1.there u1.x u1.n u1.s t1.there t1.x t1.n t1.s t2.there t2.x t2.n t2.s t3.there t3.x t3.n t3.s a.k a.x a.n a.s b.k b.x b.n b.s c.k c.x c.n c.s ab.k ab.x ab.n ab.s abc.k abc.x abc.n abc.s bc.k bc.x bc.n bc.s d.k d.x d.n d.s w hkey hT (fits_key fa).1 hv (Lib.hid er1) (Lib.hid er2) (Lib.hid er3) (Lib.hid eab) (Lib.hid eabc) (Lib.hid er5) (Lib.hid ebc) (Lib.hid ed) (Lib.hid er6) (Lib.hid eu1) (Lib.hid et1) (Lib.hid et2) (Lib.hid et3) (Lib.hid l1) (Lib.hid l2) (Lib.hid ov) (Lib.hid or1) (Lib.hid or2) (Lib.hid or3) (Lib.hid or5) (Lib.hid or6) (Lib.hid ou1) (Lib.hid ot1) (Lib.hid ot2) (Lib.hid ot3) (Lib.hid noVal_ok) (Lib.hid oa) (Lib.hid ob) (Lib.hid oc) (Lib.hid oab) (Lib.hid oabc) (Lib.hid obc) (Lib.hid od) (Lib.hid fa) (Lib.hid fb) (Lib.hid fc) (Lib.hid l3) (Lib.hid l4)
  · exact together_no4 key a.k a.x a.n a.s b.k b.x b.n b.s c.k c.x c.n c.s v.there v.x v.n v.s w hkey hT (Lib.hid oa) (Lib.hid ob) (Lib.hid oc) (Lib.hid fa) (Lib.hid fb) (Lib.hid fc) hv
end Go.Proofs.YtafoagllbajfnaaDoor
