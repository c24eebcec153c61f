/- op.Value of registers, and of every key. By an AI agent. -/
import Derived.Test.YtgdlcoicejgdkaaDoorVer3
namespace Go.Proofs.YtgdlcoicejgdkaaDoor
open Go.RowKit
attribute [local go_sem] eOp eOper eUpon

/-- which of two versions stays -/
def stepL (key : ByteArray) (last : Option VerL) (v : VerL) : Option VerL :=
  if fitsB key v.act then (match last with
    | none => some v
    | some u => if orderL v u < 0 then some v else some u) else last
def lastL (key : ByteArray) (vs : List VerL) : Option VerL := vs.foldl (stepL key) none
theorem lastL_snoc (key : ByteArray) (vs : List VerL) (v : VerL) : lastL key (vs ++ [v]) = stepL key (lastL key vs) v := by simp [lastL]
def ofLast (key : ByteArray) : Option VerL → ValL
  | none => noVal
  | some u => afterL key noVal u.act
/-- op.Value -/
def valueL (key : ByteArray) (vs : List VerL) : ValL := if regB key then ofLast key (lastL key vs) else outL key vs
/-- where the last version lies -/
def PL (a : Option Addr) (n : Nat) (vs : List VerL) (last : Option VerL) (p : Value) : Prop :=
  match last with
  | none => p = .pointer none
  | some u => ∃ b off j, a = some ⟨b, off, none⟩ ∧ j < n ∧ p = .pointer (some ⟨b, off + j * 8, none⟩) ∧ nthR vs j = u
theorem order_ver (V U : VerL) (a a2 : Option Addr) (n n2 ca ca2 : Nat) (w : World) (hx : IA w a n V.at_) (hy : IA w a2 n2 U.at_) :
    Calls Tryd.prog 65 #[.agg #[.string V.key, .slice a n ca, .int .i64 V.origin, .int .i64 V.tx, .int .i64 V.act.k, .float .f64 V.act.x, .int .i64 V.act.n, .string V.act.s], .agg #[.string U.key, .slice a2 n2 ca2, .int .i64 U.origin, .int .i64 U.tx, .int .i64 U.act.k, .float .f64 U.act.x, .int .i64 U.act.n, .string U.act.s]] w fun e w' => e = .returned (.int .i64 (orderL V U)) ∧ Bl w w' := by
  refine order_any V.key a n ca V.at_ V.origin V.tx V.act.k V.act.x V.act.n V.act.s U.key a2 n2 ca2 U.at_ U.origin U.tx U.act.k U.act.x U.act.n U.act.s _ _ _ _ _ _ _ _ w hx hy (Lib.hid rfl) (Lib.hid rfl) (Lib.hid rfl) (Lib.hid rfl) (Lib.hid rfl) (Lib.hid rfl) (Lib.hid rfl) (Lib.hid ?_)
  unfold orderL
  rw [hx.len, hy.len]
/-- the facts of one element, in every later world -/
theorem VE.all {W : World} {b off : Nat} {v : VerL} {a : Option Addr} {n ca : Nat} (h : VE W b off v) (h1 : W.cell? ⟨b, off + 1, none⟩ = some (.slice a n ca)) :
    (∀ m : Ext W, m.at.cell? ⟨b, off, none⟩ = some (.string v.key)) ∧ (∀ m : Ext W, m.at.cell? ⟨b, off + 1, none⟩ = some (.slice a n ca)) ∧ (∀ m : Ext W, m.at.cell? ⟨b, off + 2, none⟩ = some (.int .i64 v.origin)) ∧ (∀ m : Ext W, m.at.cell? ⟨b, off + 3, none⟩ = some (.int .i64 v.tx)) ∧
    (∀ m : Ext W, m.at.cell? ⟨b, off + 4, none⟩ = some (.int .i64 v.act.k)) ∧ (∀ m : Ext W, m.at.cell? ⟨b, off + 5, none⟩ = some (.float .f64 v.act.x)) ∧ (∀ m : Ext W, m.at.cell? ⟨b, off + 6, none⟩ = some (.int .i64 v.act.n)) ∧ (∀ m : Ext W, m.at.cell? ⟨b, off + 7, none⟩ = some (.string v.act.s)) :=
  ⟨fun m => (h.keep m.bl).c0, fun m => m.bl.cell h1, fun m => (h.keep m.bl).c2, fun m => (h.keep m.bl).c3, fun m => (h.keep m.bl).c4, fun m => (h.keep m.bl).c5, fun m => (h.keep m.bl).c6, fun m => (h.keep m.bl).c7⟩

set_option maxHeartbeats 6400000 in
set_option maxRecDepth 100000 in
theorem value_reg (key : ByteArray) (a : Option Addr) (n ca : Nat) (vs : List VerL) (w : World) (hkey : key.size ≤ 140737488351232) (hreg : regB key = true) (hv : VA w a n vs) :
    Calls Tryd.prog 15 #[.string key, .slice a n ca] w fun e w' => e = .returned (ValL.v (ofLast key (lastL key vs))) ∧ Bl w w' := by
  have hsf := store_float
  have HL := Lib.hid hv.len
  have hcap := hv.cap
  have HR := Lib.hid hreg
  clear hreg
  go_enter Tryd.func15, Tryd.ntmps15
  go_wp2_with fail
  have G0 := OV.new w 34 34
  go_loopw [6, 11] (fun p i wr => ∃ k : Nat, k ≤ n ∧ PL a n vs (lastL key (vs.take k)) p ∧ i = .int .i64 k ∧ OV w wr false 0 0 ⟨#[]⟩) (fun _ i _ => n - (intOf i).toNat)
  case atStart => exact ⟨0, Nat.zero_le _, rfl, rfl, G0⟩
  case round =>
    clear G0
    obtain ⟨k, hk, hp, rfl, G⟩ := hrel
    obtain ⟨last, hQ⟩ : ∃ last, lastL key (vs.take k) = last := ⟨_, rfl⟩
    rw [hQ] at hp
    have HQ := Lib.hid hQ
    clear hQ
    by_cases hlt : k < n
    · obtain ⟨b, off, rfl, hc⟩ := hv.cells k hlt
      have E := (hc k hlt).keep G.bl
      have HC := Lib.hid hc
      clear hc
      have HS := Lib.hid (take_nthR (vs := vs) (k := k) (by rw [HL.out]; exact hlt))
      have HA := Lib.hid E.ok
      obtain ⟨V, hV⟩ : ∃ V, nthR vs k = V := ⟨_, rfl⟩
      rw [hV] at E HS HA
      have HV := Lib.hid hV
      clear hV
      have e4 := E.c4
      have e5 := E.c5
      have e6 := E.c6
      have e7 := E.c7
      obtain ⟨f, hf⟩ : ∃ f, fitsB key ⟨V.act.k, V.act.x, V.act.n, V.act.s⟩ = f := ⟨_, rfl⟩
      have HF := Lib.hid hf
      clear hf
      go_wp2_with fail
      refine (fits_agg key V.act.k V.act.x V.act.n V.act.s f _ HF hkey HA).mono ?_
      rintro e w2 ⟨rfl, hb2⟩
      have G := G.keep hb2
      have E := E.keep hb2
      clear hb2 e4 e5 e6 e7
      cases f
      · have HN : Hid (stepL key last V = last) := Lib.hid (by unfold stepL; rw [show fitsB key V.act = false from HF.out]; rfl)
        go_wp2_with fail
        go_roundw
        case rel => exact ⟨k + 1, by omega, by rw [HS.out, lastL_snoc, HQ.out, HN.out]; exact hp, by go_num, G⟩
        case measure => simp [intOf]; omega
      · go_wp2_with fail
        refine (registers_any key _ hkey).mono ?_
        rintro e w3 ⟨rfl, rfl⟩
        rw [HR.out]
        cases last with
        | none =>
          have hp0 : u6 = .pointer none := hp
          subst hp0
          have HN : Hid (stepL key none V = some V) := Lib.hid (by unfold stepL; rw [show fitsB key V.act = true from HF.out]; rfl)
          go_wp2_with fail
          refine wp_region_allS (by kernel_rfl) (by kernel_rfl) ?_
          have G1 := G.keep ((Bl.refl w2).drew)
          clear G E
          generalize w2.drew = W at *
          repeat (refine wpS_step (fun K hK => ?_); go_simp; refine hK _ ?_; clear hK K)
          refine wpS_nil ?_
          intro m
          have G2 := G1.keep m.bl
          generalize ExtC.at m = W9 at *
          go_wp2_with fail
          go_roundw
          case rel => exact ⟨k + 1, by omega, by rw [HS.out, lastL_snoc, HQ.out, HN.out]; exact ⟨b, off, k, rfl, hlt, rfl, HV.out⟩, by go_num, G2⟩
          case measure => simp [intOf]; omega
        | some U =>
          obtain ⟨b', off', j, e', hj, rfl, hU⟩ := hp
          simp only [Option.some.injEq, Addr.mk.injEq] at e'
          obtain ⟨rfl, rfl, _⟩ := e'
          have E2 := (HC.out j hj).keep G.bl
          rw [hU] at E2
          go_wp2_with fail
          refine wp_region_allS (by kernel_rfl) (by kernel_rfl) ?_
          have G1 := G.keep ((Bl.refl w2).drew)
          have E := E.keep ((Bl.refl w2).drew)
          have E2 := E2.keep ((Bl.refl w2).drew)
          clear G
          generalize w2.drew = W at *
          obtain ⟨va, vn, vc, v1, vI⟩ := E.at_
          obtain ⟨ua, un, uc, u1', uI⟩ := E2.at_
          obtain ⟨p0, p1, p2, p3, p4, p5, p6, p7⟩ := E.all v1
          obtain ⟨q0, q1, q2, q3, q4, q5, q6, q7⟩ := E2.all u1'
          clear E E2 v1 u1'
          have hO : ∀ m : Ext W, _ := fun m => order_ver V U va ua vn un vc uc m.at (vI.keep m.bl) (uI.keep m.bl)
          have HO := Lib.hid hO
          obtain ⟨c, hc0⟩ : ∃ c, orderL V U = c := ⟨_, rfl⟩
          rw [hc0] at HO
          have HC0 := Lib.hid hc0
          clear hO hc0 vI uI
          repeat (refine wpS_step (fun K hK => ?_); go_simp; first | (refine hK _ ?_; clear hK K) | (apply Exists.intro; refine ⟨fun m => ?_, hK _ ?_⟩; (exact HO.out m); clear hK K))
          clear p0 p1 p2 p3 p4 p5 p6 p7 q0 q1 q2 q3 q4 q5 q6 q7
          by_cases hlt0 : c < 0
          · have HN : Hid (stepL key (some U) V = some V) := Lib.hid (by unfold stepL; rw [show fitsB key V.act = true from HF.out]; show (if orderL V U < 0 then _ else _) = _; rw [HC0.out, if_pos hlt0])
            refine wpS_nil ?_
            intro m
            have G2 := G1.keep m.bl
            generalize ExtC.at m = W9 at *
            go_wp2_with fail
            go_roundw
            case rel => exact ⟨k + 1, by omega, by rw [HS.out, lastL_snoc, HQ.out, HN.out]; exact ⟨b, off, k, rfl, hlt, rfl, HV.out⟩, by go_num, G2⟩
            case measure => simp [intOf]; omega
          · have HN : Hid (stepL key (some U) V = some U) := Lib.hid (by unfold stepL; rw [show fitsB key V.act = true from HF.out]; show (if orderL V U < 0 then _ else _) = _; rw [HC0.out, if_neg hlt0])
            refine wpS_nil ?_
            intro m
            have G2 := G1.keep m.bl
            generalize ExtC.at m = W9 at *
            go_wp2_with fail
            go_roundw
            case rel => exact ⟨k + 1, by omega, by rw [HS.out, lastL_snoc, HQ.out, HN.out]; exact ⟨b, off, j, rfl, hj, rfl, hU⟩, by go_num, G2⟩
            case measure => simp [intOf]; omega
    · have hE : vs.take k = vs := List.take_of_length_le (by have := HL.out; omega)
      rw [hE] at HQ
      clear hE
      cases last with
      | none =>
        have hp0 : u6 = .pointer none := hp
        subst hp0
        obtain ⟨o0, o1, o2, o3⟩ := G.o.val
        obtain ⟨r0, r1, r2, r3⟩ := G.r.val
        have fr := G.r.frozen
        go_wp2_with fail
        have R := G.r.set4 (.bool false) (.float .f64 0) (.int .i64 0) (.string ⟨#[]⟩)
        obtain ⟨d0, d1, d2, d3⟩ := R.val
        refine bodyPost_ret (v := .agg #[.bool false, .float .f64 0, .int .i64 0, .string ⟨#[]⟩]) (by simp [results, Tryd.results15, go_sem, d0, d1, d2, d3]) rfl ⟨by rw [HQ.out]; rfl, G.bl.store4 (Nat.le_refl _) _ _ _ _⟩
      | some U =>
        obtain ⟨b, off, j, rfl, hj, rfl, hU⟩ := hp
        obtain ⟨b', off', e', hc⟩ := hv.cells j hj
        simp only [Option.some.injEq, Addr.mk.injEq] at e'
        obtain ⟨rfl, rfl, _⟩ := e'
        have E := (hc j hj).keep G.bl
        rw [hU] at E
        clear hc
        have HA := Lib.hid E.ok
        have e4 := E.c4
        have e5 := E.c5
        have e6 := E.c6
        have e7 := E.c7
        obtain ⟨R, hR⟩ : ∃ R, afterL key noVal U.act = R := ⟨_, rfl⟩
        obtain ⟨rb, rx, rn, rz⟩ := R
        have HRR : Hid (afterL key ⟨false, 0, 0, nilS⟩ ⟨U.act.k, U.act.x, U.act.n, U.act.s⟩ = ⟨rb, rx, rn, rz⟩) := Lib.hid hR
        clear hR
        go_wp2_with fail
        refine (after_agg key false 0 0 nilS U.act.k U.act.x U.act.n U.act.s rb rx rn rz _ HRR hkey (Lib.hid noVal_ok) HA).mono ?_
        rintro e w4 ⟨rfl, hb4⟩
        have G := G.keep hb4
        clear e4 e5 e6 e7
        obtain ⟨r0, r1, r2, r3⟩ := G.r.val
        have fr := G.r.frozen
        go_wp2_with fail
        have R := G.r.set4 (.bool rb) (.float .f64 rx) (.int .i64 rn) (.string rz)
        obtain ⟨d0, d1, d2, d3⟩ := R.val
        refine bodyPost_ret (v := .agg #[.bool rb, .float .f64 rx, .int .i64 rn, .string rz]) (by simp [results, Tryd.results15, go_sem, d0, d1, d2, d3]) rfl ⟨by rw [HQ.out]; show _ = Ending.returned (ValL.v (afterL key noVal U.act)); rw [show afterL key noVal U.act = ⟨rb, rx, rn, rz⟩ from HRR.out]; rfl, G.bl.store4 (Nat.le_refl _) _ _ _ _⟩
theorem value_any (key : ByteArray) (a : Option Addr) (n ca : Nat) (vs : List VerL) (w : World) (hkey : key.size ≤ 140737488351232) (hv : VA w a n vs) :
    Calls Tryd.prog 15 #[.string key, .slice a n ca] w fun e w' => e = .returned (ValL.v (valueL key vs)) ∧ Bl w w' := by
  unfold valueL
  cases h : regB key
  · exact value_num key a n ca vs w hkey h hv
  · exact value_reg key a n ca vs w hkey h hv
end Go.Proofs.YtgdlcoicejgdkaaDoor
