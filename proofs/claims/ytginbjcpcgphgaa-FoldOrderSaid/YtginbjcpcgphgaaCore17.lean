import Derived.Test.YtginbjcpcgphgaaCore9
import Derived.Deep.AppendSrc
import Derived.Maps.OwnRows

/- op.Value of registers, and of every key. By an AI agent. -/
section
namespace Go.Proofs.Ytginbjcpcgphgaa
open Go.RowKit
attribute [local go_sem] eOp eOper eUpon

/-- which of two versions stays -/
def stepL (key : ByteArray) (last : Option VerL) (v : VerL) : Option VerL :=
  if fitsB key v.act then (match last with
    | none => some v
    | some u => if orderL v u < 0 then some v else some u) else last
def lastL (key : ByteArray) (vs : List VerL) : Option VerL := vs.foldl (stepL key) none
theorem lastL_snoc (key : ByteArray) (vs : List VerL) (v : VerL) : lastL key (vs ++ [v]) = stepL key (lastL key vs) v := by simp [lastL]
def ofLast (key : ByteArray) : Option VerL → ValL
  | none => noVal
  | some u => afterL key noVal u.act
/-- op.Value -/
def valueL (key : ByteArray) (vs : List VerL) : ValL := if regB key then ofLast key (lastL key vs) else outL key vs
/-- where the last version lies -/
def PL (a : Option Addr) (n : Nat) (vs : List VerL) (last : Option VerL) (p : Value) : Prop :=
  match last with
  | none => p = .pointer none
  | some u => ∃ b off j, a = some ⟨b, off, none⟩ ∧ j < n ∧ p = .pointer (some ⟨b, off + j * 8, none⟩) ∧ nthR vs j = u
theorem order_ver (V U : VerL) (a a2 : Option Addr) (n n2 ca ca2 : Nat) (w : World) (hx : IA w a n V.at_) (hy : IA w a2 n2 U.at_) :
    Calls Try.prog 50 #[.agg #[.string V.key, .slice a n ca, .int .i64 V.origin, .int .i64 V.tx, .int .i64 V.act.k, .float .f64 V.act.x, .int .i64 V.act.n, .string V.act.s], .agg #[.string U.key, .slice a2 n2 ca2, .int .i64 U.origin, .int .i64 U.tx, .int .i64 U.act.k, .float .f64 U.act.x, .int .i64 U.act.n, .string U.act.s]] w fun e w' => e = .returned (.int .i64 (orderL V U)) ∧ Bl w w' := by
  refine order_any V.key a n ca V.at_ V.origin V.tx V.act.k V.act.x V.act.n V.act.s U.key a2 n2 ca2 U.at_ U.origin U.tx U.act.k U.act.x U.act.n U.act.s _ _ _ _ _ _ _ _ w hx hy (Lib.hid rfl) (Lib.hid rfl) (Lib.hid rfl) (Lib.hid rfl) (Lib.hid rfl) (Lib.hid rfl) (Lib.hid rfl) (Lib.hid ?_)
  unfold orderL
  rw [hx.len, hy.len]
/-- the facts of one element, in every later world -/
theorem VE.all {W : World} {b off : Nat} {v : VerL} {a : Option Addr} {n ca : Nat} (h : VE W b off v) (h1 : W.cell? ⟨b, off + 1, none⟩ = some (.slice a n ca)) :
    (∀ m : Ext W, m.at.cell? ⟨b, off, none⟩ = some (.string v.key)) ∧ (∀ m : Ext W, m.at.cell? ⟨b, off + 1, none⟩ = some (.slice a n ca)) ∧ (∀ m : Ext W, m.at.cell? ⟨b, off + 2, none⟩ = some (.int .i64 v.origin)) ∧ (∀ m : Ext W, m.at.cell? ⟨b, off + 3, none⟩ = some (.int .i64 v.tx)) ∧
    (∀ m : Ext W, m.at.cell? ⟨b, off + 4, none⟩ = some (.int .i64 v.act.k)) ∧ (∀ m : Ext W, m.at.cell? ⟨b, off + 5, none⟩ = some (.float .f64 v.act.x)) ∧ (∀ m : Ext W, m.at.cell? ⟨b, off + 6, none⟩ = some (.int .i64 v.act.n)) ∧ (∀ m : Ext W, m.at.cell? ⟨b, off + 7, none⟩ = some (.string v.act.s)) :=
  ⟨fun m => (h.keep m.bl).c0, fun m => m.bl.cell h1, fun m => (h.keep m.bl).c2, fun m => (h.keep m.bl).c3, fun m => (h.keep m.bl).c4, fun m => (h.keep m.bl).c5, fun m => (h.keep m.bl).c6, fun m => (h.keep m.bl).c7⟩

set_option maxHeartbeats 6400000 in
set_option maxRecDepth 100000 in
theorem value_reg (key : ByteArray) (a : Option Addr) (n ca : Nat) (vs : List VerL) (w : World) (hkey : key.size ≤ 140737488351232) (hreg : regB key = true) (hv : VA w a n vs) :
    Calls Try.prog 30 #[.string key, .slice a n ca] w fun e w' => e = .returned (ValL.v (ofLast key (lastL key vs))) ∧ Bl w w' := by
  have hsf := store_float
  have HL := Lib.hid hv.len
  have hcap := hv.cap
  have HR := Lib.hid hreg
  clear hreg
  go_enter Try.func30, Try.ntmps30
  go_wp2_with fail
  have G0 := OV.new w 38 38
  go_loopw [6, 11] (fun p i wr => ∃ k : Nat, k ≤ n ∧ PL a n vs (lastL key (vs.take k)) p ∧ i = .int .i64 k ∧ OV w wr false 0 0 ⟨#[]⟩) (fun _ i _ => n - (intOf i).toNat)
  case atStart => exact ⟨0, Nat.zero_le _, rfl, rfl, G0⟩
  case round =>
    clear G0
    obtain ⟨k, hk, hp, rfl, G⟩ := hrel
    obtain ⟨last, hQ⟩ : ∃ last, lastL key (vs.take k) = last := ⟨_, rfl⟩
    rw [hQ] at hp
    have HQ := Lib.hid hQ
    clear hQ
    by_cases hlt : k < n
    · obtain ⟨b, off, rfl, hc⟩ := hv.cells k hlt
      have E := (hc k hlt).keep G.bl
      have HC := Lib.hid hc
      clear hc
      have HS := Lib.hid (take_nthR (vs := vs) (k := k) (by rw [HL.out]; exact hlt))
      have HA := Lib.hid E.ok
      obtain ⟨V, hV⟩ : ∃ V, nthR vs k = V := ⟨_, rfl⟩
      rw [hV] at E HS HA
      have HV := Lib.hid hV
      clear hV
      have e4 := E.c4
      have e5 := E.c5
      have e6 := E.c6
      have e7 := E.c7
      obtain ⟨f, hf⟩ : ∃ f, fitsB key ⟨V.act.k, V.act.x, V.act.n, V.act.s⟩ = f := ⟨_, rfl⟩
      have HF := Lib.hid hf
      clear hf
      go_wp2_with fail
      refine (fits_agg key V.act.k V.act.x V.act.n V.act.s f _ HF hkey HA).mono ?_
      rintro e w2 ⟨rfl, hb2⟩
      have G := G.keep hb2
      have E := E.keep hb2
      clear hb2 e4 e5 e6 e7
      cases f
      · have HN : Hid (stepL key last V = last) := Lib.hid (by unfold stepL; rw [show fitsB key V.act = false from HF.out]; rfl)
        go_wp2_with fail
        go_roundw
        case rel => exact ⟨k + 1, by omega, by rw [HS.out, lastL_snoc, HQ.out, HN.out]; exact hp, by go_num, G⟩
        case measure => simp [intOf]; omega
      · go_wp2_with fail
        refine (registers_any key _ hkey).mono ?_
        rintro e w3 ⟨rfl, rfl⟩
        rw [HR.out]
        cases last with
        | none =>
          have hp0 : u6 = .pointer none := hp
          subst hp0
          have HN : Hid (stepL key none V = some V) := Lib.hid (by unfold stepL; rw [show fitsB key V.act = true from HF.out]; rfl)
          go_wp2_with fail
          refine wp_region_allS (by kernel_rfl) (by kernel_rfl) ?_
          have G1 := G.keep ((Bl.refl w2).drew)
          clear G E
          generalize w2.drew = W at *
          repeat (refine wpS_step (fun K hK => ?_); go_simp; refine hK _ ?_; clear hK K)
          refine wpS_nil ?_
          intro m
          have G2 := G1.keep m.bl
          generalize ExtC.at m = W9 at *
          go_wp2_with fail
          go_roundw
          case rel => exact ⟨k + 1, by omega, by rw [HS.out, lastL_snoc, HQ.out, HN.out]; exact ⟨b, off, k, rfl, hlt, rfl, HV.out⟩, by go_num, G2⟩
          case measure => simp [intOf]; omega
        | some U =>
          obtain ⟨b', off', j, e', hj, rfl, hU⟩ := hp
          simp only [Option.some.injEq, Addr.mk.injEq] at e'
          obtain ⟨rfl, rfl, _⟩ := e'
          have E2 := (HC.out j hj).keep G.bl
          rw [hU] at E2
          go_wp2_with fail
          refine wp_region_allS (by kernel_rfl) (by kernel_rfl) ?_
          have G1 := G.keep ((Bl.refl w2).drew)
          have E := E.keep ((Bl.refl w2).drew)
          have E2 := E2.keep ((Bl.refl w2).drew)
          clear G
          generalize w2.drew = W at *
          obtain ⟨va, vn, vc, v1, vI⟩ := E.at_
          obtain ⟨ua, un, uc, u1', uI⟩ := E2.at_
          obtain ⟨p0, p1, p2, p3, p4, p5, p6, p7⟩ := E.all v1
          obtain ⟨q0, q1, q2, q3, q4, q5, q6, q7⟩ := E2.all u1'
          clear E E2 v1 u1'
          have hO : ∀ m : Ext W, _ := fun m => order_ver V U va ua vn un vc uc m.at (vI.keep m.bl) (uI.keep m.bl)
          have HO := Lib.hid hO
          obtain ⟨c, hc0⟩ : ∃ c, orderL V U = c := ⟨_, rfl⟩
          rw [hc0] at HO
          have HC0 := Lib.hid hc0
          clear hO hc0 vI uI
          repeat (refine wpS_step (fun K hK => ?_); go_simp; first | (refine hK _ ?_; clear hK K) | (apply Exists.intro; refine ⟨fun m => ?_, hK _ ?_⟩; (exact HO.out m); clear hK K))
          clear p0 p1 p2 p3 p4 p5 p6 p7 q0 q1 q2 q3 q4 q5 q6 q7
          by_cases hlt0 : c < 0
          · have HN : Hid (stepL key (some U) V = some V) := Lib.hid (by unfold stepL; rw [show fitsB key V.act = true from HF.out]; show (if orderL V U < 0 then _ else _) = _; rw [HC0.out, if_pos hlt0])
            refine wpS_nil ?_
            intro m
            have G2 := G1.keep m.bl
            generalize ExtC.at m = W9 at *
            go_wp2_with fail
            go_roundw
            case rel => exact ⟨k + 1, by omega, by rw [HS.out, lastL_snoc, HQ.out, HN.out]; exact ⟨b, off, k, rfl, hlt, rfl, HV.out⟩, by go_num, G2⟩
            case measure => simp [intOf]; omega
          · have HN : Hid (stepL key (some U) V = some U) := Lib.hid (by unfold stepL; rw [show fitsB key V.act = true from HF.out]; show (if orderL V U < 0 then _ else _) = _; rw [HC0.out, if_neg hlt0])
            refine wpS_nil ?_
            intro m
            have G2 := G1.keep m.bl
            generalize ExtC.at m = W9 at *
            go_wp2_with fail
            go_roundw
            case rel => exact ⟨k + 1, by omega, by rw [HS.out, lastL_snoc, HQ.out, HN.out]; exact ⟨b, off, j, rfl, hj, rfl, hU⟩, by go_num, G2⟩
            case measure => simp [intOf]; omega
    · have hE : vs.take k = vs := List.take_of_length_le (by have := HL.out; omega)
      rw [hE] at HQ
      clear hE
      cases last with
      | none =>
        have hp0 : u6 = .pointer none := hp
        subst hp0
        obtain ⟨o0, o1, o2, o3⟩ := G.o.val
        obtain ⟨r0, r1, r2, r3⟩ := G.r.val
        have fr := G.r.frozen
        go_wp2_with fail
        have R := G.r.set4 (.bool false) (.float .f64 0) (.int .i64 0) (.string ⟨#[]⟩)
        obtain ⟨d0, d1, d2, d3⟩ := R.val
        refine bodyPost_ret (v := .agg #[.bool false, .float .f64 0, .int .i64 0, .string ⟨#[]⟩]) (by simp [results, Try.results30, go_sem, d0, d1, d2, d3]) rfl ⟨by rw [HQ.out]; rfl, G.bl.store4 (Nat.le_refl _) _ _ _ _⟩
      | some U =>
        obtain ⟨b, off, j, rfl, hj, rfl, hU⟩ := hp
        obtain ⟨b', off', e', hc⟩ := hv.cells j hj
        simp only [Option.some.injEq, Addr.mk.injEq] at e'
        obtain ⟨rfl, rfl, _⟩ := e'
        have E := (hc j hj).keep G.bl
        rw [hU] at E
        clear hc
        have HA := Lib.hid E.ok
        have e4 := E.c4
        have e5 := E.c5
        have e6 := E.c6
        have e7 := E.c7
        obtain ⟨R, hR⟩ : ∃ R, afterL key noVal U.act = R := ⟨_, rfl⟩
        obtain ⟨rb, rx, rn, rz⟩ := R
        have HRR : Hid (afterL key ⟨false, 0, 0, nilS⟩ ⟨U.act.k, U.act.x, U.act.n, U.act.s⟩ = ⟨rb, rx, rn, rz⟩) := Lib.hid hR
        clear hR
        go_wp2_with fail
        refine (after_agg key false 0 0 nilS U.act.k U.act.x U.act.n U.act.s rb rx rn rz _ HRR hkey (Lib.hid noVal_ok) HA).mono ?_
        rintro e w4 ⟨rfl, hb4⟩
        have G := G.keep hb4
        clear e4 e5 e6 e7
        obtain ⟨r0, r1, r2, r3⟩ := G.r.val
        have fr := G.r.frozen
        go_wp2_with fail
        have R := G.r.set4 (.bool rb) (.float .f64 rx) (.int .i64 rn) (.string rz)
        obtain ⟨d0, d1, d2, d3⟩ := R.val
        refine bodyPost_ret (v := .agg #[.bool rb, .float .f64 rx, .int .i64 rn, .string rz]) (by simp [results, Try.results30, go_sem, d0, d1, d2, d3]) rfl ⟨by rw [HQ.out]; show _ = Ending.returned (ValL.v (afterL key noVal U.act)); rw [show afterL key noVal U.act = ⟨rb, rx, rn, rz⟩ from HRR.out]; rfl, G.bl.store4 (Nat.le_refl _) _ _ _ _⟩
theorem value_any (key : ByteArray) (a : Option Addr) (n ca : Nat) (vs : List VerL) (w : World) (hkey : key.size ≤ 140737488351232) (hv : VA w a n vs) :
    Calls Try.prog 30 #[.string key, .slice a n ca] w fun e w' => e = .returned (ValL.v (valueL key vs)) ∧ Bl w w' := by
  unfold valueL
  cases h : regB key
  · exact value_num key a n ca vs w hkey h hv
  · exact value_reg key a n ca vs w hkey h hv
end Go.Proofs.Ytginbjcpcgphgaa
end

/- Slices of versions that a call makes: append(nil, l...) and append(.., v). By an AI agent. -/
section
namespace Go.Proofs.Ytginbjcpcgphgaa
open Go.RowKit

theorem add_none (b off j : Nat) : (⟨b, off, none⟩ : Addr).add j = ⟨b, off + j, none⟩ := by
  unfold Addr.add; split <;> simp_all
theorem info_ver : (Try.prog.info? 35).map (fun i => (i.zero.map (fun z => z.cells.size), i.size, i.bytes)) = some (some 8, 8, 96) := by kernel_rfl
theorem info_ver' : ∃ i z, Try.prog.info? 35 = some i ∧ i.zero = some z ∧ i.size = 8 ∧ i.bytes = 96 ∧ z.cells.size = 8 := by
  have h := info_ver
  cases hi : Try.prog.info? 35 with
  | none => rw [hi] at h; cases h
  | some i =>
    rw [hi] at h
    simp only [Option.map_some, Option.some.injEq, Prod.mk.injEq] at h
    obtain ⟨h1, h2, h3⟩ := h
    cases hz : i.zero with
    | none => rw [hz] at h1; cases h1
    | some z =>
      rw [hz] at h1
      simp only [Option.map_some, Option.some.injEq] at h1
      exact ⟨i, z, rfl, hz, h2, h3, h1⟩

/-- the cells of a slice of versions -/
structure SC (w : World) (a : Option Addr) (n : Nat) (cs : List Value) : Prop where
  len : cs.length = n * 8
  at_ : ∀ b off, a = some ⟨b, off, none⟩ → ∀ j u, cs[j]? = some u → w.cell? ⟨b, off + j, none⟩ = some u
  nil : a = none → n = 0
  plain : ∀ b off s, a = some ⟨b, off, s⟩ → 0 < n → s = none
  one : ∀ u ∈ cs, u.oneCell' = true
theorem VE.cell8 {w : World} {b off : Nat} {v : VerL} (h : VE w b off v) (r : Nat) (hr : r < 8) : ∃ u, w.cell? ⟨b, off + r, none⟩ = some u ∧ u.oneCell' = true := by
  obtain ⟨a, n, ca, h1, _⟩ := h.at_
  have hc : r = 0 ∨ r = 1 ∨ r = 2 ∨ r = 3 ∨ r = 4 ∨ r = 5 ∨ r = 6 ∨ r = 7 := by omega
  rcases hc with rfl | rfl | rfl | rfl | rfl | rfl | rfl | rfl
  · exact ⟨_, h.c0, rfl⟩
  · exact ⟨_, h1, rfl⟩
  · exact ⟨_, h.c2, rfl⟩
  · exact ⟨_, h.c3, rfl⟩
  · exact ⟨_, h.c4, rfl⟩
  · exact ⟨_, h.c5, rfl⟩
  · exact ⟨_, h.c6, rfl⟩
  · exact ⟨_, h.c7, rfl⟩
/-- one element read at another place -/
theorem VE.moved {w w' : World} {b off b' off' : Nat} {v : VerL} (h : VE w b off v) (hb : Bl w w') (hc : ∀ r, r < 8 → w'.cell? ⟨b', off' + r, none⟩ = w.cell? ⟨b, off + r, none⟩) : VE w' b' off' v := by
  obtain ⟨a, n, ca, h1, h2⟩ := h.at_
  exact ⟨(hc 0 (by decide)).trans h.c0, ⟨a, n, ca, (hc 1 (by decide)).trans h1, h2.keep hb⟩, (hc 2 (by decide)).trans h.c2, (hc 3 (by decide)).trans h.c3, (hc 4 (by decide)).trans h.c4, (hc 5 (by decide)).trans h.c5, (hc 6 (by decide)).trans h.c6, (hc 7 (by decide)).trans h.c7, h.ok⟩
theorem va_src {w : World} {a : Option Addr} {n : Nat} {vs : List VerL} (h : VA w a n vs) : ∃ cs, SC w a n cs := by
  by_cases hn : 0 < n
  · obtain ⟨b, off, rfl, hc⟩ := h.cells 0 hn
    have hex : ∀ j, j < n * 8 → ∃ u, w.cell? ⟨b, off + j, none⟩ = some u ∧ u.oneCell' = true := fun j hj => by
      have := (hc (j / 8) (by omega)).cell8 (j % 8) (by omega)
      rwa [show off + j / 8 * 8 + j % 8 = off + j by omega] at this
    refine ⟨(List.range (n * 8)).map (fun j => (w.cell? ⟨b, off + j, none⟩).getD undef), by simp, ?_, (fun h => by cases h), ?_, ?_⟩
    · intro b' off' e j u hu
      simp only [Option.some.injEq, Addr.mk.injEq] at e
      obtain ⟨rfl, rfl, _⟩ := e
      by_cases hj : j < n * 8
      · obtain ⟨u', h1, _⟩ := hex j hj
        simp [hj, h1] at hu
        rw [h1, hu]
      · simp [hj] at hu
    · intro b' off' s e _
      simp only [Option.some.injEq, Addr.mk.injEq] at e
      exact e.2.2.symm
    · intro u hu
      simp only [List.mem_map, List.mem_range] at hu
      obtain ⟨j, hj, rfl⟩ := hu
      obtain ⟨u', h1, h2⟩ := hex j hj
      rw [h1]; exact h2
  · have : n = 0 := by omega
    subst this
    exact ⟨[], by simp, by simp, fun _ => rfl, fun _ _ _ _ h => absurd h hn, by simp⟩
theorem SC.keep {w w' : World} {a : Option Addr} {n : Nat} {cs : List Value} (h : SC w a n cs) (hb : Bl w w') : SC w' a n cs :=
  ⟨h.len, fun b off e j u hu => hb.cell (h.at_ b off e j u hu), h.nil, h.plain, h.one⟩

/-- an own slice of versions -/
def OVS (B : Nat) (w : World) (v : Value) (n : Nat) (cs : List Value) : Prop := w.ownsRow B 35 8 v n cs
theorem OVS.keep {B n : Nat} {w w' : World} {v : Value} {cs : List Value} (h : OVS B w v n cs) (hb : Bl w w') : OVS B w' v n cs := ownsRow_bl h hb
theorem OVS.cells {B n : Nat} {w : World} {v : Value} {cs : List Value} (h : OVS B w v n cs) (hn : 0 < n) : ∃ g ca, v = .slice (some ⟨g, 0, none⟩) n ca ∧ B ≤ g ∧ g < w.heap.size ∧ ∀ j u, cs[j]? = some u → w.cell? ⟨g, j, none⟩ = some u := by
  have h' := h
  obtain ⟨h1, ⟨_, h2⟩ | ⟨g, cap, cur, rfl, hB, hg, _⟩⟩ := h'
  · omega
  · refine ⟨g, cap, rfl, hB, lt_of_heap hg, fun j u hu => ?_⟩
    have := World.ownsRow.cells h (g := g) rfl j u hu
    rwa [add_none, Nat.zero_add] at this
/-- what is read in an own slice that has the cells of l and then of others -/
theorem va_own {B : Nat} {w W : World} {a : Option Addr} {n : Nat} {vs : List VerL} {cs : List Value} {v : Value} {c0 c1 c2 c3 c4 c5 c6 c7 : Value} {V : VerL} (h : VA w a n vs) (hs : SC w a n cs) (hb : Bl w W) (ho : OVS B W v (n + 1) (cs ++ [c0, c1, c2, c3, c4, c5, c6, c7])) (hcap : n + 1 ≤ 140737488351232)
    (e0 : c0 = .string V.key) (e1 : ∃ a0 n0 k0, c1 = .slice a0 n0 k0 ∧ IA W a0 n0 V.at_) (e2 : c2 = .int .i64 V.origin) (e3 : c3 = .int .i64 V.tx) (e4 : c4 = .int .i64 V.act.k) (e5 : c5 = .float .f64 V.act.x) (e6 : c6 = .int .i64 V.act.n) (e7 : c7 = .string V.act.s) (hok : V.act.Ok) :
    ∃ a' ca, v = .slice a' (n + 1) ca ∧ VA W a' (n + 1) (vs ++ [V]) := by
  obtain ⟨g, ca, rfl, _, _, hc⟩ := ho.cells (Nat.succ_pos n)
  refine ⟨_, ca, rfl, ⟨by simp [h.len], hcap, fun j0 _ => ⟨g, 0, rfl, fun j hj => ?_⟩⟩⟩
  by_cases hlt : j < n
  · obtain ⟨b, off, rfl, hv⟩ := h.cells j hlt
    have e : nthR (vs ++ [V]) j = nthR vs j := by
      have h1 : j < vs.length := by rw [h.len]; exact hlt
      rw [nthR_eq h1, nthR_eq (by simp; omega), List.getElem_append_left h1]
    rw [e]
    refine (hv j hlt).moved hb fun r hr => ?_
    have hj8 : j * 8 + r < cs.length := by rw [hs.len]; omega
    have h1 := hs.at_ b off rfl (j * 8 + r) cs[j * 8 + r] (List.getElem?_eq_getElem hj8)
    have h2 := hc (j * 8 + r) cs[j * 8 + r] (by rw [List.getElem?_append_left hj8, List.getElem?_eq_getElem hj8])
    rw [show 0 + j * 8 + r = j * 8 + r by omega, h2, show off + j * 8 + r = off + (j * 8 + r) by omega, h1]
  · have hj' : j = n := by omega
    subst hj'
    have e : nthR (vs ++ [V]) j = V := by
      rw [nthR_eq (by simp [h.len])]
      simp [h.len]
    rw [e]
    have hx : ∀ r u, [c0, c1, c2, c3, c4, c5, c6, c7][r]? = some u → W.cell? ⟨g, 0 + j * 8 + r, none⟩ = some u := fun r u hu => by
      refine hc _ u ?_
      rw [show 0 + j * 8 + r = cs.length + r by rw [hs.len]; omega, List.getElem?_append_right (by omega)]
      simpa using hu
    obtain ⟨a0, n0, k0, e1, hI⟩ := e1
    subst e0; subst e1; subst e2; subst e3; subst e4; subst e5; subst e6; subst e7
    exact ⟨hx 0 _ rfl, ⟨a0, n0, k0, hx 1 _ rfl, hI⟩, hx 2 _ rfl, hx 3 _ rfl, hx 4 _ rfl, hx 5 _ rfl, hx 6 _ rfl, hx 7 _ rfl, hok⟩

theorem AC.grown {w w' : World} {g : Nat} {cs : List Value} {row : Option Nat} (h : AC w g cs) (hg : w.grownBy w' row) (hne : some g ≠ row) : AC w' g cs := by
  obtain ⟨t, h⟩ := h
  exact ⟨t, by rw [hg.block g (lt_of_heap h) hne]; exact h⟩
theorem Bl.grownRow {B : Nat} {w0 w w' : World} {v : Value} {n : Nat} {cs : List Value} (hb : Bl w0 w) (ho : OVS B w v n cs) (hB : w0.heap.size ≤ B) (hg : w.grownBy w' v.ownBlock) : Bl w0 w' :=
  Below.grown hb hg hb.size (fun k hk => Nat.le_trans hB (World.ownsRow.lt ho k hk).1)
theorem OVS.ne_lt {B : Nat} {w : World} {v : Value} {n g : Nat} {cs : List Value} (ho : OVS B w v n cs) (hg : g < B) : some g ≠ v.ownBlock := fun e => by
  have := (World.ownsRow.lt ho g e.symm).1; omega
theorem OVS.ne_ge {B : Nat} {w : World} {v : Value} {n g : Nat} {cs : List Value} (ho : OVS B w v n cs) (hg : w.heap.size ≤ g) : some g ≠ v.ownBlock := fun e => by
  have := (World.ownsRow.lt ho g e.symm).2; omega

section
variable {ops : Array Oper}
/-- append(nil, l...) -/
theorem eOp_app1 {i : Nat} {o : Oper} {a : Act} {w : World} {K : Act → World → Prop} (ho' : ops[i]? = some o) (hgd : o.guard = none) (s x : Operand)
    (ho : o.op = .call { callee := .builtin .append, args := #[s, x], argTypes := #[22, 22] }) (hs : a.eval s = .slice none 0 0)
    (ad : Option Addr) (n c : Nat) (cs : List Value) (hx : a.eval x = .slice ad n c) (hsc : SC w ad n cs) (hn : n ≤ 1000)
    (h : ∀ v' w', OVS w.heap.size w' v' n cs → Bl w w' → K (a.put o.dst v') w') : eOp Try.prog ops i K a w := by
  obtain ⟨ti, z, hi, hz, h1, h2, h3⟩ := info_ver'
  have hnil : n = 0 → cs = [] := fun h => List.eq_nil_of_length_eq_zero (by rw [hsc.len, h])
  cases ad with
  | none =>
    have hn0 := hsc.nil rfl
    subst hn0
    have e := hnil rfl
    subst e
    have hr : (Builtin.append_ #[22, 22] o.type #[.slice none 0 0, .slice none 0 c]).run Try.prog w = .ok (.slice none 0 0) w := by
      simp [Builtin.append_, run_underlying Try.underlying22, sizeOf, typeInfo, hi, Builtin.lenOf, Builtin.firstCells]
    unfold eOp
    simp only [ho']
    rw [if_pos (by simp [Region.wanted, hgd])]
    unfold eOper execOp
    simp only [ho, resolve, invoke, builtin, Sem.run_bind, Sem.run_pure, Result.andThen_ok, List.map_toArray, List.map_cons, List.map_nil, hs, hx, hr, eUpon]
    exact h _ _ (World.ownsRow_nil _ _ _ _) (Bl.refl _)
  | some ad =>
    refine eOp_append ho' hgd s x _ ho w.heap.size 35 ti z 8 96 Try.underlying22 hi hz h1 h2 h3 (by decide) (.slice none 0 0) 0 [] hs (World.ownsRow_nil _ _ _ _) ad n c cs hx hsc.len ?_ hsc.one (by unfold maxLen; omega) (by omega) (Nat.le_refl _) ?_
    · intro j u hu
      by_cases hn0 : 0 < n
      · obtain ⟨b, off, s'⟩ := ad
        have := hsc.plain b off s' rfl hn0
        subst this
        have := hsc.at_ b off rfl j u hu
        rwa [add_none]
      · rw [hnil (by omega)] at hu
        simp at hu
    · intro v' w' hown hgr _
      rw [Nat.zero_add] at hown
      exact h v' w' hown (Below.grown (Bl.refl w) hgr (Nat.le_refl _) (fun k hk => by simp [Value.ownBlock] at hk))
/-- append(v, x) where v is the call's own -/
theorem eOp_app2 {i : Nat} {o : Oper} {a : Act} {w : World} {K : Act → World → Prop} (ho' : ops[i]? = some o) (hgd : o.guard = none) (s x : Operand)
    (ho : o.op = .call { callee := .builtin .append, args := #[s, x], argTypes := #[22, 22] }) (B : Nat) (v : Value) (n : Nat) (cs : List Value) (hs : a.eval s = v) (hown : OVS B w v n cs) (hB : B ≤ w.heap.size) (hn : n ≤ 1000)
    (j : Nat) (news : List Value) (hx : a.eval x = .slice (some ⟨j, 0, none⟩) 1 1) (hj : AC w j news) (hl : news.length = 8) (h1 : ∀ u ∈ news, u.oneCell' = true)
    (h : ∀ v' w', OVS B w' v' (n + 1) (cs ++ news) → w.grownBy w' v.ownBlock → K (a.put o.dst v') w') : eOp Try.prog ops i K a w := by
  obtain ⟨ti, z, hi, hz, g1, g2, g3⟩ := info_ver'
  refine eOp_append ho' hgd s x _ ho B 35 ti z 8 96 Try.underlying22 hi hz g1 g2 g3 (by decide) v n cs hs hown ⟨j, 0, none⟩ 1 1 news hx (by rw [hl]) ?_ h1 (by unfold maxLen; omega) (by omega) hB ?_
  · intro k u hu
    rw [add_none, Nat.zero_add]
    exact hj.cell k u hu
  · intro v' w' ho2 hgr _
    exact h v' w' ho2 hgr
theorem wpList_app1 {rest : List Oper} {o : Oper} {a : Act} {w : World} {Q : Exit → Act → World → Prop} (hgd : o.guard = none) (s x : Operand)
    (ho : o.op = .call { callee := .builtin .append, args := #[s, x], argTypes := #[22, 22] }) (hs : a.eval s = .slice none 0 0)
    (ad : Option Addr) (n c : Nat) (cs : List Value) (hx : a.eval x = .slice ad n c) (hsc : SC w ad n cs) (hn : n ≤ 1000)
    (h : ∀ v' w', OVS w.heap.size w' v' n cs → Bl w w' → wpList Try.prog ops Q rest (a.put o.dst v') w') : wpList Try.prog ops Q (o :: rest) a w := by
  obtain ⟨ti, z, hi, hz, h1, h2, h3⟩ := info_ver'
  have hnil : n = 0 → cs = [] := fun h => List.eq_nil_of_length_eq_zero (by rw [hsc.len, h])
  cases ad with
  | none =>
    have hn0 := hsc.nil rfl
    subst hn0
    have e := hnil rfl
    subst e
    have hr : (Builtin.append_ #[22, 22] o.type #[.slice none 0 0, .slice none 0 c]).run Try.prog w = .ok (.slice none 0 0) w := by
      simp [Builtin.append_, run_underlying Try.underlying22, sizeOf, typeInfo, hi, Builtin.lenOf, Builtin.firstCells]
    refine wpList_plain hgd fun _ hK => ?_
    unfold Oper.wp execOp
    simp only [ho, resolve, invoke, builtin, Sem.run_bind, Sem.run_pure, Result.andThen_ok, List.map_toArray, List.map_cons, List.map_nil, hs, hx, hr]
    exact hK _ _ (h _ _ (World.ownsRow_nil _ _ _ _) (Bl.refl _))
  | some ad =>
    refine wpList_append_own w hgd s x _ ho w.heap.size 35 ti z 8 96 Try.underlying22 hi hz h1 h2 h3 (by decide) (.slice none 0 0) 0 [] hs (World.ownsRow_nil _ _ _ _) ad n c cs hx hsc.len ?_ hsc.one (by unfold maxLen; omega) (by omega) (Nat.le_refl _) ?_
    · intro j u hu
      by_cases hn0 : 0 < n
      · obtain ⟨b, off, s'⟩ := ad
        have := hsc.plain b off s' rfl hn0
        subst this
        have := hsc.at_ b off rfl j u hu
        rwa [add_none]
      · rw [hnil (by omega)] at hu
        simp at hu
    · intro v' w' hown hgr _
      rw [Nat.zero_add] at hown
      exact h v' w' hown (Below.grown (Bl.refl w) hgr (Nat.le_refl _) (fun k hk => by simp [Value.ownBlock] at hk))
theorem wpList_app2 {rest : List Oper} {o : Oper} {a : Act} {w : World} {Q : Exit → Act → World → Prop} (hgd : o.guard = none) (s x : Operand)
    (ho : o.op = .call { callee := .builtin .append, args := #[s, x], argTypes := #[22, 22] }) (B : Nat) (v : Value) (n : Nat) (cs : List Value) (hs : a.eval s = v) (hown : OVS B w v n cs) (hB : B ≤ w.heap.size) (hn : n ≤ 1000)
    (j : Nat) (news : List Value) (hx : a.eval x = .slice (some ⟨j, 0, none⟩) 1 1) (hj : AC w j news) (hl : news.length = 8) (h1 : ∀ u ∈ news, u.oneCell' = true)
    (h : ∀ v' w', OVS B w' v' (n + 1) (cs ++ news) → w.grownBy w' v.ownBlock → wpList Try.prog ops Q rest (a.put o.dst v') w') : wpList Try.prog ops Q (o :: rest) a w := by
  obtain ⟨ti, z, hi, hz, g1, g2, g3⟩ := info_ver'
  refine wpList_append_own w hgd s x _ ho B 35 ti z 8 96 Try.underlying22 hi hz g1 g2 g3 (by decide) v n cs hs hown ⟨j, 0, none⟩ 1 1 news hx (by rw [hl]) ?_ h1 (by unfold maxLen; omega) (by omega) hB ?_
  · intro k u hu
    rw [add_none, Nat.zero_add]
    exact hj.cell k u hu
  · intro v' w' ho2 hgr _
    exact h v' w' ho2 hgr
end
end Go.Proofs.Ytginbjcpcgphgaa
end
