import Derived.Test.YtdjlnpiaehoofaaCore3
import Derived.Deep.AppendSrc
import Derived.Maps.OwnRows
import Derived.Test.YtdjlnpiaehoofaaCore10
import Derived.Test.YtdjlnpiaehoofaaCore1
import Derived.Deep.QuietTactic
import Derived.BigQuiet
import Derived.Below

/- op.Value of registers, and of every key. By an AI agent. -/
section
namespace Go.Proofs.Ytdjlnpiaehoofaa
open Go.RowKit
attribute [local go_sem] eOp eOper eUpon

/-- which of two versions stays -/
def stepL (key : ByteArray) (last : Option VerL) (v : VerL) : Option VerL :=
  if fitsB key v.act then (match last with
    | none => some v
    | some u => if orderL v u < 0 then some v else some u) else last
def lastL (key : ByteArray) (vs : List VerL) : Option VerL := vs.foldl (stepL key) none
theorem lastL_snoc (key : ByteArray) (vs : List VerL) (v : VerL) : lastL key (vs ++ [v]) = stepL key (lastL key vs) v := by simp [lastL]
def ofLast (key : ByteArray) : Option VerL → ValL
  | none => noVal
  | some u => afterL key noVal u.act
/-- op.Value -/
def valueL (key : ByteArray) (vs : List VerL) : ValL := if regB key then ofLast key (lastL key vs) else outL key vs
/-- where the last version lies -/
def PL (a : Option Addr) (n : Nat) (vs : List VerL) (last : Option VerL) (p : Value) : Prop :=
  match last with
  | none => p = .pointer none
  | some u => ∃ b off j, a = some ⟨b, off, none⟩ ∧ j < n ∧ p = .pointer (some ⟨b, off + j * 8, none⟩) ∧ nthR vs j = u
theorem order_ver (V U : VerL) (a a2 : Option Addr) (n n2 ca ca2 : Nat) (w : World) (hx : IA w a n V.at_) (hy : IA w a2 n2 U.at_) :
    Calls Try.prog 49 #[.agg #[.string V.key, .slice a n ca, .int .i64 V.origin, .int .i64 V.tx, .int .i64 V.act.k, .float .f64 V.act.x, .int .i64 V.act.n, .string V.act.s], .agg #[.string U.key, .slice a2 n2 ca2, .int .i64 U.origin, .int .i64 U.tx, .int .i64 U.act.k, .float .f64 U.act.x, .int .i64 U.act.n, .string U.act.s]] w fun e w' => e = .returned (.int .i64 (orderL V U)) ∧ Bl w w' := by
  refine order_any V.key a n ca V.at_ V.origin V.tx V.act.k V.act.x V.act.n V.act.s U.key a2 n2 ca2 U.at_ U.origin U.tx U.act.k U.act.x U.act.n U.act.s _ _ _ _ _ _ _ _ w hx hy (Lib.hid rfl) (Lib.hid rfl) (Lib.hid rfl) (Lib.hid rfl) (Lib.hid rfl) (Lib.hid rfl) (Lib.hid rfl) (Lib.hid ?_)
  unfold orderL
  rw [hx.len, hy.len]
/-- the facts of one element, in every later world -/
theorem VE.all {W : World} {b off : Nat} {v : VerL} {a : Option Addr} {n ca : Nat} (h : VE W b off v) (h1 : W.cell? ⟨b, off + 1, none⟩ = some (.slice a n ca)) :
    (∀ m : Ext W, m.at.cell? ⟨b, off, none⟩ = some (.string v.key)) ∧ (∀ m : Ext W, m.at.cell? ⟨b, off + 1, none⟩ = some (.slice a n ca)) ∧ (∀ m : Ext W, m.at.cell? ⟨b, off + 2, none⟩ = some (.int .i64 v.origin)) ∧ (∀ m : Ext W, m.at.cell? ⟨b, off + 3, none⟩ = some (.int .i64 v.tx)) ∧
    (∀ m : Ext W, m.at.cell? ⟨b, off + 4, none⟩ = some (.int .i64 v.act.k)) ∧ (∀ m : Ext W, m.at.cell? ⟨b, off + 5, none⟩ = some (.float .f64 v.act.x)) ∧ (∀ m : Ext W, m.at.cell? ⟨b, off + 6, none⟩ = some (.int .i64 v.act.n)) ∧ (∀ m : Ext W, m.at.cell? ⟨b, off + 7, none⟩ = some (.string v.act.s)) :=
  ⟨fun m => (h.keep m.bl).c0, fun m => m.bl.cell h1, fun m => (h.keep m.bl).c2, fun m => (h.keep m.bl).c3, fun m => (h.keep m.bl).c4, fun m => (h.keep m.bl).c5, fun m => (h.keep m.bl).c6, fun m => (h.keep m.bl).c7⟩

set_option maxHeartbeats 6400000 in
set_option maxRecDepth 100000 in
theorem value_reg (key : ByteArray) (a : Option Addr) (n ca : Nat) (vs : List VerL) (w : World) (hkey : key.size ≤ 140737488351232) (hreg : regB key = true) (hv : VA w a n vs) :
    Calls Try.prog 29 #[.string key, .slice a n ca] w fun e w' => e = .returned (ValL.v (ofLast key (lastL key vs))) ∧ Bl w w' := by
  have hsf := store_float
  have HL := Lib.hid hv.len
  have hcap := hv.cap
  have HR := Lib.hid hreg
  clear hreg
  go_enter Try.func29, Try.ntmps29
  go_wp2_with fail
  have G0 := OV.new w 38 38
  go_loopw [6, 11] (fun p i wr => ∃ k : Nat, k ≤ n ∧ PL a n vs (lastL key (vs.take k)) p ∧ i = .int .i64 k ∧ OV w wr false 0 0 ⟨#[]⟩) (fun _ i _ => n - (intOf i).toNat)
  case atStart => exact ⟨0, Nat.zero_le _, rfl, rfl, G0⟩
  case round =>
    clear G0
    obtain ⟨k, hk, hp, rfl, G⟩ := hrel
    obtain ⟨last, hQ⟩ : ∃ last, lastL key (vs.take k) = last := ⟨_, rfl⟩
    rw [hQ] at hp
    have HQ := Lib.hid hQ
    clear hQ
    by_cases hlt : k < n
    · obtain ⟨b, off, rfl, hc⟩ := hv.cells k hlt
      have E := (hc k hlt).keep G.bl
      have HC := Lib.hid hc
      clear hc
      have HS := Lib.hid (take_nthR (vs := vs) (k := k) (by rw [HL.out]; exact hlt))
      have HA := Lib.hid E.ok
      obtain ⟨V, hV⟩ : ∃ V, nthR vs k = V := ⟨_, rfl⟩
      rw [hV] at E HS HA
      have HV := Lib.hid hV
      clear hV
      have e4 := E.c4
      have e5 := E.c5
      have e6 := E.c6
      have e7 := E.c7
      obtain ⟨f, hf⟩ : ∃ f, fitsB key ⟨V.act.k, V.act.x, V.act.n, V.act.s⟩ = f := ⟨_, rfl⟩
      have HF := Lib.hid hf
      clear hf
      go_wp2_with fail
      refine (fits_agg key V.act.k V.act.x V.act.n V.act.s f _ HF hkey HA).mono ?_
      rintro e w2 ⟨rfl, hb2⟩
      have G := G.keep hb2
      have E := E.keep hb2
      clear hb2 e4 e5 e6 e7
      cases f
      · have HN : Hid (stepL key last V = last) := Lib.hid (by unfold stepL; rw [show fitsB key V.act = false from HF.out]; rfl)
        go_wp2_with fail
        go_roundw
        case rel => exact ⟨k + 1, by omega, by rw [HS.out, lastL_snoc, HQ.out, HN.out]; exact hp, by go_num, G⟩
        case measure => simp [intOf]; omega
      · go_wp2_with fail
        refine (registers_any key _ hkey).mono ?_
        rintro e w3 ⟨rfl, rfl⟩
        rw [HR.out]
        cases last with
        | none =>
          have hp0 : u6 = .pointer none := hp
          subst hp0
          have HN : Hid (stepL key none V = some V) := Lib.hid (by unfold stepL; rw [show fitsB key V.act = true from HF.out]; rfl)
          go_wp2_with fail
          refine wp_region_allS (by kernel_rfl) (by kernel_rfl) ?_
          have G1 := G.keep ((Bl.refl w2).drew)
          clear G E
          generalize w2.drew = W at *
          repeat (refine wpS_step (fun K hK => ?_); go_simp; refine hK _ ?_; clear hK K)
          refine wpS_nil ?_
          intro m
          have G2 := G1.keep m.bl
          generalize ExtC.at m = W9 at *
          go_wp2_with fail
          go_roundw
          case rel => exact ⟨k + 1, by omega, by rw [HS.out, lastL_snoc, HQ.out, HN.out]; exact ⟨b, off, k, rfl, hlt, rfl, HV.out⟩, by go_num, G2⟩
          case measure => simp [intOf]; omega
        | some U =>
          obtain ⟨b', off', j, e', hj, rfl, hU⟩ := hp
          simp only [Option.some.injEq, Addr.mk.injEq] at e'
          obtain ⟨rfl, rfl, _⟩ := e'
          have E2 := (HC.out j hj).keep G.bl
          rw [hU] at E2
          go_wp2_with fail
          refine wp_region_allS (by kernel_rfl) (by kernel_rfl) ?_
          have G1 := G.keep ((Bl.refl w2).drew)
          have E := E.keep ((Bl.refl w2).drew)
          have E2 := E2.keep ((Bl.refl w2).drew)
          clear G
          generalize w2.drew = W at *
          obtain ⟨va, vn, vc, v1, vI⟩ := E.at_
          obtain ⟨ua, un, uc, u1', uI⟩ := E2.at_
          obtain ⟨p0, p1, p2, p3, p4, p5, p6, p7⟩ := E.all v1
          obtain ⟨q0, q1, q2, q3, q4, q5, q6, q7⟩ := E2.all u1'
          clear E E2 v1 u1'
          have hO : ∀ m : Ext W, _ := fun m => order_ver V U va ua vn un vc uc m.at (vI.keep m.bl) (uI.keep m.bl)
          have HO := Lib.hid hO
          obtain ⟨c, hc0⟩ : ∃ c, orderL V U = c := ⟨_, rfl⟩
          rw [hc0] at HO
          have HC0 := Lib.hid hc0
          clear hO hc0 vI uI
          repeat (refine wpS_step (fun K hK => ?_); go_simp; first | (refine hK _ ?_; clear hK K) | (apply Exists.intro; refine ⟨fun m => ?_, hK _ ?_⟩; (exact HO.out m); clear hK K))
          clear p0 p1 p2 p3 p4 p5 p6 p7 q0 q1 q2 q3 q4 q5 q6 q7
          by_cases hlt0 : c < 0
          · have HN : Hid (stepL key (some U) V = some V) := Lib.hid (by unfold stepL; rw [show fitsB key V.act = true from HF.out]; show (if orderL V U < 0 then _ else _) = _; rw [HC0.out, if_pos hlt0])
            refine wpS_nil ?_
            intro m
            have G2 := G1.keep m.bl
            generalize ExtC.at m = W9 at *
            go_wp2_with fail
            go_roundw
            case rel => exact ⟨k + 1, by omega, by rw [HS.out, lastL_snoc, HQ.out, HN.out]; exact ⟨b, off, k, rfl, hlt, rfl, HV.out⟩, by go_num, G2⟩
            case measure => simp [intOf]; omega
          · have HN : Hid (stepL key (some U) V = some U) := Lib.hid (by unfold stepL; rw [show fitsB key V.act = true from HF.out]; show (if orderL V U < 0 then _ else _) = _; rw [HC0.out, if_neg hlt0])
            refine wpS_nil ?_
            intro m
            have G2 := G1.keep m.bl
            generalize ExtC.at m = W9 at *
            go_wp2_with fail
            go_roundw
            case rel => exact ⟨k + 1, by omega, by rw [HS.out, lastL_snoc, HQ.out, HN.out]; exact ⟨b, off, j, rfl, hj, rfl, hU⟩, by go_num, G2⟩
            case measure => simp [intOf]; omega
    · have hE : vs.take k = vs := List.take_of_length_le (by have := HL.out; omega)
      rw [hE] at HQ
      clear hE
      cases last with
      | none =>
        have hp0 : u6 = .pointer none := hp
        subst hp0
        obtain ⟨o0, o1, o2, o3⟩ := G.o.val
        obtain ⟨r0, r1, r2, r3⟩ := G.r.val
        have fr := G.r.frozen
        go_wp2_with fail
        have R := G.r.set4 (.bool false) (.float .f64 0) (.int .i64 0) (.string ⟨#[]⟩)
        obtain ⟨d0, d1, d2, d3⟩ := R.val
        refine bodyPost_ret (v := .agg #[.bool false, .float .f64 0, .int .i64 0, .string ⟨#[]⟩]) (by simp [results, Try.results29, go_sem, d0, d1, d2, d3]) rfl ⟨by rw [HQ.out]; rfl, G.bl.store4 (Nat.le_refl _) _ _ _ _⟩
      | some U =>
        obtain ⟨b, off, j, rfl, hj, rfl, hU⟩ := hp
        obtain ⟨b', off', e', hc⟩ := hv.cells j hj
        simp only [Option.some.injEq, Addr.mk.injEq] at e'
        obtain ⟨rfl, rfl, _⟩ := e'
        have E := (hc j hj).keep G.bl
        rw [hU] at E
        clear hc
        have HA := Lib.hid E.ok
        have e4 := E.c4
        have e5 := E.c5
        have e6 := E.c6
        have e7 := E.c7
        obtain ⟨R, hR⟩ : ∃ R, afterL key noVal U.act = R := ⟨_, rfl⟩
        obtain ⟨rb, rx, rn, rz⟩ := R
        have HRR : Hid (afterL key ⟨false, 0, 0, nilS⟩ ⟨U.act.k, U.act.x, U.act.n, U.act.s⟩ = ⟨rb, rx, rn, rz⟩) := Lib.hid hR
        clear hR
        go_wp2_with fail
        refine (after_agg key false 0 0 nilS U.act.k U.act.x U.act.n U.act.s rb rx rn rz _ HRR hkey (Lib.hid noVal_ok) HA).mono ?_
        rintro e w4 ⟨rfl, hb4⟩
        have G := G.keep hb4
        clear e4 e5 e6 e7
        obtain ⟨r0, r1, r2, r3⟩ := G.r.val
        have fr := G.r.frozen
        go_wp2_with fail
        have R := G.r.set4 (.bool rb) (.float .f64 rx) (.int .i64 rn) (.string rz)
        obtain ⟨d0, d1, d2, d3⟩ := R.val
        refine bodyPost_ret (v := .agg #[.bool rb, .float .f64 rx, .int .i64 rn, .string rz]) (by simp [results, Try.results29, go_sem, d0, d1, d2, d3]) rfl ⟨by rw [HQ.out]; show _ = Ending.returned (ValL.v (afterL key noVal U.act)); rw [show afterL key noVal U.act = ⟨rb, rx, rn, rz⟩ from HRR.out]; rfl, G.bl.store4 (Nat.le_refl _) _ _ _ _⟩
theorem value_any (key : ByteArray) (a : Option Addr) (n ca : Nat) (vs : List VerL) (w : World) (hkey : key.size ≤ 140737488351232) (hv : VA w a n vs) :
    Calls Try.prog 29 #[.string key, .slice a n ca] w fun e w' => e = .returned (ValL.v (valueL key vs)) ∧ Bl w w' := by
  unfold valueL
  cases h : regB key
  · exact value_num key a n ca vs w hkey h hv
  · exact value_reg key a n ca vs w hkey h hv
end Go.Proofs.Ytdjlnpiaehoofaa
end

/- Slices of versions that a call makes: append(nil, l...) and append(.., v). By an AI agent. -/
section
namespace Go.Proofs.Ytdjlnpiaehoofaa
open Go.RowKit

theorem add_none (b off j : Nat) : (⟨b, off, none⟩ : Addr).add j = ⟨b, off + j, none⟩ := by
  unfold Addr.add; split <;> simp_all
theorem info_ver : (Try.prog.info? 35).map (fun i => (i.zero.map (fun z => z.cells.size), i.size, i.bytes)) = some (some 8, 8, 96) := by kernel_rfl
theorem info_ver' : ∃ i z, Try.prog.info? 35 = some i ∧ i.zero = some z ∧ i.size = 8 ∧ i.bytes = 96 ∧ z.cells.size = 8 := by
  have h := info_ver
  cases hi : Try.prog.info? 35 with
  | none => rw [hi] at h; cases h
  | some i =>
    rw [hi] at h
    simp only [Option.map_some, Option.some.injEq, Prod.mk.injEq] at h
    obtain ⟨h1, h2, h3⟩ := h
    cases hz : i.zero with
    | none => rw [hz] at h1; cases h1
    | some z =>
      rw [hz] at h1
      simp only [Option.map_some, Option.some.injEq] at h1
      exact ⟨i, z, rfl, hz, h2, h3, h1⟩

/-- the cells of a slice of versions -/
structure SC (w : World) (a : Option Addr) (n : Nat) (cs : List Value) : Prop where
  len : cs.length = n * 8
  at_ : ∀ b off, a = some ⟨b, off, none⟩ → ∀ j u, cs[j]? = some u → w.cell? ⟨b, off + j, none⟩ = some u
  nil : a = none → n = 0
  plain : ∀ b off s, a = some ⟨b, off, s⟩ → 0 < n → s = none
  one : ∀ u ∈ cs, u.oneCell' = true
theorem VE.cell8 {w : World} {b off : Nat} {v : VerL} (h : VE w b off v) (r : Nat) (hr : r < 8) : ∃ u, w.cell? ⟨b, off + r, none⟩ = some u ∧ u.oneCell' = true := by
  obtain ⟨a, n, ca, h1, _⟩ := h.at_
  have hc : r = 0 ∨ r = 1 ∨ r = 2 ∨ r = 3 ∨ r = 4 ∨ r = 5 ∨ r = 6 ∨ r = 7 := by omega
  rcases hc with rfl | rfl | rfl | rfl | rfl | rfl | rfl | rfl
  · exact ⟨_, h.c0, rfl⟩
  · exact ⟨_, h1, rfl⟩
  · exact ⟨_, h.c2, rfl⟩
  · exact ⟨_, h.c3, rfl⟩
  · exact ⟨_, h.c4, rfl⟩
  · exact ⟨_, h.c5, rfl⟩
  · exact ⟨_, h.c6, rfl⟩
  · exact ⟨_, h.c7, rfl⟩
/-- one element read at another place -/
theorem VE.moved {w w' : World} {b off b' off' : Nat} {v : VerL} (h : VE w b off v) (hb : Bl w w') (hc : ∀ r, r < 8 → w'.cell? ⟨b', off' + r, none⟩ = w.cell? ⟨b, off + r, none⟩) : VE w' b' off' v := by
  obtain ⟨a, n, ca, h1, h2⟩ := h.at_
  exact ⟨(hc 0 (by decide)).trans h.c0, ⟨a, n, ca, (hc 1 (by decide)).trans h1, h2.keep hb⟩, (hc 2 (by decide)).trans h.c2, (hc 3 (by decide)).trans h.c3, (hc 4 (by decide)).trans h.c4, (hc 5 (by decide)).trans h.c5, (hc 6 (by decide)).trans h.c6, (hc 7 (by decide)).trans h.c7, h.ok⟩
theorem va_src {w : World} {a : Option Addr} {n : Nat} {vs : List VerL} (h : VA w a n vs) : ∃ cs, SC w a n cs := by
  by_cases hn : 0 < n
  · obtain ⟨b, off, rfl, hc⟩ := h.cells 0 hn
    have hex : ∀ j, j < n * 8 → ∃ u, w.cell? ⟨b, off + j, none⟩ = some u ∧ u.oneCell' = true := fun j hj => by
      have := (hc (j / 8) (by omega)).cell8 (j % 8) (by omega)
      rwa [show off + j / 8 * 8 + j % 8 = off + j by omega] at this
    refine ⟨(List.range (n * 8)).map (fun j => (w.cell? ⟨b, off + j, none⟩).getD undef), by simp, ?_, (fun h => by cases h), ?_, ?_⟩
    · intro b' off' e j u hu
      simp only [Option.some.injEq, Addr.mk.injEq] at e
      obtain ⟨rfl, rfl, _⟩ := e
      by_cases hj : j < n * 8
      · obtain ⟨u', h1, _⟩ := hex j hj
        simp [hj, h1] at hu
        rw [h1, hu]
      · simp [hj] at hu
    · intro b' off' s e _
      simp only [Option.some.injEq, Addr.mk.injEq] at e
      exact e.2.2.symm
    · intro u hu
      simp only [List.mem_map, List.mem_range] at hu
      obtain ⟨j, hj, rfl⟩ := hu
      obtain ⟨u', h1, h2⟩ := hex j hj
      rw [h1]; exact h2
  · have : n = 0 := by omega
    subst this
    exact ⟨[], by simp, by simp, fun _ => rfl, fun _ _ _ _ h => absurd h hn, by simp⟩
theorem SC.keep {w w' : World} {a : Option Addr} {n : Nat} {cs : List Value} (h : SC w a n cs) (hb : Bl w w') : SC w' a n cs :=
  ⟨h.len, fun b off e j u hu => hb.cell (h.at_ b off e j u hu), h.nil, h.plain, h.one⟩

/-- an own slice of versions -/
def OVS (B : Nat) (w : World) (v : Value) (n : Nat) (cs : List Value) : Prop := w.ownsRow B 35 8 v n cs
theorem OVS.keep {B n : Nat} {w w' : World} {v : Value} {cs : List Value} (h : OVS B w v n cs) (hb : Bl w w') : OVS B w' v n cs := ownsRow_bl h hb
theorem OVS.cells {B n : Nat} {w : World} {v : Value} {cs : List Value} (h : OVS B w v n cs) (hn : 0 < n) : ∃ g ca, v = .slice (some ⟨g, 0, none⟩) n ca ∧ B ≤ g ∧ g < w.heap.size ∧ ∀ j u, cs[j]? = some u → w.cell? ⟨g, j, none⟩ = some u := by
  have h' := h
  obtain ⟨h1, ⟨_, h2⟩ | ⟨g, cap, cur, rfl, hB, hg, _⟩⟩ := h'
  · omega
  · refine ⟨g, cap, rfl, hB, lt_of_heap hg, fun j u hu => ?_⟩
    have := World.ownsRow.cells h (g := g) rfl j u hu
    rwa [add_none, Nat.zero_add] at this
/-- what is read in an own slice that has the cells of l and then of others -/
theorem va_own {B : Nat} {w W : World} {a : Option Addr} {n : Nat} {vs : List VerL} {cs : List Value} {v : Value} {c0 c1 c2 c3 c4 c5 c6 c7 : Value} {V : VerL} (h : VA w a n vs) (hs : SC w a n cs) (hb : Bl w W) (ho : OVS B W v (n + 1) (cs ++ [c0, c1, c2, c3, c4, c5, c6, c7])) (hcap : n + 1 ≤ 140737488351232)
    (e0 : c0 = .string V.key) (e1 : ∃ a0 n0 k0, c1 = .slice a0 n0 k0 ∧ IA W a0 n0 V.at_) (e2 : c2 = .int .i64 V.origin) (e3 : c3 = .int .i64 V.tx) (e4 : c4 = .int .i64 V.act.k) (e5 : c5 = .float .f64 V.act.x) (e6 : c6 = .int .i64 V.act.n) (e7 : c7 = .string V.act.s) (hok : V.act.Ok) :
    ∃ a' ca, v = .slice a' (n + 1) ca ∧ VA W a' (n + 1) (vs ++ [V]) := by
  obtain ⟨g, ca, rfl, _, _, hc⟩ := ho.cells (Nat.succ_pos n)
  refine ⟨_, ca, rfl, ⟨by simp [h.len], hcap, fun j0 _ => ⟨g, 0, rfl, fun j hj => ?_⟩⟩⟩
  by_cases hlt : j < n
  · obtain ⟨b, off, rfl, hv⟩ := h.cells j hlt
    have e : nthR (vs ++ [V]) j = nthR vs j := by
      have h1 : j < vs.length := by rw [h.len]; exact hlt
      rw [nthR_eq h1, nthR_eq (by simp; omega), List.getElem_append_left h1]
    rw [e]
    refine (hv j hlt).moved hb fun r hr => ?_
    have hj8 : j * 8 + r < cs.length := by rw [hs.len]; omega
    have h1 := hs.at_ b off rfl (j * 8 + r) cs[j * 8 + r] (List.getElem?_eq_getElem hj8)
    have h2 := hc (j * 8 + r) cs[j * 8 + r] (by rw [List.getElem?_append_left hj8, List.getElem?_eq_getElem hj8])
    rw [show 0 + j * 8 + r = j * 8 + r by omega, h2, show off + j * 8 + r = off + (j * 8 + r) by omega, h1]
  · have hj' : j = n := by omega
    subst hj'
    have e : nthR (vs ++ [V]) j = V := by
      rw [nthR_eq (by simp [h.len])]
      simp [h.len]
    rw [e]
    have hx : ∀ r u, [c0, c1, c2, c3, c4, c5, c6, c7][r]? = some u → W.cell? ⟨g, 0 + j * 8 + r, none⟩ = some u := fun r u hu => by
      refine hc _ u ?_
      rw [show 0 + j * 8 + r = cs.length + r by rw [hs.len]; omega, List.getElem?_append_right (by omega)]
      simpa using hu
    obtain ⟨a0, n0, k0, e1, hI⟩ := e1
    subst e0; subst e1; subst e2; subst e3; subst e4; subst e5; subst e6; subst e7
    exact ⟨hx 0 _ rfl, ⟨a0, n0, k0, hx 1 _ rfl, hI⟩, hx 2 _ rfl, hx 3 _ rfl, hx 4 _ rfl, hx 5 _ rfl, hx 6 _ rfl, hx 7 _ rfl, hok⟩

theorem AC.grown {w w' : World} {g : Nat} {cs : List Value} {row : Option Nat} (h : AC w g cs) (hg : w.grownBy w' row) (hne : some g ≠ row) : AC w' g cs := by
  obtain ⟨t, h⟩ := h
  exact ⟨t, by rw [hg.block g (lt_of_heap h) hne]; exact h⟩
theorem Bl.grownRow {B : Nat} {w0 w w' : World} {v : Value} {n : Nat} {cs : List Value} (hb : Bl w0 w) (ho : OVS B w v n cs) (hB : w0.heap.size ≤ B) (hg : w.grownBy w' v.ownBlock) : Bl w0 w' :=
  Below.grown hb hg hb.size (fun k hk => Nat.le_trans hB (World.ownsRow.lt ho k hk).1)
theorem OVS.ne_lt {B : Nat} {w : World} {v : Value} {n g : Nat} {cs : List Value} (ho : OVS B w v n cs) (hg : g < B) : some g ≠ v.ownBlock := fun e => by
  have := (World.ownsRow.lt ho g e.symm).1; omega
theorem OVS.ne_ge {B : Nat} {w : World} {v : Value} {n g : Nat} {cs : List Value} (ho : OVS B w v n cs) (hg : w.heap.size ≤ g) : some g ≠ v.ownBlock := fun e => by
  have := (World.ownsRow.lt ho g e.symm).2; omega

section
variable {ops : Array Oper}
/-- append(nil, l...) -/
theorem eOp_app1 {i : Nat} {o : Oper} {a : Act} {w : World} {K : Act → World → Prop} (ho' : ops[i]? = some o) (hgd : o.guard = none) (s x : Operand)
    (ho : o.op = .call { callee := .builtin .append, args := #[s, x], argTypes := #[22, 22] }) (hs : a.eval s = .slice none 0 0)
    (ad : Option Addr) (n c : Nat) (cs : List Value) (hx : a.eval x = .slice ad n c) (hsc : SC w ad n cs) (hn : n ≤ 1000)
    (h : ∀ v' w', OVS w.heap.size w' v' n cs → Bl w w' → K (a.put o.dst v') w') : eOp Try.prog ops i K a w := by
  obtain ⟨ti, z, hi, hz, h1, h2, h3⟩ := info_ver'
  have hnil : n = 0 → cs = [] := fun h => List.eq_nil_of_length_eq_zero (by rw [hsc.len, h])
  cases ad with
  | none =>
    have hn0 := hsc.nil rfl
    subst hn0
    have e := hnil rfl
    subst e
    have hr : (Builtin.append_ #[22, 22] o.type #[.slice none 0 0, .slice none 0 c]).run Try.prog w = .ok (.slice none 0 0) w := by
      simp [Builtin.append_, run_underlying Try.underlying22, sizeOf, typeInfo, hi, Builtin.lenOf, Builtin.firstCells]
    unfold eOp
    simp only [ho']
    rw [if_pos (by simp [Region.wanted, hgd])]
    unfold eOper execOp
    simp only [ho, resolve, invoke, builtin, Sem.run_bind, Sem.run_pure, Result.andThen_ok, List.map_toArray, List.map_cons, List.map_nil, hs, hx, hr, eUpon]
    exact h _ _ (World.ownsRow_nil _ _ _ _) (Bl.refl _)
  | some ad =>
    refine eOp_append ho' hgd s x _ ho w.heap.size 35 ti z 8 96 Try.underlying22 hi hz h1 h2 h3 (by decide) (.slice none 0 0) 0 [] hs (World.ownsRow_nil _ _ _ _) ad n c cs hx hsc.len ?_ hsc.one (by unfold maxLen; omega) (by omega) (Nat.le_refl _) ?_
    · intro j u hu
      by_cases hn0 : 0 < n
      · obtain ⟨b, off, s'⟩ := ad
        have := hsc.plain b off s' rfl hn0
        subst this
        have := hsc.at_ b off rfl j u hu
        rwa [add_none]
      · rw [hnil (by omega)] at hu
        simp at hu
    · intro v' w' hown hgr _
      rw [Nat.zero_add] at hown
      exact h v' w' hown (Below.grown (Bl.refl w) hgr (Nat.le_refl _) (fun k hk => by simp [Value.ownBlock] at hk))
/-- append(v, x) where v is the call's own -/
theorem eOp_app2 {i : Nat} {o : Oper} {a : Act} {w : World} {K : Act → World → Prop} (ho' : ops[i]? = some o) (hgd : o.guard = none) (s x : Operand)
    (ho : o.op = .call { callee := .builtin .append, args := #[s, x], argTypes := #[22, 22] }) (B : Nat) (v : Value) (n : Nat) (cs : List Value) (hs : a.eval s = v) (hown : OVS B w v n cs) (hB : B ≤ w.heap.size) (hn : n ≤ 1000)
    (j : Nat) (news : List Value) (hx : a.eval x = .slice (some ⟨j, 0, none⟩) 1 1) (hj : AC w j news) (hl : news.length = 8) (h1 : ∀ u ∈ news, u.oneCell' = true)
    (h : ∀ v' w', OVS B w' v' (n + 1) (cs ++ news) → w.grownBy w' v.ownBlock → K (a.put o.dst v') w') : eOp Try.prog ops i K a w := by
  obtain ⟨ti, z, hi, hz, g1, g2, g3⟩ := info_ver'
  refine eOp_append ho' hgd s x _ ho B 35 ti z 8 96 Try.underlying22 hi hz g1 g2 g3 (by decide) v n cs hs hown ⟨j, 0, none⟩ 1 1 news hx (by rw [hl]) ?_ h1 (by unfold maxLen; omega) (by omega) hB ?_
  · intro k u hu
    rw [add_none, Nat.zero_add]
    exact hj.cell k u hu
  · intro v' w' ho2 hgr _
    exact h v' w' ho2 hgr
theorem wpList_app1 {rest : List Oper} {o : Oper} {a : Act} {w : World} {Q : Exit → Act → World → Prop} (hgd : o.guard = none) (s x : Operand)
    (ho : o.op = .call { callee := .builtin .append, args := #[s, x], argTypes := #[22, 22] }) (hs : a.eval s = .slice none 0 0)
    (ad : Option Addr) (n c : Nat) (cs : List Value) (hx : a.eval x = .slice ad n c) (hsc : SC w ad n cs) (hn : n ≤ 1000)
    (h : ∀ v' w', OVS w.heap.size w' v' n cs → Bl w w' → wpList Try.prog ops Q rest (a.put o.dst v') w') : wpList Try.prog ops Q (o :: rest) a w := by
  obtain ⟨ti, z, hi, hz, h1, h2, h3⟩ := info_ver'
  have hnil : n = 0 → cs = [] := fun h => List.eq_nil_of_length_eq_zero (by rw [hsc.len, h])
  cases ad with
  | none =>
    have hn0 := hsc.nil rfl
    subst hn0
    have e := hnil rfl
    subst e
    have hr : (Builtin.append_ #[22, 22] o.type #[.slice none 0 0, .slice none 0 c]).run Try.prog w = .ok (.slice none 0 0) w := by
      simp [Builtin.append_, run_underlying Try.underlying22, sizeOf, typeInfo, hi, Builtin.lenOf, Builtin.firstCells]
    refine wpList_plain hgd fun _ hK => ?_
    unfold Oper.wp execOp
    simp only [ho, resolve, invoke, builtin, Sem.run_bind, Sem.run_pure, Result.andThen_ok, List.map_toArray, List.map_cons, List.map_nil, hs, hx, hr]
    exact hK _ _ (h _ _ (World.ownsRow_nil _ _ _ _) (Bl.refl _))
  | some ad =>
    refine wpList_append_own w hgd s x _ ho w.heap.size 35 ti z 8 96 Try.underlying22 hi hz h1 h2 h3 (by decide) (.slice none 0 0) 0 [] hs (World.ownsRow_nil _ _ _ _) ad n c cs hx hsc.len ?_ hsc.one (by unfold maxLen; omega) (by omega) (Nat.le_refl _) ?_
    · intro j u hu
      by_cases hn0 : 0 < n
      · obtain ⟨b, off, s'⟩ := ad
        have := hsc.plain b off s' rfl hn0
        subst this
        have := hsc.at_ b off rfl j u hu
        rwa [add_none]
      · rw [hnil (by omega)] at hu
        simp at hu
    · intro v' w' hown hgr _
      rw [Nat.zero_add] at hown
      exact h v' w' hown (Below.grown (Bl.refl w) hgr (Nat.le_refl _) (fun k hk => by simp [Value.ownBlock] at hk))
theorem wpList_app2 {rest : List Oper} {o : Oper} {a : Act} {w : World} {Q : Exit → Act → World → Prop} (hgd : o.guard = none) (s x : Operand)
    (ho : o.op = .call { callee := .builtin .append, args := #[s, x], argTypes := #[22, 22] }) (B : Nat) (v : Value) (n : Nat) (cs : List Value) (hs : a.eval s = v) (hown : OVS B w v n cs) (hB : B ≤ w.heap.size) (hn : n ≤ 1000)
    (j : Nat) (news : List Value) (hx : a.eval x = .slice (some ⟨j, 0, none⟩) 1 1) (hj : AC w j news) (hl : news.length = 8) (h1 : ∀ u ∈ news, u.oneCell' = true)
    (h : ∀ v' w', OVS B w' v' (n + 1) (cs ++ news) → w.grownBy w' v.ownBlock → wpList Try.prog ops Q rest (a.put o.dst v') w') : wpList Try.prog ops Q (o :: rest) a w := by
  obtain ⟨ti, z, hi, hz, g1, g2, g3⟩ := info_ver'
  refine wpList_append_own w hgd s x _ ho B 35 ti z 8 96 Try.underlying22 hi hz g1 g2 g3 (by decide) v n cs hs hown ⟨j, 0, none⟩ 1 1 news hx (by rw [hl]) ?_ h1 (by unfold maxLen; omega) (by omega) hB ?_
  · intro k u hu
    rw [add_none, Nat.zero_add]
    exact hj.cell k u hu
  · intro v' w' ho2 hgr _
    exact h v' w' ho2 hgr
end
end Go.Proofs.Ytdjlnpiaehoofaa
end

/- fold.Order: versions copied, sorted, and those of one stamp dropped. By an AI agent. -/
section
set_option linter.unusedVariables false
set_option linter.unusedSimpArgs false
namespace Go.Proofs.Ytdjlnpiaehoofaa
open Go.RowKit

theorem FI.ints {B : Nat} {w : World} {v : Value} {xs : List Int} (f : FI B w v xs) {b : Nat} (e : v.ownBlock = some b) : ∃ cur, w.heap[b]? = some (.cells cur 3 (0, 0)) := by
  have ho := f.own
  unfold OI at ho
  obtain ⟨h1, ⟨rfl, _⟩ | ⟨g, cap, cur, rfl, hB, hg, r⟩⟩ := ho
  · cases e
  · obtain rfl : g = b := by simpa [Value.ownBlock] using e
    exact ⟨_, hg⟩
theorem OVS.typ {B n : Nat} {w : World} {v : Value} {cs : List Value} (h : OVS B w v n cs) {b : Nat} (e : v.ownBlock = some b) : ∃ cur, w.heap[b]? = some (.cells cur 35 (0, 0)) := by
  obtain ⟨h1, ⟨rfl, _⟩ | ⟨g, cap, cur, rfl, hB, hg, r⟩⟩ := h
  · cases e
  · obtain rfl : g = b := by simpa [Value.ownBlock] using e
    exact ⟨_, hg⟩
theorem apart_typ {B B' n : Nat} {w : World} {v u : Value} {cs : List Value} {xs : List Int} (h : OVS B w v n cs) (f : FI B' w u xs) {b : Nat} (e : v.ownBlock = some b) (q : u.ownBlock = some b) : False := by
  obtain ⟨c1, h1⟩ := h.typ e
  obtain ⟨c2, h2⟩ := f.ints q
  rw [h1] at h2
  simp only [Option.some.injEq, Obj.cells.injEq] at h2
  exact absurd h2.2.1 (by decide)
/-- the row that is being built -/
structure BV (w W : World) (v : Value) (xs : List VC) : Prop where
  bl : Bl w W
  own : OVS w.heap.size W v xs.length (flat xs)
  els : ∀ x ∈ xs, FI w.heap.size W (.slice x.ad x.n x.ca) x.at_ ∧ x.act.Ok
theorem BV.nil {w W : World} (h : Bl w W) : BV w W (.slice none 0 0) [] := ⟨h, World.ownsRow_nil _ _ _ _, fun x hx => by cases hx⟩
theorem BV.keep {w W W' : World} {v : Value} {xs : List VC} (h : BV w W v xs) (hb : Bl W W') : BV w W' v xs := ⟨h.bl.trans hb, h.own.keep hb, fun x hx => ⟨(h.els x hx).1.keep hb, (h.els x hx).2⟩⟩
theorem BV.push {w W W' : World} {v v' : Value} {xs : List VC} {y : VC} {o : Obj} (h : BV w W v xs) (hf : FI w.heap.size W (.slice y.ad y.n y.ca) y.at_) (hok : y.act.Ok) (ho : OVS w.heap.size W' v' (xs.length + 1) (flat xs ++ y.cs)) (hg : (W.alloc o).grownBy W' v.ownBlock) : BV w W' v' (xs ++ [y]) := by
  have b0 : Bl W (W.alloc o) := (Bl.refl W).alloc o
  have o0 : OVS w.heap.size (W.alloc o) v xs.length (flat xs) := h.own.keep b0
  have fr : Fr (fun b => v.ownBlock = some b) (W.alloc o) W' := (Fr.refl _ _).grown hg (fun i e => e)
  have mv : ∀ {u : Value} {ys : List Int}, FI w.heap.size W u ys → FI w.heap.size W' u ys := fun {u ys} f => FI.fr (f.keep b0) fr (fun b q e => apart_typ o0 (f.keep b0) e q)
  refine ⟨Bl.grownRow (h.bl.alloc o) o0 (Nat.le_refl _) hg, ?_, fun x hx => ?_⟩
  · rw [List.length_append, flat_append]
    have : flat [y] = y.cs := by rw [flat_cons]; exact List.append_nil _
    rw [this]
    exact ho
  · rcases List.mem_append.1 hx with q | q
    · exact ⟨mv (h.els x q).1, (h.els x q).2⟩
    · rw [List.mem_singleton] at q
      subst q
      exact ⟨mv hf, hok⟩
theorem FI.mono0 {B B' : Nat} {w : World} {v : Value} {xs : List Int} (h : FI B w v xs) (hB : B' ≤ B) : FI B' w v xs := ⟨World.ownsRow.mono h.own hB, h.cap, h.wf⟩
theorem FI.iaE {B : Nat} {w : World} {a : Option Addr} {n c : Nat} {xs : List Int} (h : FI B w (.slice a n c) xs) : IA w a n xs := by
  obtain ⟨a', n', c', e, hI⟩ := h.si
  simp only [Value.slice.injEq] at e
  obtain ⟨rfl, rfl, rfl⟩ := e
  exact hI
/-- the row is there to be sorted -/
theorem BV.rw {w W : World} {v : Value} {xs : List VC} (h : BV w W v xs) : (v = .slice none 0 0 ∧ xs = []) ∨ ∃ g ca, v = .slice (some ⟨g, 0, none⟩) xs.length ca ∧ xs.length ≤ ca ∧ RW w W g xs := by
  have ho := h.own
  obtain ⟨h1, ⟨hv, h2⟩ | ⟨g, cap, cur, rfl, hB, hg, hc, hm, hs, ht⟩⟩ := h.own
  · exact .inl ⟨hv, List.eq_nil_of_length_eq_zero h2⟩
  · refine .inr ⟨g, cap, rfl, hc, h.bl, hB, ⟨cur.toList.drop (xs.length * 8), ⟨35, ?_⟩⟩, fun x hx => ?_⟩
    · rw [hg, ← ht, List.take_append_drop]
    · obtain ⟨f, k⟩ := h.els x hx
      exact ⟨f.iaE, k, .inr fun b off e q => apart_typ ho f (b := g) rfl (by rw [e, q]; rfl)⟩
theorem mrg_map : ∀ (A B : List VC), (mrg leC A B).map VC.ver = mrg leV (A.map VC.ver) (B.map VC.ver)
  | [], B => by rw [mrg_nil, List.map_nil, mrg_nil]
  | a :: A, [] => by rw [mrg_right, List.map_nil, mrg_right]
  | a :: A, b :: B => by
    rw [List.map_cons, List.map_cons]
    unfold mrg
    rw [List.merge, List.merge]
    by_cases h : leC a b = true
    · have h' : leV a.ver b.ver = true := h
      rw [if_pos h, if_pos h', List.map_cons]
      have := mrg_map A (b :: B)
      rw [List.map_cons] at this
      unfold mrg at this
      rw [this]
    · have h' : ¬ leV a.ver b.ver = true := h
      rw [if_neg h, if_neg h', List.map_cons]
      have := mrg_map (a :: A) B
      rw [List.map_cons] at this
      unfold mrg at this
      rw [this]
theorem srt_map : ∀ (A : List VC), (srt leC A).map VC.ver = srt leV (A.map VC.ver)
  | [] => rfl
  | a :: A => by rw [srt_cons, mrg_map, srt_map A]; rfl
theorem cptGo_map : ∀ (A : List VC) (p : VC), (cptGo eqC p A).map VC.ver = cptGo eqV p.ver (A.map VC.ver)
  | [], p => rfl
  | a :: A, p => by
    rw [List.map_cons]
    unfold cptGo
    by_cases h : eqC a p = true
    · have h' : eqV a.ver p.ver = true := h
      rw [if_pos h, if_pos h', cptGo_map A a]
    · have h' : ¬ eqV a.ver p.ver = true := h
      rw [if_neg h, if_neg h', List.map_cons, cptGo_map A a]
theorem cpt_map (A : List VC) : (cpt eqC A).map VC.ver = cpt eqV (A.map VC.ver) := by
  cases A with
  | nil => rfl
  | cons a A => exact congrArg (a.ver :: ·) (cptGo_map A a)
theorem order_map (A : List VC) : (cpt eqC (srt leC A)).map VC.ver = orderOf (A.map VC.ver) := by rw [cpt_map, srt_map]; rfl
theorem RW.va {w W : World} {g : Nat} {xs ys : List VC} (h : RW w W g (xs ++ ys)) {n : Nat} (hn : xs.length = n) (hc : n ≤ 140737488351232) : VA W (some ⟨g, 0, none⟩) n (xs.map VC.ver) := by
  refine ⟨by rw [List.length_map]; exact hn, hc, fun j _ => ⟨g, 0, rfl, fun j hj => ?_⟩⟩
  have hjl : j < (xs ++ ys).length := by rw [List.length_append]; omega
  obtain ⟨c0, c1, c2, c3, c4, c5, c6, c7⟩ := h.cells hjl
  have hv := h.at_ hjl
  have e : nthR (xs.map VC.ver) j = (el (xs ++ ys) j).ver := by
    rw [nthR_eq (by rw [List.length_map]; omega), List.getElem_map, el_left _ (by omega), el_eq (by omega)]
  rw [e, Nat.zero_add]
  exact ⟨c0, ⟨_, _, _, c1, hv.ia⟩, c2, c3, c4, c5, c6, c7, hv.ok⟩
set_option maxHeartbeats 1600000 in
set_option maxRecDepth 100000 in
theorem sortS_any (w W : World) (g n ca : Nat) (X : List VC) (hX : X.length = n) (hn1 : n ≤ 100000) (hr : RW w W g X) :
    Calls Try.prog 35 #[.slice (some ⟨g, 0, none⟩) n ca, .func (.func 36) #[] #[]] W fun e W' => e = .returned (.tuple #[]) ∧ RW w W' g (srt leC X) := by
  go_enter Try.func35, Try.ntmps35
  go_wp2_with fail
  refine (stable_any w _ g n ca X hX hn1 (hr.keep (Bl.refl _))).mono ?_
  rintro e W2 ⟨rfl, h⟩
  go_wp2_with fail
  go_end0
  exact ⟨rfl, h⟩
end Go.Proofs.Ytdjlnpiaehoofaa
end

/- fold.Order: its walk. By an AI agent. -/
section
set_option linter.unusedVariables false
set_option linter.unusedSimpArgs false
namespace Go.Proofs.Ytdjlnpiaehoofaa
open Go.RowKit

theorem isort_nil (w : World) (f : Value) :
    Calls Try.prog 64 #[.slice none 0 0, .int .i64 0, .int .i64 0, f] w fun e W' => e = .returned (.tuple #[]) ∧ Bl w W' := by
  go_enter Try.func64, Try.ntmps64
  go_wp2_with fail
  go_loopw [8] (fun iv wr => iv = .int .i64 1 ∧ Bl w wr) (fun iv _ => 0)
  case atStart => exact ⟨rfl, Bl.refl _⟩
  case round =>
    obtain ⟨rfl, hb⟩ := hrel
    go_wp2_with fail
    go_end0
    exact ⟨rfl, hb⟩
theorem stable_nil (w : World) (f : Value) :
    Calls Try.prog 51 #[.slice none 0 0, .int .i64 0, f] w fun e W' => e = .returned (.tuple #[]) ∧ Bl w W' := by
  go_enter Try.func51, Try.ntmps51
  go_wp2_with fail
  go_loopw [7, 8] (fun av bv wr => av = .int .i64 0 ∧ bv = .int .i64 20 ∧ Bl w wr) (fun _ _ _ => 0)
  case atStart => exact ⟨rfl, rfl, Bl.refl _⟩
  case round =>
    obtain ⟨rfl, rfl, hb⟩ := hrel
    go_wp2_with fail
    refine (isort_nil _ f).mono ?_
    rintro e w1 ⟨rfl, hb1⟩
    have HB := Lib.hid (hb.trans hb1)
    clear hb hb1
    go_wp2_with fail
    go_loopw [6] (fun av wr => av = .int .i64 20 ∧ Bl w wr) (fun _ _ => 0)
    case atStart => exact ⟨rfl, HB.out⟩
    case round =>
      clear HB
      obtain ⟨rfl, hb⟩ := hrel
      go_wp2_with fail
      go_end0
      exact ⟨rfl, hb⟩
theorem sortS_nil (w : World) (f : Value) :
    Calls Try.prog 35 #[.slice none 0 0, f] w fun e W' => e = .returned (.tuple #[]) ∧ Bl w W' := by
  go_enter Try.func35, Try.ntmps35
  go_wp2_with fail
  refine (stable_nil w f).mono ?_
  rintro e W2 ⟨rfl, h⟩
  go_wp2_with fail
  go_end0
  exact ⟨rfl, h⟩
theorem compact_nil (w : World) (f : Value) :
    Calls Try.prog 37 #[.slice none 0 0, f] w fun e W' => e = .returned (.slice none 0 0) ∧ Bl w W' := by
  go_enter Try.func37, Try.ntmps37
  go_wp2_with fail
  go_ret
  exact ⟨rfl, Bl.refl _⟩
set_option maxHeartbeats 3200000 in
set_option maxRecDepth 100000 in
theorem fOrder_any (a : Option Addr) (n ca : Nat) (vs : List VerL) (w : World) (hv : VA w a n vs) (hn1 : n ≤ 1000) :
    Calls Try.prog 20 #[.slice a n ca] w fun e w' => ∃ a' m ca', e = .returned (.slice a' m ca') ∧ VA w' a' m (orderOf vs) ∧ Bl w w' := by
  have hsf := store_fl
  have HL := Lib.hid hv.len
  go_enter Try.func20, Try.ntmps20
  go_wp2_with fail
  go_loopw [3, 8] (fun ov iv wr => ∃ (k : Nat) (xs : List VC), k ≤ n ∧ xs.map VC.ver = vs.take k ∧ BV w wr ov xs ∧ iv = .int .i64 (k : Int)) (fun _ iv _ => n - (intOf iv).toNat)
  case atStart => exact ⟨0, [], Nat.zero_le _, by rw [List.take_zero]; rfl, BV.nil (Bl.refl _), by go_num⟩
  case round =>
    obtain ⟨k, xs, hk, hm, hbv, rfl⟩ := hrel
    have HM := Lib.hid hm
    have HB := Lib.hid hbv
    clear hm hbv
    have hxl : xs.length = k := by have := congrArg List.length HM.out; rw [List.length_map, List.length_take, HL.out] at this; omega
    have HXL := Lib.hid hxl
    clear hxl
    by_cases hlt : k < n
    · obtain ⟨b, off, rfl, hc⟩ := hv.cells k hlt
      have E := (hc k hlt).keep HB.out.bl
      have HC := Lib.hid hc
      clear hc
      have HS := Lib.hid (take_nthR (vs := vs) (k := k) (by rw [HL.out]; exact hlt))
      have HA := Lib.hid E.ok
      obtain ⟨V, hV⟩ : ∃ V, nthR vs k = V := ⟨_, rfl⟩
      rw [hV] at E HS HA
      clear hV
      obtain ⟨va, vn, vc, e1, hI⟩ := E.at_
      have e0 := E.c0
      have e2 := E.c2
      have e3 := E.c3
      have e4 := E.c4
      have e5 := E.c5
      have e6 := E.c6
      have e7 := E.c7
      have ba : Bl wr (wr.alloc (.cells #[.string V.key, .slice va vn vc, .int .i64 V.origin, .int .i64 V.tx, .int .i64 V.act.k, .float .f64 V.act.x, .int .i64 V.act.n, .string V.act.s] 35)) := (Bl.refl wr).alloc _
      have HI := Lib.hid (hI.keep ba)
      have HBA := Lib.hid (HB.out.keep ba)
      clear hI E ba HB
      go_wp2_with fail
      clear e0 e1 e2 e3 e4 e5 e6 e7
      generalize wr.alloc _ = wa at *
      refine (copied_any ⟨V.key, va, vn, vc, V.at_, V.origin, V.tx, V.act⟩ _ HI.out).mono ?_
      rintro e w2 ⟨ya, yn, yc, rfl, hf, hb2⟩
      have HF := Lib.hid (FI.mono0 hf (B' := w.heap.size) HBA.out.bl.size)
      have HB2 := Lib.hid (HBA.out.keep hb2)
      clear hf hb2 HBA HI
      have hk1 : k ≤ 1000 := by omega
      have HOA := Lib.hid (HB2.out.own.keep ((Bl.refl w2).alloc (.cells #[.string V.key, .slice ya yn yc, .int .i64 V.origin, .int .i64 V.tx, .int .i64 V.act.k, .float .f64 V.act.x, .int .i64 V.act.n, .string V.act.s] 35)))
      have HCJ := Lib.hid (AC.new w2 w2.heap.size rfl [.string V.key, .slice ya yn yc, .int .i64 V.origin, .int .i64 V.tx, .int .i64 V.act.k, .float .f64 V.act.x, .int .i64 V.act.n, .string V.act.s] 35)
      go_wp2_with (at_builtin; refine wpList_app2 rfl _ _ rfl _ _ _ _ rfl HOA.out ?c1 (by rw [HXL.out]; exact hk1) _ [.string V.key, .slice ya yn yc, .int .i64 V.origin, .int .i64 V.tx, .int .i64 V.act.k, .float .f64 V.act.x, .int .i64 V.act.n, .string V.act.s] rfl HCJ.out rfl ?c2 ?_)
      case c1 => have := HB2.out.bl.size; simp; omega
      case c2 => simp [Value.oneCell']
      intro v3 w3 ho3 hg3
      have HB3 := Lib.hid (HB2.out.push (y := ⟨V.key, ya, yn, yc, V.at_, V.origin, V.tx, V.act⟩) HF.out HA.out ho3 hg3)
      clear ho3 hg3 HOA HCJ HB2 HF
      go_wp2_with fail
      go_roundw
      case rel => exact ⟨k + 1, xs ++ [⟨V.key, ya, yn, yc, V.at_, V.origin, V.tx, V.act⟩], by omega, by rw [List.map_append, HM.out, HS.out]; rfl, HB3.out, by go_num⟩
      case measure => simp [intOf]; omega
    · have hkn : k = n := by omega
      have HM2 := Lib.hid (show xs.map VC.ver = vs by rw [HM.out, List.take_of_length_le (by rw [HL.out]; omega)])
      clear HM hlt
      rw [hkn] at HXL
      clear hk
      subst hkn
      rcases HB.out.rw with ⟨rfl, rfl⟩ | ⟨g, cg, rfl, hcg, hrw⟩
      · have HO := Lib.hid (show orderOf vs = [] by rw [← HM2.out]; rfl)
        have HBL := Lib.hid HB.out.bl
        clear HB
        go_wp2_with fail
        refine (sortS_nil _ _).mono ?_
        rintro e w2 ⟨rfl, hb2⟩
        have HBL2 := Lib.hid (HBL.out.trans hb2)
        clear hb2 HBL
        go_wp2_with fail
        refine (compact_nil _ _).mono ?_
        rintro e w3 ⟨rfl, hb3⟩
        have HBL3 := Lib.hid (HBL2.out.trans hb3)
        clear hb3 HBL2
        go_wp2_with fail
        go_ret
        exact ⟨none, 0, 0, rfl, by rw [HO.out]; exact ⟨rfl, by omega, fun j hj => absurd hj (Nat.not_lt_zero _)⟩, HBL3.out⟩
      · have HRW := Lib.hid hrw
        rw [HXL.out] at hcg
        clear hrw HB
        rw [HXL.out]
        go_wp2_with fail
        refine (sortS_any w _ g k cg xs HXL.out (by omega) HRW.out).mono ?_
        rintro e w2 ⟨rfl, hr2⟩
        have HR2 := Lib.hid hr2
        clear hr2 HRW
        go_wp2_with fail
        refine (compact_any w _ g k cg (srt leC xs) (by rw [srt_len]; exact HXL.out) (by omega) hcg HR2.out).mono ?_
        rintro e w3 ⟨m, rest, rfl, hml, hr3, hlen⟩
        have HR3 := Lib.hid hr3
        have HML := Lib.hid hml
        have HLEN := Lib.hid hlen
        clear hr3 HR2 hml hlen
        go_wp2_with fail
        go_ret
        refine ⟨_, m, cg, rfl, ?_, HR3.out.bl⟩
        rw [← HM2.out, ← order_map]
        exact HR3.out.va HML.out (by have := HLEN.out; rw [List.length_append] at this; have := HML.out; omega)
end Go.Proofs.Ytdjlnpiaehoofaa
end

/- OpLatest in plain Lean: of a register that version counts whose time is the greatest. By an AI agent. -/
section
namespace Go.Proofs.Ytdjlnpiaehoofaa
open Go.RowKit

theorem foldl_max_le {M : Int} : ∀ (xs : List Int) (x : Int), x ≤ M → (∀ y ∈ xs, y ≤ M) → xs.foldl max x ≤ M
  | [], x, h, _ => h
  | y :: ys, x, h, hs => foldl_max_le ys (max x y) (by have := hs y (by simp); omega) (fun z hz => hs z (by simp [hz]))
theorem time_le {v : VerL} {M : Int} (h0 : 0 ≤ M) (h : ∀ x ∈ v.at_, x ≤ M) : timeL v ≤ M := by
  unfold timeL
  split
  · obtain ⟨k, xs, o, t, a⟩ := v
    cases xs with
    | nil => exact h0
    | cons x xs => exact foldl_max_le xs x (h x (by simp)) (fun y hy => h y (by simp [hy]))
  · split
    · rename_i h2
      have hlt : v.origin.toNat < v.at_.length := by omega
      rw [nth_eq hlt]
      exact h _ (List.getElem_mem hlt)
    · exact h0
theorem cmp_lt {x y : Int} (h : x < y) : Lib.compareInt x y = -1 := by unfold Lib.compareInt; rw [if_pos h]
theorem cmp_gt {x y : Int} (h : y < x) : Lib.compareInt x y = 1 := by
  unfold Lib.compareInt; rw [if_neg (by omega)]
  first | rw [if_pos h] | (rw [if_neg (by omega)])
theorem order_first {u v : VerL} (h : timeL u < timeL v) : orderL v u < 0 := by
  unfold orderL
  rw [cmp_lt h]
  show (if (-1 : Int) = 0 then _ else (-1 : Int)) < 0
  rw [if_neg (by decide)]; decide
theorem order_later {u c : VerL} (h : timeL u < timeL c) : ¬ orderL u c < 0 := by
  unfold orderL
  rw [cmp_gt h]
  show ¬ (if (1 : Int) = 0 then _ else (1 : Int)) < 0
  rw [if_neg (by decide)]; decide
theorem step_mem {key : ByteArray} {last : Option VerL} {v u : VerL} (h : stepL key last v = some u) : u = v ∨ last = some u := by
  unfold stepL at h
  split at h
  · cases last with
    | none => exact .inl (Option.some.inj h).symm
    | some x =>
      simp only at h
      split at h
      · exact .inl (Option.some.inj h).symm
      · exact .inr h
  · exact .inr h
theorem fold_mem {key : ByteArray} {u : VerL} : ∀ (vs : List VerL) (last : Option VerL), vs.foldl (stepL key) last = some u → u ∈ vs ∨ last = some u
  | [], _, h => .inr h
  | v :: vs, last, h => by
    rcases fold_mem vs _ h with h1 | h1
    · exact .inl (by simp [h1])
    · rcases step_mem h1 with rfl | h2
      · exact .inl (by simp)
      · exact .inr h2
theorem last_mem {key : ByteArray} {vs : List VerL} {u : VerL} (h : lastL key vs = some u) : u ∈ vs := by
  rcases fold_mem vs none h with h1 | h1
  · exact h1
  · cases h1
/-- behind all others in the list, ahead of them in time -/
theorem last_snoc {key : ByteArray} {vs : List VerL} {v : VerL} (hf : fitsB key v.act = true) (h : ∀ u ∈ vs, timeL u < timeL v) : lastL key (vs ++ [v]) = some v := by
  rw [lastL_snoc]
  unfold stepL
  rw [if_pos hf]
  cases hl : lastL key vs with
  | none => rfl
  | some u =>
    simp only
    rw [if_pos (order_first (h u (last_mem hl)))]
/-- ahead of all others in the list and in time -/
theorem last_cons {key : ByteArray} {vs : List VerL} {c : VerL} (hf : fitsB key c.act = true) (h : ∀ u ∈ vs, timeL u < timeL c) : lastL key (c :: vs) = some c := by
  show vs.foldl (stepL key) (stepL key none c) = some c
  rw [show stepL key none c = some c by unfold stepL; rw [if_pos hf]]
  induction vs with
  | nil => rfl
  | cons u us ih =>
    show us.foldl (stepL key) (stepL key (some c) u) = some c
    have e : stepL key (some c) u = some c := by
      unfold stepL
      split
      · simp only
        rw [if_neg (order_later (h u (by simp)))]
      · rfl
    rw [e]
    exact ih (fun u hu => h u (by simp [hu]))
theorem value_snoc {key : ByteArray} {vs : List VerL} {v : VerL} (hr : regB key = true) (hf : fitsB key v.act = true) (h : ∀ u ∈ vs, timeL u < timeL v) : valueL key (vs ++ [v]) = valOf v.act := by
  unfold valueL
  rw [hr, last_snoc hf h]
  exact after_reg noVal hr hf
theorem value_cons {key : ByteArray} {vs : List VerL} {v : VerL} (hr : regB key = true) (hf : fitsB key v.act = true) (h : ∀ u ∈ vs, timeL u < timeL v) : valueL key (v :: vs) = valOf v.act := by
  unfold valueL
  rw [hr, last_cons hf h]
  exact after_reg noVal hr hf
def kR : ByteArray := ⟨#[114]⟩
def kT : ByteArray := ⟨#[116]⟩
def sLatest : ByteArray := ⟨#[108, 97, 116, 101, 115, 116]⟩
theorem fits_r (f : Nat) : fitsB kR ⟨0, f, 0, nilS⟩ = true := by
  have h1 : isKeyB kR = true := by decide +kernel
  have h2 : hd kR = 114 := by decide +kernel
  simp [fitsB, h1, h2, rightB, nil_list, show nilS.size = 0 from rfl]
theorem fits_t : fitsB kT ⟨0, 0, 0, sLatest⟩ = true := by decide +kernel
theorem fits_clear {key : ByteArray} (h : key = kR ∨ key = kT) : fitsB key ⟨4, 0, 0, nilS⟩ = true := by
  rcases h with rfl | rfl <;> decide +kernel
theorem reg_r : regB kR = true := by decide +kernel
theorem reg_t : regB kT = true := by decide +kernel
theorem time_new (key : ByteArray) (T : Int) (a : ActL) : timeL ⟨key, [T], 0, 0, a⟩ = T := by
  unfold timeL
  rw [if_neg (by simp), if_pos (by simp)]
  rfl
end Go.Proofs.Ytdjlnpiaehoofaa
end

/- OpGrows in plain Lean: what one act more does to what a key has that adds up. By an AI agent. -/
section
namespace Go.Proofs.Ytdjlnpiaehoofaa
open Go.RowKit

def kX : ByteArray := ⟨#[120]⟩
def kN : ByteArray := ⟨#[110]⟩
def kC : ByteArray := ⟨#[99]⟩
theorem kX_key : isKeyB kX = true := by decide +kernel
theorem kN_key : isKeyB kN = true := by decide +kernel
theorem kC_key : isKeyB kC = true := by decide +kernel
def vMax (f : Nat) : VerL := ⟨nilS, [], 0, 0, ⟨2, f, 0, nilS⟩⟩
def vMin (f : Nat) : VerL := ⟨nilS, [], 0, 0, ⟨3, f, 0, nilS⟩⟩
def vAdd (m : Int) : VerL := ⟨nilS, [], 0, 0, ⟨1, 0, m, nilS⟩⟩
theorem valueL_x (vs : List VerL) (f : Nat) : valueL kX (vs ++ [vMax f]) = ⟨true, if (valueL kX vs).there then rmax (valueL kX vs).x f else f, 0, nilS⟩ := by
  have hr : regB kX = false := by decide +kernel
  simp only [valueL, hr, Bool.false_eq_true, if_false, outL_snoc]
  exact after_max _ kX_key (by decide +kernel) f
theorem valueL_n (vs : List VerL) (f : Nat) : valueL kN (vs ++ [vMin f]) = ⟨true, if (valueL kN vs).there then rmin (valueL kN vs).x f else f, 0, nilS⟩ := by
  have hr : regB kN = false := by decide +kernel
  simp only [valueL, hr, Bool.false_eq_true, if_false, outL_snoc]
  exact after_min _ kN_key (by decide +kernel) f
theorem valueL_c (vs : List VerL) (m : Int) : valueL kC (vs ++ [vAdd m]) = ⟨true, 0, if (valueL kC vs).there then wrap64 ((valueL kC vs).n + m) else m, nilS⟩ := by
  have hr : regB kC = false := by decide +kernel
  simp only [valueL, hr, Bool.false_eq_true, if_false, outL_snoc]
  exact after_add _ kC_key (by decide +kernel) m
theorem valueL_num_ok {key : ByteArray} (hr : regB key = false) {vs : List VerL} (h : ∀ v ∈ vs, v.act.Ok) : (valueL key vs).Ok := by
  simp only [valueL, hr, Bool.false_eq_true, if_false]
  exact outL_ok h
/-- what the tests of OpGrows ask of the numbers -/
structure GrowF (f xx ax : Nat) (ab : Bool) (yx bx : Nat) (bb : Bool) : Prop where
  xa : ab = true → (FloatKind.f64.format.order xx ax == some .lt) = false
  yb : bb = true → (FloatKind.f64.format.order yx bx == some .gt) = false
  xf : (FloatKind.f64.format.order xx f == some .lt) = false
  x0 : ab = false → xx = f
  xo : xx < two64
theorem not_lt {x y : Nat} (hx : x < two64) (hy : y < two64) (h : fkey y ≤ fkey x) : (FloatKind.f64.format.order x y == some .lt) = false := by
  rw [Bool.eq_false_iff]
  intro e
  have := key_lt hx hy (eq_of_beq e)
  omega
theorem not_gt {x y : Nat} (hx : x < two64) (hy : y < two64) (h : fkey x ≤ fkey y) : (FloatKind.f64.format.order x y == some .gt) = false := by
  rw [Bool.eq_false_iff]
  intro e
  have := key_gt hx hy (eq_of_beq e)
  omega
theorem growF {f ax bx : Nat} (hf : f < two64) (ha : ax < two64) (hb : bx < two64) (ab bb : Bool) : GrowF f (if ab then rmax ax f else f) ax ab (if bb then rmin bx f else f) bx bb := by
  refine ⟨?_, ?_, ?_, ?_, ?_⟩
  · rintro rfl
    refine not_lt (rmax_lt' ha hf) ha ?_
    show fkey ax ≤ fkey (rmax ax f)
    rw [rmax_key']; omega
  · rintro rfl
    refine not_gt (rmin_lt hb hf) hb ?_
    show fkey (rmin bx f) ≤ fkey bx
    rw [rmin_key]; omega
  · cases ab
    · exact not_lt hf hf (Nat.le_refl _)
    · refine not_lt (rmax_lt' ha hf) hf ?_
      show fkey f ≤ fkey (rmax ax f)
      rw [rmax_key']; omega
  · rintro rfl; rfl
  · cases ab
    · exact hf
    · exact rmax_lt' ha hf
theorem value_agg (key : ByteArray) (a : Option Addr) (n ca : Nat) (vs : List VerL) (w : World) (b : Bool) (x : Nat) (m : Int) (z : ByteArray) (H : Hid (valueL key vs = ⟨b, x, m, z⟩)) (hkey : key.size ≤ 140737488351232) (hv : VA w a n vs) :
    Calls Try.prog 29 #[.string key, .slice a n ca] w fun e w' => e = .returned (.agg #[.bool b, .float .f64 x, .int .i64 m, .string z]) ∧ Bl w w' := by
  have h := value_any key a n ca vs w hkey hv
  rw [H.out] at h
  exact h
theorem ok_max {f : Nat} (hf : f < two64) : ActL.Ok ⟨2, f, 0, nilS⟩ := ⟨⟨by show (-9223372036854775808 : Int) ≤ 2; decide, by show (2 : Int) ≤ 9223372036854775807; decide⟩, hf, ⟨by show (-9223372036854775808 : Int) ≤ 0; decide, by show (0 : Int) ≤ 9223372036854775807; decide⟩, by show 0 ≤ 140737488351232; decide⟩
theorem ok_min {f : Nat} (hf : f < two64) : ActL.Ok ⟨3, f, 0, nilS⟩ := ⟨⟨by show (-9223372036854775808 : Int) ≤ 3; decide, by show (3 : Int) ≤ 9223372036854775807; decide⟩, hf, ⟨by show (-9223372036854775808 : Int) ≤ 0; decide, by show (0 : Int) ≤ 9223372036854775807; decide⟩, by show 0 ≤ 140737488351232; decide⟩
theorem ok_add {m : Int} (hm : -9223372036854775808 ≤ m ∧ m ≤ 9223372036854775807) : ActL.Ok ⟨1, 0, m, nilS⟩ := ⟨⟨by show (-9223372036854775808 : Int) ≤ 1; decide, by show (1 : Int) ≤ 9223372036854775807; decide⟩, (by show 0 < two64; decide), hm, by show 0 ≤ 140737488351232; decide⟩
theorem ok_val {f : Nat} (hf : f < two64) (b : Bool) : ValL.Ok ⟨b, f, 0, nilS⟩ := ⟨hf, ⟨by show (-9223372036854775808 : Int) ≤ 0; decide, by show (0 : Int) ≤ 9223372036854775807; decide⟩, by show 0 ≤ 140737488351232; decide⟩
end Go.Proofs.Ytdjlnpiaehoofaa
end

/- OpShuffled in plain Lean: what a key has does not hang on the order of versions that have stamps of their own. By an AI agent. -/
section
namespace Go.Proofs.Ytdjlnpiaehoofaa
open Go.RowKit

/-- another stamp -/
def Apart (a b : VerL) : Prop := timeL a ≠ timeL b ∨ a.origin ≠ b.origin ∨ a.tx ≠ b.tx
theorem Apart.symm {a b : VerL} (h : Apart a b) : Apart b a := by
  rcases h with h | h | h
  · exact .inl (Ne.symm h)
  · exact .inr (.inl (Ne.symm h))
  · exact .inr (.inr (Ne.symm h))
/-- a greater stamp -/
def Gt (a b : VerL) : Prop := timeL b < timeL a ∨ (timeL b = timeL a ∧ (b.origin < a.origin ∨ (b.origin = a.origin ∧ b.tx < a.tx)))
theorem gt_of_order {a b : VerL} (h : Apart a b) : orderL a b < 0 ↔ Gt a b := by
  unfold orderL Gt Apart at *
  by_cases h1 : timeL b < timeL a
  · rw [cmp_lt h1]
    refine ⟨fun _ => .inl h1, fun _ => ?_⟩
    show (if (-1 : Int) = 0 then _ else (-1 : Int)) < 0
    rw [if_neg (by decide)]; decide
  · by_cases h2 : timeL a < timeL b
    · rw [cmp_gt h2]
      refine ⟨fun h => ?_, fun h => by omega⟩
      have h' : (if (1 : Int) = 0 then _ else (1 : Int)) < 0 := h
      rw [if_neg (by decide)] at h'
      exact absurd h' (by decide)
    · have e1 : timeL b = timeL a := by omega
      have z1 : Lib.compareInt (timeL b) (timeL a) = 0 := compare_zero.2 e1
      rw [z1]
      show (if (0 : Int) = 0 then orL _ else (0 : Int)) < 0 ↔ _
      rw [if_pos rfl]
      by_cases h3 : b.origin < a.origin
      · rw [cmp_lt h3]
        refine ⟨fun _ => .inr ⟨e1, .inl h3⟩, fun _ => ?_⟩
        show (if (-1 : Int) = 0 then _ else (-1 : Int)) < 0
        rw [if_neg (by decide)]; decide
      · by_cases h4 : a.origin < b.origin
        · rw [cmp_gt h4]
          refine ⟨fun h => ?_, fun h => by omega⟩
          have h' : (if (1 : Int) = 0 then _ else (1 : Int)) < 0 := h
          rw [if_neg (by decide)] at h'
          exact absurd h' (by decide)
        · have e2 : b.origin = a.origin := by omega
          rw [compare_zero.2 e2]
          show (if (0 : Int) = 0 then orL _ else (0 : Int)) < 0 ↔ _
          rw [if_pos rfl]
          by_cases h5 : b.tx < a.tx
          · rw [cmp_lt h5]
            refine ⟨fun _ => .inr ⟨e1, .inr ⟨e2, h5⟩⟩, fun _ => ?_⟩
            show (if (-1 : Int) = 0 then _ else (-1 : Int)) < 0
            rw [if_neg (by decide)]; decide
          · have h6 : a.tx < b.tx := by omega
            rw [cmp_gt h6]
            refine ⟨fun h => ?_, fun h => by omega⟩
            have h' : (if (1 : Int) = 0 then _ else (1 : Int)) < 0 := h
            rw [if_neg (by decide)] at h'
            exact absurd h' (by decide)
theorem Gt.asymm {a b : VerL} (h : Gt a b) (k : Gt b a) : False := by unfold Gt at *; omega
theorem Gt.trans {a b c : VerL} (h : Gt a b) (k : Gt b c) : Gt a c := by unfold Gt at *; omega
theorem gt_or {a b : VerL} (h : Apart a b) : Gt a b ∨ Gt b a := by unfold Gt Apart at *; omega

/-- the best of those that count -/
def Best (key : ByteArray) (vs : List VerL) : Option VerL → Prop
  | none => ∀ v ∈ vs, fitsB key v.act = false
  | some u => u ∈ vs ∧ fitsB key u.act = true ∧ ∀ v ∈ vs, fitsB key v.act = true → v = u ∨ Gt u v
theorem best_step {key : ByteArray} {vs : List VerL} {o : Option VerL} {v : VerL} (h : Best key vs o) (ha : ∀ u ∈ vs, Apart u v) : Best key (vs ++ [v]) (stepL key o v) := by
  unfold stepL
  cases hf : fitsB key v.act
  · rw [if_neg (by decide)]
    cases o with
    | none =>
      intro u hu
      rcases List.mem_append.1 hu with hu | hu
      · exact h u hu
      · rw [List.mem_singleton] at hu; subst hu; exact hf
    | some x =>
      obtain ⟨h1, h2, h3⟩ := h
      refine ⟨List.mem_append.2 (.inl h1), h2, fun u hu hfu => ?_⟩
      rcases List.mem_append.1 hu with hu | hu
      · exact h3 u hu hfu
      · rw [List.mem_singleton] at hu; subst hu; rw [hf] at hfu; cases hfu
  · rw [if_pos rfl]
    cases o with
    | none =>
      refine ⟨by simp, hf, fun u hu hfu => ?_⟩
      rcases List.mem_append.1 hu with hu | hu
      · rw [h u hu] at hfu; cases hfu
      · rw [List.mem_singleton] at hu; exact .inl hu
    | some x =>
      obtain ⟨h1, h2, h3⟩ := h
      have hap := (ha x h1).symm
      simp only
      by_cases ho : orderL v x < 0
      · rw [if_pos ho]
        have hg := (gt_of_order hap).1 ho
        refine ⟨by simp, hf, fun u hu hfu => ?_⟩
        rcases List.mem_append.1 hu with hu | hu
        · rcases h3 u hu hfu with rfl | h4
          · exact .inr hg
          · exact .inr (hg.trans h4)
        · rw [List.mem_singleton] at hu; exact .inl hu
      · rw [if_neg ho]
        have hg : Gt x v := by
          rcases gt_or hap with h4 | h4
          · exact absurd ((gt_of_order hap).2 h4) ho
          · exact h4
        refine ⟨List.mem_append.2 (.inl h1), h2, fun u hu hfu => ?_⟩
        rcases List.mem_append.1 hu with hu | hu
        · exact h3 u hu hfu
        · rw [List.mem_singleton] at hu; subst hu; exact .inr hg
theorem best_fold {key : ByteArray} : ∀ (vs us : List VerL) (o : Option VerL), Best key us o → (us ++ vs).Pairwise Apart → Best key (us ++ vs) (vs.foldl (stepL key) o)
  | [], us, o, h, _ => by simpa using h
  | v :: vs, us, o, h, hp => by
    have h1 := best_step (v := v) h (fun u hu => by
      rw [List.pairwise_append] at hp
      exact hp.2.2 u hu v (by simp))
    have := best_fold vs (us ++ [v]) (stepL key o v) h1 (by simpa using hp)
    simpa using this
theorem best_last {key : ByteArray} {vs : List VerL} (hp : vs.Pairwise Apart) : Best key vs (lastL key vs) := by
  have := best_fold (key := key) vs [] none (by intro _ hv; cases hv) (by simpa using hp)
  rw [List.nil_append] at this
  exact this
theorem best_one {key : ByteArray} {vs us : List VerL} {o p : Option VerL} (hm : ∀ v, v ∈ vs ↔ v ∈ us) (h : Best key vs o) (k : Best key us p) : o = p := by
  cases o with
  | none =>
    cases p with
    | none => rfl
    | some u => have := h u ((hm u).2 k.1); rw [k.2.1] at this; cases this
  | some x =>
    cases p with
    | none => have := k x ((hm x).1 h.1); rw [h.2.1] at this; cases this
    | some u =>
      rcases h.2.2 u ((hm u).2 k.1) k.2.1 with rfl | h1
      · rfl
      · rcases k.2.2 x ((hm x).1 h.1) h.2.1 with rfl | h2
        · rfl
        · exact (h1.asymm h2).elim
theorem last_perm {key : ByteArray} {vs us : List VerL} (h : vs.Perm us) (hp : vs.Pairwise Apart) : lastL key vs = lastL key us :=
  best_one (fun _ => h.mem_iff) (best_last hp) (best_last ((h.pairwise_iff (fun h => h.symm)).1 hp))

/-! values that add up -/
structure SamV (v u : ValL) : Prop where
  there : v.there = u.there
  x : fkey v.x = fkey u.x
  n : v.n = u.n
  s : v.s.toList = u.s.toList
theorem samV {v u : ValL} : SamV v u ↔ sameV v u = true := by
  simp only [sameV, Bool.and_eq_true, decide_eq_true_eq, beq_iff_eq]
  exact ⟨fun h => ⟨h.there, h.x, h.n, h.s⟩, fun h => ⟨h.1, h.2.1, h.2.2.1, h.2.2.2⟩⟩
theorem SamV.refl (v : ValL) : SamV v v := ⟨rfl, rfl, rfl, rfl⟩
theorem SamV.trans {a b c : ValL} (h : SamV a b) (k : SamV b c) : SamV a c := ⟨h.there.trans k.there, h.x.trans k.x, h.n.trans k.n, h.s.trans k.s⟩
theorem w64 (x y : Int) : wrap64 (wrap64 x + y) = wrap64 (x + y) := by unfold wrap64; omega
theorem after_skip {key : ByteArray} {v : ValL} {a : ActL} (h : fitsB key a = false) : afterL key v a = v := by unfold afterL; rw [h]; rfl
/-- the three kinds of keys whose acts add up -/
theorem num_kind {key : ByteArray} {a : ActL} (hr : regB key = false) (h : fitsB key a = true) : isKeyB key = true ∧ (hd key = 99 ∨ hd key = 120 ∨ hd key = 110) := by
  have hk := (fits_key h).1
  refine ⟨hk, ?_⟩
  simp only [regB, Bool.or_eq_false_iff, decide_eq_false_iff_not] at hr
  rcases key_head hk with h1 | h1 | h1 | h1 | h1
  · exact absurd h1 hr.1
  · exact absurd h1 hr.2
  · exact .inl h1
  · exact .inr (.inl h1)
  · exact .inr (.inr h1)
theorem after_cong {key : ByteArray} {v u : ValL} {a : ActL} (hr : regB key = false) (ok : a.Ok) (h : SamV v u) : SamV (afterL key v a) (afterL key u a) := by
  cases hf : fitsB key a
  · rw [after_skip hf, after_skip hf]; exact h
  · obtain ⟨hi, hk | hk | hk⟩ := num_kind hr hf
    · rw [fits_add ok hk hf, after_add v hi hk, after_add u hi hk, h.there, h.n]; exact SamV.refl _
    · rw [fits_max hk hf, after_max v hi hk, after_max u hi hk]
      refine ⟨rfl, ?_, rfl, rfl⟩
      simp only [h.there]
      split
      · rw [rmax_key', rmax_key', h.x]
      · rfl
    · rw [fits_min hk hf, after_min v hi hk, after_min u hi hk]
      refine ⟨rfl, ?_, rfl, rfl⟩
      simp only [h.there]
      split
      · rw [rmin_key, rmin_key, h.x]
      · rfl
theorem after_comm {key : ByteArray} {v : ValL} {a b : ActL} (hr : regB key = false) (oa : a.Ok) (ob : b.Ok) : SamV (afterL key (afterL key v a) b) (afterL key (afterL key v b) a) := by
  cases hf : fitsB key a
  · rw [after_skip hf, after_skip hf]; exact SamV.refl _
  · cases hg : fitsB key b
    · rw [after_skip hg, after_skip hg]; exact SamV.refl _
    · obtain ⟨hi, hk | hk | hk⟩ := num_kind hr hf
      · rw [fits_add oa hk hf, fits_add ob hk hg, after_add v hi hk, after_add v hi hk, after_add _ hi hk, after_add _ hi hk]
        refine ⟨rfl, rfl, ?_, rfl⟩
        simp only [if_true]
        split
        · rw [w64, w64]; congr 1; omega
        · congr 1; omega
      · rw [fits_max hk hf, fits_max hk hg, after_max v hi hk, after_max v hi hk, after_max _ hi hk, after_max _ hi hk]
        refine ⟨rfl, ?_, rfl, rfl⟩
        simp only [if_true]
        rw [rmax_key', rmax_key']
        split
        · rw [rmax_key', rmax_key']; omega
        · omega
      · rw [fits_min hk hf, fits_min hk hg, after_min v hi hk, after_min v hi hk, after_min _ hi hk, after_min _ hi hk]
        refine ⟨rfl, ?_, rfl, rfl⟩
        simp only [if_true]
        rw [rmin_key, rmin_key]
        split
        · rw [rmin_key, rmin_key]; omega
        · omega
theorem out_cong {key : ByteArray} (hr : regB key = false) : ∀ (vs : List VerL) (o p : ValL), (∀ v ∈ vs, v.act.Ok) → SamV o p → SamV (vs.foldl (fun o v => afterL key o v.act) o) (vs.foldl (fun o v => afterL key o v.act) p)
  | [], _, _, _, h => h
  | v :: vs, _, _, hok, h => out_cong hr vs _ _ (fun u hu => hok u (by simp [hu])) (after_cong hr (hok v (by simp)) h)
theorem out_perm {key : ByteArray} (hr : regB key = false) {vs us : List VerL} (h : vs.Perm us) : ∀ (o : ValL), (∀ v ∈ vs, v.act.Ok) → SamV (vs.foldl (fun o v => afterL key o v.act) o) (us.foldl (fun o v => afterL key o v.act) o) := by
  induction h with
  | nil => exact fun o _ => SamV.refl _
  | cons v _ ih => exact fun o hok => ih _ (fun u hu => hok u (by simp [hu]))
  | swap v u l => exact fun o hok => out_cong hr l _ _ (fun x hx => hok x (by simp [hx])) (after_comm hr (hok u (by simp)) (hok v (by simp)))
  | trans h1 _ ih1 ih2 => exact fun o hok => (ih1 o hok).trans (ih2 o (fun u hu => hok u (h1.mem_iff.2 hu)))
theorem value_perm {key : ByteArray} {vs us : List VerL} (h : vs.Perm us) (hp : vs.Pairwise Apart) (hok : ∀ v ∈ vs, v.act.Ok) : sameV (valueL key vs) (valueL key us) = true := by
  unfold valueL
  cases hr : regB key
  · simp only [Bool.false_eq_true, if_false]
    exact samV.1 (out_perm hr h noVal hok)
  · simp only [if_true]
    rw [last_perm h hp]
    exact sameV_refl _
theorem perm_turned {α : Type} (l : List α) (k : Nat) : l.Perm (l.drop k ++ l.take k) := by
  have h : (l.take k ++ l.drop k).Perm (l.drop k ++ l.take k) := List.perm_append_comm
  rwa [List.take_append_drop] at h
theorem perm_back {α : Type} (l : List α) : l.Perm l.reverse := (List.reverse_perm l).symm
end Go.Proofs.Ytdjlnpiaehoofaa
end

/- what is the same, part by part. By an AI agent. -/
section
set_option linter.unusedVariables false
namespace Go.Proofs.Ytdjlnpiaehoofaa
open Go.RowKit

theorem size_nil (s : ByteArray) : s.data.toList.length = s.size := by simp
theorem toList_inj {s t : ByteArray} (h : s.toList = t.toList) : s = t := by
  rw [ByteArray.toList_eq, ByteArray.toList_eq] at h
  exact ByteArray.ext (Array.toList_inj.1 h)
theorem sameA_parts {a b : ActL} (h : sameA a b = true) : a.k = b.k ∧ fkey a.x = fkey b.x ∧ a.n = b.n ∧ a.s = b.s := by
  simp only [sameA, Bool.and_eq_true, decide_eq_true_eq, beq_iff_eq] at h
  exact ⟨h.1, h.2.1, h.2.2.1, toList_inj h.2.2.2⟩
theorem sameV_parts {a b : ValL} (h : sameV a b = true) : a.there = b.there ∧ fkey a.x = fkey b.x ∧ a.n = b.n ∧ a.s = b.s := by
  simp only [sameV, Bool.and_eq_true, decide_eq_true_eq, beq_iff_eq] at h
  exact ⟨h.1, h.2.1, h.2.2.1, toList_inj h.2.2.2⟩
end Go.Proofs.Ytdjlnpiaehoofaa
end

/- an act behind another one is both as one. By an AI agent. -/
section
set_option linter.unusedVariables false
set_option linter.unusedSimpArgs false
namespace Go.Proofs.Ytdjlnpiaehoofaa
open Go.RowKit

theorem after_both {key : ByteArray} {a b : ActL} (v : ValL) (oa : a.Ok) (ob : b.Ok) (ha : fitsB key a = true) (hb : fitsB key b = true) :
    sameV (afterL key (afterL key v a) b) (afterL key v (bothL key a b)) = true ∧ fitsB key (bothL key a b) = true := by
  have hi := (fits_key ha).1
  cases hr : regB key
  · rcases key_head hi with h | h | h | h | h
    · simp [regB, h] at hr
    · simp [regB, h] at hr
    · rw [fits_add oa h ha, fits_add ob h hb]
      simp only [after_add _ hi h, both_add hi h, fits_add' hi h, if_true]
      refine ⟨?_, trivial⟩
      cases v.there <;> (refine sameV_of rfl rfl ?_ rfl; first | (simp; done) | (simp; unfold wrap64; omega))
    · rw [fits_max h ha, fits_max h hb]
      simp only [after_max _ hi h, both_max hi h, fits_max' hi h, if_true]
      refine ⟨?_, trivial⟩
      cases v.there <;> (refine sameV_of rfl ?_ rfl rfl; first | (simp [rmax_key']; done) | (simp [rmax_key']; omega))
    · rw [fits_min h ha, fits_min h hb]
      simp only [after_min _ hi h, both_min hi h, fits_min' hi h, if_true]
      refine ⟨?_, trivial⟩
      cases v.there <;> (refine sameV_of rfl ?_ rfl rfl; first | (simp [rmin_key]; done) | (simp [rmin_key]; omega))
  · rw [both_reg hr, after_reg _ hr hb, after_reg _ hr hb]
    exact ⟨sameV_refl _, hb⟩
/-- values that are the same go on so -/
theorem after_same {key : ByteArray} {v u : ValL} {a : ActL} (oa : a.Ok) (ha : fitsB key a = true) (h : sameV v u = true) : sameV (afterL key v a) (afterL key u a) = true := by
  obtain ⟨h1, h2, h3, h4⟩ := sameV_parts h
  have hi := (fits_key ha).1
  cases hr : regB key
  · rcases key_head hi with k | k | k | k | k
    · simp [regB, k] at hr
    · simp [regB, k] at hr
    · rw [fits_add oa k ha, after_add _ hi k, after_add _ hi k, h1, h3]
      exact sameV_refl _
    · rw [fits_max k ha, after_max _ hi k, after_max _ hi k, h1]
      refine sameV_of rfl ?_ rfl rfl
      cases u.there <;> simp [rmax_key', h2]
    · rw [fits_min k ha, after_min _ hi k, after_min _ hi k, h1]
      refine sameV_of rfl ?_ rfl rfl
      cases u.there <;> simp [rmin_key, h2]
  · rw [after_reg _ hr ha, after_reg _ hr ha]
    exact sameV_refl _
end Go.Proofs.Ytdjlnpiaehoofaa
end

/- what 'each' tells, plain. By an AI agent. -/
section
set_option linter.unusedVariables false
set_option linter.unusedSimpArgs false
namespace Go.Proofs.Ytdjlnpiaehoofaa
open Go.RowKit

theorem zip_take {t : Int → Int → Int} {xs ys : List Int} (h : xs.length = ys.length) {k : Nat} (hk : k < xs.length) :
    (List.zipWith t xs ys).take (k + 1) = (List.zipWith t xs ys).take k ++ [t (nth xs k) (nth ys k)] := by
  have h' : k < (List.zipWith t xs ys).length := by simp; omega
  rw [List.take_succ_eq_append_getElem h', List.getElem_zipWith, nth_eq hk, nth_eq (by omega : k < ys.length)]
theorem zip_wf {t : Int → Int → Int} (ht : ∀ x y, t x y = x ∨ t x y = y) {P : Int → Prop} {xs ys : List Int} (hx : ∀ x ∈ xs, P x) (hy : ∀ x ∈ ys, P x) : ∀ x ∈ List.zipWith t xs ys, P x := by
  induction xs generalizing ys with
  | nil => simp
  | cons x xs ih =>
    cases ys with
    | nil => simp
    | cons y ys =>
      intro z hz
      simp only [List.zipWith_cons_cons, List.mem_cons] at hz
      rcases hz with rfl | hz
      · rcases ht x y with e | e <;> rw [e]
        · exact hx x (by simp)
        · exact hy y (by simp)
      · exact ih (fun a ha => hx a (by simp [ha])) (fun a ha => hy a (by simp [ha])) z hz
/-- what 'each' tells -/
def eachL (t : Int → Int → Int) (xs ys : List Int) : List Int := if xs.length = ys.length then List.zipWith t xs ys else []
def joinL : List Int → List Int → List Int := eachL max
def meetL : List Int → List Int → List Int := eachL min
end Go.Proofs.Ytdjlnpiaehoofaa
end

/- the lattice of vectors, number by number: plain laws. By an AI agent. -/
section
set_option linter.unusedVariables false
namespace Go.Proofs.Ytdjlnpiaehoofaa
open Go.RowKit

/-! ### the lattice, number by number -/
theorem each_len (t : Int → Int → Int) {xs ys : List Int} (h : xs.length = ys.length) : (eachL t xs ys).length = xs.length := by
  rw [eachL, if_pos h]; simp; omega
theorem each_nth (t : Int → Int → Int) {xs ys : List Int} (h : xs.length = ys.length) {j : Nat} (hj : j < xs.length) : nth (eachL t xs ys) j = t (nth xs j) (nth ys j) := by
  have h1 := zip_take (t := t) h hj
  have hl : (List.zipWith t xs ys).length = xs.length := by simp; omega
  rw [eachL, if_pos h, nth_eq (by rw [hl]; exact hj), List.getElem_zipWith, nth_eq hj, nth_eq (by omega)]
theorem join_len' {xs ys : List Int} (h : xs.length = ys.length) : (joinL xs ys).length = xs.length := each_len _ h
theorem meet_len' {xs ys : List Int} (h : xs.length = ys.length) : (meetL xs ys).length = xs.length := each_len _ h
theorem join_nth {xs ys : List Int} (h : xs.length = ys.length) {j : Nat} (hj : j < xs.length) : nth (joinL xs ys) j = max (nth xs j) (nth ys j) := each_nth _ h hj
theorem meet_nth {xs ys : List Int} (h : xs.length = ys.length) {j : Nat} (hj : j < xs.length) : nth (meetL xs ys) j = min (nth xs j) (nth ys j) := each_nth _ h hj

theorem leq_refl (xs : List Int) : leqL xs xs = true := (leqL_iff rfl).2 fun _ _ => Int.le_refl _
theorem leq_trans {xs ys zs : List Int} (h1 : xs.length = ys.length) (h2 : ys.length = zs.length) (ha : leqL xs ys = true) (hb : leqL ys zs = true) : leqL xs zs = true :=
  (leqL_iff (h1.trans h2)).2 fun j hj => Int.le_trans ((leqL_iff h1).1 ha j hj) ((leqL_iff h2).1 hb j (by omega))
theorem leq_anti {xs ys : List Int} (h : xs.length = ys.length) (ha : leqL xs ys = true) : leqL ys xs = decide (xs = ys) := by
  rw [Bool.eq_iff_iff, decide_eq_true_eq]
  constructor
  · intro hb
    exact getD_ext h fun j hj => Int.le_antisymm ((leqL_iff h).1 ha j hj) ((leqL_iff h.symm).1 hb j (by omega))
  · rintro rfl; exact leq_refl _
section
variable {xs ys zs : List Int} (h : xs.length = ys.length) (h2 : ys.length = zs.length)
include h
theorem leq_join1 : leqL xs (joinL xs ys) = true := (leqL_iff (join_len' h).symm).2 fun j hj => by rw [join_nth h hj]; omega
theorem leq_join2 : leqL ys (joinL xs ys) = true := (leqL_iff ((join_len' h).trans h).symm).2 fun j hj => by rw [join_nth h (by omega)]; omega
theorem meet_leq1 : leqL (meetL xs ys) xs = true := (leqL_iff (meet_len' h)).2 fun j hj => by rw [meet_len' h] at hj; rw [meet_nth h hj]; omega
theorem meet_leq2 : leqL (meetL xs ys) ys = true := (leqL_iff ((meet_len' h).trans h)).2 fun j hj => by rw [meet_len' h] at hj; rw [meet_nth h hj]; omega
theorem leq_eq_join : leqL xs ys = decide (joinL xs ys = ys) := by
  rw [Bool.eq_iff_iff, decide_eq_true_eq, leqL_iff h]
  constructor
  · intro ha
    refine getD_ext ((join_len' h).trans h) fun j hj => ?_
    rw [join_len' h] at hj
    rw [join_nth h hj]; have := ha j hj; omega
  · intro e j hj
    have := join_nth h hj
    rw [e] at this; omega
theorem join_comm' : decide (joinL xs ys = joinL ys xs) = true := decide_eq_true (getD_ext ((join_len' h).trans (h.trans (join_len' h.symm).symm)) fun j hj => by
  rw [join_len' h] at hj
  rw [join_nth h hj, join_nth h.symm (by omega)]; omega)
include h2
theorem join_least (ha : leqL xs zs = true) (hb : leqL ys zs = true) : leqL (joinL xs ys) zs = true :=
  (leqL_iff ((join_len' h).trans (h.trans h2))).2 fun j hj => by
    rw [join_len' h] at hj
    have h3 := (leqL_iff (h.trans h2)).1 ha j hj
    have h4 := (leqL_iff h2).1 hb j (by omega)
    rw [join_nth h hj]; omega
theorem meet_most (ha : leqL zs xs = true) (hb : leqL zs ys = true) : leqL zs (meetL xs ys) = true :=
  (leqL_iff ((meet_len' h).trans (h.trans h2)).symm).2 fun j hj => by
    have h3 := (leqL_iff (h.trans h2).symm).1 ha j hj
    have h4 := (leqL_iff h2.symm).1 hb j hj
    rw [meet_nth h (by omega)]; omega
theorem join_assoc' : decide (joinL (joinL xs ys) zs = joinL xs (joinL ys zs)) = true := by
  have l1 := join_len' h
  have l2 := join_len' h2
  refine decide_eq_true (getD_ext ?_ fun j hj => ?_)
  · rw [join_len' (by omega), join_len' (xs := xs) (ys := joinL ys zs) (by omega)]; exact l1
  · rw [join_len' (by omega)] at hj
    rw [join_nth (by omega) hj, join_nth h (by omega), join_nth (by omega) (by omega), join_nth h2 (by omega)]
    omega
theorem distrib : decide (meetL xs (joinL ys zs) = joinL (meetL xs ys) (meetL xs zs)) = true := by
  have l1 := meet_len' h
  have l2 := join_len' h2
  have l3 := meet_len' (h.trans h2)
  refine decide_eq_true (getD_ext ?_ fun j hj => ?_)
  · rw [meet_len' (by omega), join_len' (by omega)]; exact l1.symm
  · rw [meet_len' (by omega)] at hj
    rw [meet_nth (by omega) hj, join_nth h2 (by omega), join_nth (by omega) (by omega), meet_nth h (by omega), meet_nth (by omega) (by omega)]
    omega
end
end Go.Proofs.Ytdjlnpiaehoofaa
end

/- vec.Valid (lines of the text Vec2). By an AI agent. -/
section
set_option linter.unusedVariables false
namespace Go.Proofs.Ytdjlnpiaehoofaa
open Go.RowKit

theorem take_nth {xs : List Int} {k : Nat} (h : k < xs.length) : xs.take (k + 1) = xs.take k ++ [nth xs k] := by
  rw [List.take_succ_eq_append_getElem h, nth_eq h]
theorem bad_any (x : Int) (w : World) : Calls Try.prog 18 #[.int .i64 x] w fun e w' => e = .returned (.bool (decide (x < 0 ∨ 281474976710656 ≤ x))) ∧ w = w' := by
  by_cases h0 : x < 0
  · go_enter Try.func18, Try.ntmps18
    go_wp2
    go_ret
    exact ⟨ret_bool (by simp [h0]), rfl⟩
  · by_cases h1 : 281474976710656 ≤ x
    · go_enter Try.func18, Try.ntmps18
      go_wp2
      go_ret
      exact ⟨ret_bool (by simp_all), rfl⟩
    · go_enter Try.func18, Try.ntmps18
      go_wp2
      go_ret
      exact ⟨ret_bool (by simp; omega), rfl⟩

def badT (x : Int) : Bool := decide (x < 0 ∨ 281474976710656 ≤ x)

set_option maxHeartbeats 400000 in
theorem indexBad_any (a : Option Addr) (n ca : Nat) (xs : List Int) (w : World) (hx : IA w a n xs) :
    Calls Try.prog 31 #[.slice a n ca, .func (.func 18) #[] #[]] w fun e w' => ∃ k : Int, e = .returned (.int .i64 k) ∧ (k ≥ 0 ↔ xs.any badT = true) ∧ w = w' := by
  have hx1 := hx.cap
  have HX := Lib.hid hx.len
  go_enter Try.func31, Try.ntmps31
  go_wp2
  go_loop [8] (fun i => ∃ k : Nat, k ≤ n ∧ i = .int .i64 k ∧ ∀ j, j < k → badT (nth xs j) = false) (fun i => n - (intOf i).toNat)
  case atStart => exact ⟨0, Nat.zero_le _, rfl, fun j h => by omega⟩
  case round =>
    obtain ⟨k, hk, rfl, hle⟩ := hrel
    have HLE := Lib.hid hle; clear hle
    by_cases hlt : k < n
    · obtain ⟨ba, oa, rfl, hca⟩ := hx.cells k hlt
      have ha := hca k hlt
      clear hca
      go_wp2_with fail
      refine (bad_any _ _).mono ?_
      rintro e w' ⟨rfl, rfl⟩
      have hbt : decide (nth xs k < 0 ∨ 281474976710656 ≤ nth xs k) = badT (nth xs k) := rfl
      cases hbad : badT (nth xs k)
      · have HB := Lib.hid hbad
        rw [hbad] at hbt
        clear hbad
        rw [hbt]
        clear hbt
        go_wp2
        go_round
        case rel => exact ⟨k + 1, by omega, by go_num, fun j hj => by
            by_cases e : j = k
            · subst e; exact HB.out
            · exact HLE.out j (by omega)⟩
        case measure => simp [intOf]; omega
      · have HB := Lib.hid hbad
        rw [hbad] at hbt
        clear hbad
        rw [hbt]
        clear hbt
        go_wp2
        go_ret
        refine ⟨(k : Int), rfl, ⟨fun _ => ?_, fun _ => by omega⟩, rfl⟩
        rw [List.any_eq_true]
        have hkx : k < xs.length := by rw [HX.out]; exact hlt
        exact ⟨nth xs k, by rw [nth_eq hkx]; exact List.getElem_mem hkx, HB.out⟩
    · go_wp2
      go_ret
      refine ⟨-1, rfl, ⟨fun h => by omega, fun h => ?_⟩, rfl⟩
      obtain ⟨x, hxm, hb⟩ := h
      obtain ⟨j, hj, rfl⟩ := List.getElem_of_mem hxm
      have := HLE.out j (by rw [HX.out] at hj; omega)
      rw [nth_eq hj, hb] at this
      cases this

theorem containsBad_any (a : Option Addr) (n ca : Nat) (xs : List Int) (w : World) (hx : IA w a n xs) :
    Calls Try.prog 17 #[.slice a n ca, .func (.func 18) #[] #[]] w fun e w' => e = .returned (.bool (xs.any badT)) ∧ w = w' := by
  go_enter Try.func17, Try.ntmps17
  go_wp2_with fail
  refine (indexBad_any a n ca xs _ hx).mono ?_
  rintro e w' ⟨k, rfl, hk, rfl⟩
  have HK := Lib.hid hk; clear hk
  by_cases h : k ≥ 0
  · have HA := Lib.hid (HK.out.1 h)
    go_wp2
    go_ret
    exact ⟨ret_bool (by rw [HA.out]), rfl⟩
  · have HA := Lib.hid (show xs.any badT = false by rw [Bool.eq_false_iff]; exact fun h' => h (HK.out.2 h'))
    go_wp2
    go_ret
    exact ⟨ret_bool (by rw [HA.out]; simp; omega), rfl⟩

/-- is it a vector? -/
def validL (xs : List Int) : Bool := decide (1 ≤ xs.length) && decide (xs.length ≤ 8) && !xs.any badT

theorem valid_any (a : Option Addr) (n ca : Nat) (xs : List Int) (w : World) (hx : IA w a n xs) :
    Calls Try.prog 8 #[.slice a n ca] w fun e w' => e = .returned (.bool (validL xs)) ∧ w = w' := by
  have hx1 := hx.cap
  have HX := Lib.hid hx.len
  by_cases h0 : 1 ≤ n
  · by_cases h1 : n ≤ 8
    · go_enter Try.func8, Try.ntmps8
      go_wp2_with fail
      refine (containsBad_any a n ca xs _ hx).mono ?_
      rintro e w' ⟨rfl, rfl⟩
      cases hb : xs.any badT
      · have HB := Lib.hid hb; clear hb
        go_wp2
        go_ret
        exact ⟨ret_bool (by simp [validL, HX.out, h0, h1, HB.out]), rfl⟩
      · have HB := Lib.hid hb; clear hb
        go_wp2
        go_ret
        exact ⟨ret_bool (by simp [validL, HX.out, HB.out]), rfl⟩
    · go_enter Try.func8, Try.ntmps8
      go_wp2
      go_ret
      exact ⟨ret_bool (by simp [validL, HX.out, h1]), rfl⟩
  · go_enter Try.func8, Try.ntmps8
    go_wp2
    go_ret
    exact ⟨ret_bool (by simp [validL, HX.out, h0]), rfl⟩
theorem valid_parts {xs : List Int} (h : validL xs = true) : 1 ≤ xs.length ∧ xs.length ≤ 8 ∧ ∀ j, j < xs.length → 0 ≤ nth xs j ∧ nth xs j < 281474976710656 := by
  simp only [validL, Bool.and_eq_true, decide_eq_true_eq, Bool.not_eq_true'] at h
  obtain ⟨⟨h1, h2⟩, h3⟩ := h
  refine ⟨h1, h2, fun j hj => ?_⟩
  have h4 : badT (nth xs j) = false := by
    cases hb : badT (nth xs j)
    · rfl
    · have : xs.any badT = true := List.any_eq_true.2 ⟨nth xs j, by rw [nth_eq hj]; exact List.getElem_mem hj, hb⟩
      rw [h3] at this; cases this
  simp [badT] at h4; omega
end Go.Proofs.Ytdjlnpiaehoofaa
end

/- joins and meets of valid vectors are valid. By an AI agent. -/
section
set_option linter.unusedVariables false
namespace Go.Proofs.Ytdjlnpiaehoofaa
open Go.RowKit

theorem valid_mk {xs : List Int} (h1 : 1 ≤ xs.length) (h8 : xs.length ≤ 8) (h : ∀ j, j < xs.length → 0 ≤ nth xs j ∧ nth xs j < 281474976710656) : validL xs = true := by
  simp only [validL, Bool.and_eq_true, decide_eq_true_eq, Bool.not_eq_true']
  refine ⟨⟨h1, h8⟩, ?_⟩
  rw [List.any_eq_false]
  intro x hx
  obtain ⟨j, hj, rfl⟩ := List.getElem_of_mem hx
  have h2 := h j hj
  rw [nth_eq hj] at h2
  simp [badT]; omega

theorem join_valid {xs ys : List Int} (hx : validL xs = true) (hy : validL ys = true) (hl : xs.length = ys.length) : validL (joinL xs ys) = true := by
  have a := valid_parts hx
  have b := valid_parts hy
  have e := join_len' hl
  refine valid_mk (by omega) (by omega) fun j hj => ?_
  rw [e] at hj
  rw [join_nth hl hj]
  have p := a.2.2 j hj
  have q := b.2.2 j (by omega)
  omega
theorem meet_valid {xs ys : List Int} (hx : validL xs = true) (hy : validL ys = true) (hl : xs.length = ys.length) : validL (meetL xs ys) = true := by
  have a := valid_parts hx
  have b := valid_parts hy
  have e := meet_len' hl
  refine valid_mk (by omega) (by omega) fun j hj => ?_
  rw [e] at hj
  rw [meet_nth hl hj]
  have p := a.2.2 j hj
  have q := b.2.2 j (by omega)
  omega
end Go.Proofs.Ytdjlnpiaehoofaa
end
