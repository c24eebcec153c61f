import Derived.Test.YtginbjcpcgphgaaCore15
import Derived.Test.YtginbjcpcgphgaaCore16
import Derived.Test.YtginbjcpcgphgaaCore17

/- fold.Order: versions copied, sorted, and those of one stamp dropped. By an AI agent. -/
section
set_option linter.unusedVariables false
set_option linter.unusedSimpArgs false
namespace Go.Proofs.Ytginbjcpcgphgaa
open Go.RowKit

theorem FI.ints {B : Nat} {w : World} {v : Value} {xs : List Int} (f : FI B w v xs) {b : Nat} (e : v.ownBlock = some b) : ∃ cur, w.heap[b]? = some (.cells cur 3 (0, 0)) := by
  have ho := f.own
  unfold OI at ho
  obtain ⟨h1, ⟨rfl, _⟩ | ⟨g, cap, cur, rfl, hB, hg, r⟩⟩ := ho
  · cases e
  · obtain rfl : g = b := by simpa [Value.ownBlock] using e
    exact ⟨_, hg⟩
theorem OVS.typ {B n : Nat} {w : World} {v : Value} {cs : List Value} (h : OVS B w v n cs) {b : Nat} (e : v.ownBlock = some b) : ∃ cur, w.heap[b]? = some (.cells cur 35 (0, 0)) := by
  obtain ⟨h1, ⟨rfl, _⟩ | ⟨g, cap, cur, rfl, hB, hg, r⟩⟩ := h
  · cases e
  · obtain rfl : g = b := by simpa [Value.ownBlock] using e
    exact ⟨_, hg⟩
theorem apart_typ {B B' n : Nat} {w : World} {v u : Value} {cs : List Value} {xs : List Int} (h : OVS B w v n cs) (f : FI B' w u xs) {b : Nat} (e : v.ownBlock = some b) (q : u.ownBlock = some b) : False := by
  obtain ⟨c1, h1⟩ := h.typ e
  obtain ⟨c2, h2⟩ := f.ints q
  rw [h1] at h2
  simp only [Option.some.injEq, Obj.cells.injEq] at h2
  exact absurd h2.2.1 (by decide)
/-- the row that is being built -/
structure BV (w W : World) (v : Value) (xs : List VC) : Prop where
  bl : Bl w W
  own : OVS w.heap.size W v xs.length (flat xs)
  els : ∀ x ∈ xs, FI w.heap.size W (.slice x.ad x.n x.ca) x.at_ ∧ x.act.Ok
theorem BV.nil {w W : World} (h : Bl w W) : BV w W (.slice none 0 0) [] := ⟨h, World.ownsRow_nil _ _ _ _, fun x hx => by cases hx⟩
theorem BV.keep {w W W' : World} {v : Value} {xs : List VC} (h : BV w W v xs) (hb : Bl W W') : BV w W' v xs := ⟨h.bl.trans hb, h.own.keep hb, fun x hx => ⟨(h.els x hx).1.keep hb, (h.els x hx).2⟩⟩
theorem BV.push {w W W' : World} {v v' : Value} {xs : List VC} {y : VC} {o : Obj} (h : BV w W v xs) (hf : FI w.heap.size W (.slice y.ad y.n y.ca) y.at_) (hok : y.act.Ok) (ho : OVS w.heap.size W' v' (xs.length + 1) (flat xs ++ y.cs)) (hg : (W.alloc o).grownBy W' v.ownBlock) : BV w W' v' (xs ++ [y]) := by
  have b0 : Bl W (W.alloc o) := (Bl.refl W).alloc o
  have o0 : OVS w.heap.size (W.alloc o) v xs.length (flat xs) := h.own.keep b0
  have fr : Fr (fun b => v.ownBlock = some b) (W.alloc o) W' := (Fr.refl _ _).grown hg (fun i e => e)
  have mv : ∀ {u : Value} {ys : List Int}, FI w.heap.size W u ys → FI w.heap.size W' u ys := fun {u ys} f => FI.fr (f.keep b0) fr (fun b q e => apart_typ o0 (f.keep b0) e q)
  refine ⟨Bl.grownRow (h.bl.alloc o) o0 (Nat.le_refl _) hg, ?_, fun x hx => ?_⟩
  · rw [List.length_append, flat_append]
    have : flat [y] = y.cs := by rw [flat_cons]; exact List.append_nil _
    rw [this]
    exact ho
  · rcases List.mem_append.1 hx with q | q
    · exact ⟨mv (h.els x q).1, (h.els x q).2⟩
    · rw [List.mem_singleton] at q
      subst q
      exact ⟨mv hf, hok⟩
theorem FI.mono0 {B B' : Nat} {w : World} {v : Value} {xs : List Int} (h : FI B w v xs) (hB : B' ≤ B) : FI B' w v xs := ⟨World.ownsRow.mono h.own hB, h.cap, h.wf⟩
theorem FI.iaE {B : Nat} {w : World} {a : Option Addr} {n c : Nat} {xs : List Int} (h : FI B w (.slice a n c) xs) : IA w a n xs := by
  obtain ⟨a', n', c', e, hI⟩ := h.si
  simp only [Value.slice.injEq] at e
  obtain ⟨rfl, rfl, rfl⟩ := e
  exact hI
/-- the row is there to be sorted -/
theorem BV.rw {w W : World} {v : Value} {xs : List VC} (h : BV w W v xs) : (v = .slice none 0 0 ∧ xs = []) ∨ ∃ g ca, v = .slice (some ⟨g, 0, none⟩) xs.length ca ∧ xs.length ≤ ca ∧ RW w W g xs := by
  have ho := h.own
  obtain ⟨h1, ⟨hv, h2⟩ | ⟨g, cap, cur, rfl, hB, hg, hc, hm, hs, ht⟩⟩ := h.own
  · exact .inl ⟨hv, List.eq_nil_of_length_eq_zero h2⟩
  · refine .inr ⟨g, cap, rfl, hc, h.bl, hB, ⟨cur.toList.drop (xs.length * 8), ⟨35, ?_⟩⟩, fun x hx => ?_⟩
    · rw [hg, ← ht, List.take_append_drop]
    · obtain ⟨f, k⟩ := h.els x hx
      exact ⟨f.iaE, k, .inr fun b off e q => apart_typ ho f (b := g) rfl (by rw [e, q]; rfl)⟩
theorem mrg_map : ∀ (A B : List VC), (mrg leC A B).map VC.ver = mrg leV (A.map VC.ver) (B.map VC.ver)
  | [], B => by rw [mrg_nil, List.map_nil, mrg_nil]
  | a :: A, [] => by rw [mrg_right, List.map_nil, mrg_right]
  | a :: A, b :: B => by
    rw [List.map_cons, List.map_cons]
    unfold mrg
    rw [List.merge, List.merge]
    by_cases h : leC a b = true
    · have h' : leV a.ver b.ver = true := h
      rw [if_pos h, if_pos h', List.map_cons]
      have := mrg_map A (b :: B)
      rw [List.map_cons] at this
      unfold mrg at this
      rw [this]
    · have h' : ¬ leV a.ver b.ver = true := h
      rw [if_neg h, if_neg h', List.map_cons]
      have := mrg_map (a :: A) B
      rw [List.map_cons] at this
      unfold mrg at this
      rw [this]
theorem srt_map : ∀ (A : List VC), (srt leC A).map VC.ver = srt leV (A.map VC.ver)
  | [] => rfl
  | a :: A => by rw [srt_cons, mrg_map, srt_map A]; rfl
theorem cptGo_map : ∀ (A : List VC) (p : VC), (cptGo eqC p A).map VC.ver = cptGo eqV p.ver (A.map VC.ver)
  | [], p => rfl
  | a :: A, p => by
    rw [List.map_cons]
    unfold cptGo
    by_cases h : eqC a p = true
    · have h' : eqV a.ver p.ver = true := h
      rw [if_pos h, if_pos h', cptGo_map A a]
    · have h' : ¬ eqV a.ver p.ver = true := h
      rw [if_neg h, if_neg h', List.map_cons, cptGo_map A a]
theorem cpt_map (A : List VC) : (cpt eqC A).map VC.ver = cpt eqV (A.map VC.ver) := by
  cases A with
  | nil => rfl
  | cons a A => exact congrArg (a.ver :: ·) (cptGo_map A a)
theorem order_map (A : List VC) : (cpt eqC (srt leC A)).map VC.ver = orderOf (A.map VC.ver) := by rw [cpt_map, srt_map]; rfl
theorem RW.va {w W : World} {g : Nat} {xs ys : List VC} (h : RW w W g (xs ++ ys)) {n : Nat} (hn : xs.length = n) (hc : n ≤ 140737488351232) : VA W (some ⟨g, 0, none⟩) n (xs.map VC.ver) := by
  refine ⟨by rw [List.length_map]; exact hn, hc, fun j _ => ⟨g, 0, rfl, fun j hj => ?_⟩⟩
  have hjl : j < (xs ++ ys).length := by rw [List.length_append]; omega
  obtain ⟨c0, c1, c2, c3, c4, c5, c6, c7⟩ := h.cells hjl
  have hv := h.at_ hjl
  have e : nthR (xs.map VC.ver) j = (el (xs ++ ys) j).ver := by
    rw [nthR_eq (by rw [List.length_map]; omega), List.getElem_map, el_left _ (by omega), el_eq (by omega)]
  rw [e, Nat.zero_add]
  exact ⟨c0, ⟨_, _, _, c1, hv.ia⟩, c2, c3, c4, c5, c6, c7, hv.ok⟩
set_option maxHeartbeats 1600000 in
set_option maxRecDepth 100000 in
theorem sortS_any (w W : World) (g n ca : Nat) (X : List VC) (hX : X.length = n) (hn1 : n ≤ 100000) (hr : RW w W g X) :
    Calls Try.prog 32 #[.slice (some ⟨g, 0, none⟩) n ca, .func (.func 33) #[] #[]] W fun e W' => e = .returned (.tuple #[]) ∧ RW w W' g (srt leC X) := by
  go_enter Try.func32, Try.ntmps32
  go_wp2_with fail
  refine (stable_any w _ g n ca X hX hn1 (hr.keep (Bl.refl _))).mono ?_
  rintro e W2 ⟨rfl, h⟩
  go_wp2_with fail
  go_end0
  exact ⟨rfl, h⟩
end Go.Proofs.Ytginbjcpcgphgaa
end

/- fold.Order: its walk. By an AI agent. -/
section
set_option linter.unusedVariables false
set_option linter.unusedSimpArgs false
namespace Go.Proofs.Ytginbjcpcgphgaa
open Go.RowKit

theorem isort_nil (w : World) (f : Value) :
    Calls Try.prog 65 #[.slice none 0 0, .int .i64 0, .int .i64 0, f] w fun e W' => e = .returned (.tuple #[]) ∧ Bl w W' := by
  go_enter Try.func65, Try.ntmps65
  go_wp2_with fail
  go_loopw [8] (fun iv wr => iv = .int .i64 1 ∧ Bl w wr) (fun iv _ => 0)
  case atStart => exact ⟨rfl, Bl.refl _⟩
  case round =>
    obtain ⟨rfl, hb⟩ := hrel
    go_wp2_with fail
    go_end0
    exact ⟨rfl, hb⟩
theorem stable_nil (w : World) (f : Value) :
    Calls Try.prog 52 #[.slice none 0 0, .int .i64 0, f] w fun e W' => e = .returned (.tuple #[]) ∧ Bl w W' := by
  go_enter Try.func52, Try.ntmps52
  go_wp2_with fail
  go_loopw [7, 8] (fun av bv wr => av = .int .i64 0 ∧ bv = .int .i64 20 ∧ Bl w wr) (fun _ _ _ => 0)
  case atStart => exact ⟨rfl, rfl, Bl.refl _⟩
  case round =>
    obtain ⟨rfl, rfl, hb⟩ := hrel
    go_wp2_with fail
    refine (isort_nil _ f).mono ?_
    rintro e w1 ⟨rfl, hb1⟩
    have HB := Lib.hid (hb.trans hb1)
    clear hb hb1
    go_wp2_with fail
    go_loopw [6] (fun av wr => av = .int .i64 20 ∧ Bl w wr) (fun _ _ => 0)
    case atStart => exact ⟨rfl, HB.out⟩
    case round =>
      clear HB
      obtain ⟨rfl, hb⟩ := hrel
      go_wp2_with fail
      go_end0
      exact ⟨rfl, hb⟩
theorem sortS_nil (w : World) (f : Value) :
    Calls Try.prog 32 #[.slice none 0 0, f] w fun e W' => e = .returned (.tuple #[]) ∧ Bl w W' := by
  go_enter Try.func32, Try.ntmps32
  go_wp2_with fail
  refine (stable_nil w f).mono ?_
  rintro e W2 ⟨rfl, h⟩
  go_wp2_with fail
  go_end0
  exact ⟨rfl, h⟩
theorem compact_nil (w : World) (f : Value) :
    Calls Try.prog 34 #[.slice none 0 0, f] w fun e W' => e = .returned (.slice none 0 0) ∧ Bl w W' := by
  go_enter Try.func34, Try.ntmps34
  go_wp2_with fail
  go_ret
  exact ⟨rfl, Bl.refl _⟩
set_option maxHeartbeats 3200000 in
set_option maxRecDepth 100000 in
theorem fOrder_any (a : Option Addr) (n ca : Nat) (vs : List VerL) (w : World) (hv : VA w a n vs) (hn1 : n ≤ 1000) :
    Calls Try.prog 17 #[.slice a n ca] w fun e w' => ∃ a' m ca', e = .returned (.slice a' m ca') ∧ VA w' a' m (orderOf vs) ∧ Bl w w' := by
  have hsf := store_fl
  have HL := Lib.hid hv.len
  go_enter Try.func17, Try.ntmps17
  go_wp2_with fail
  go_loopw [3, 8] (fun ov iv wr => ∃ (k : Nat) (xs : List VC), k ≤ n ∧ xs.map VC.ver = vs.take k ∧ BV w wr ov xs ∧ iv = .int .i64 (k : Int)) (fun _ iv _ => n - (intOf iv).toNat)
  case atStart => exact ⟨0, [], Nat.zero_le _, by rw [List.take_zero]; rfl, BV.nil (Bl.refl _), by go_num⟩
  case round =>
    obtain ⟨k, xs, hk, hm, hbv, rfl⟩ := hrel
    have HM := Lib.hid hm
    have HB := Lib.hid hbv
    clear hm hbv
    have hxl : xs.length = k := by have := congrArg List.length HM.out; rw [List.length_map, List.length_take, HL.out] at this; omega
    have HXL := Lib.hid hxl
    clear hxl
    by_cases hlt : k < n
    · obtain ⟨b, off, rfl, hc⟩ := hv.cells k hlt
      have E := (hc k hlt).keep HB.out.bl
      have HC := Lib.hid hc
      clear hc
      have HS := Lib.hid (take_nthR (vs := vs) (k := k) (by rw [HL.out]; exact hlt))
      have HA := Lib.hid E.ok
      obtain ⟨V, hV⟩ : ∃ V, nthR vs k = V := ⟨_, rfl⟩
      rw [hV] at E HS HA
      clear hV
      obtain ⟨va, vn, vc, e1, hI⟩ := E.at_
      have e0 := E.c0
      have e2 := E.c2
      have e3 := E.c3
      have e4 := E.c4
      have e5 := E.c5
      have e6 := E.c6
      have e7 := E.c7
      have ba : Bl wr (wr.alloc (.cells #[.string V.key, .slice va vn vc, .int .i64 V.origin, .int .i64 V.tx, .int .i64 V.act.k, .float .f64 V.act.x, .int .i64 V.act.n, .string V.act.s] 35)) := (Bl.refl wr).alloc _
      have HI := Lib.hid (hI.keep ba)
      have HBA := Lib.hid (HB.out.keep ba)
      clear hI E ba HB
      go_wp2_with fail
      clear e0 e1 e2 e3 e4 e5 e6 e7
      generalize wr.alloc _ = wa at *
      refine (copied_any ⟨V.key, va, vn, vc, V.at_, V.origin, V.tx, V.act⟩ _ HI.out).mono ?_
      rintro e w2 ⟨ya, yn, yc, rfl, hf, hb2⟩
      have HF := Lib.hid (FI.mono0 hf (B' := w.heap.size) HBA.out.bl.size)
      have HB2 := Lib.hid (HBA.out.keep hb2)
      clear hf hb2 HBA HI
      have hk1 : k ≤ 1000 := by omega
      have HOA := Lib.hid (HB2.out.own.keep ((Bl.refl w2).alloc (.cells #[.string V.key, .slice ya yn yc, .int .i64 V.origin, .int .i64 V.tx, .int .i64 V.act.k, .float .f64 V.act.x, .int .i64 V.act.n, .string V.act.s] 35)))
      have HCJ := Lib.hid (AC.new w2 w2.heap.size rfl [.string V.key, .slice ya yn yc, .int .i64 V.origin, .int .i64 V.tx, .int .i64 V.act.k, .float .f64 V.act.x, .int .i64 V.act.n, .string V.act.s] 35)
      go_wp2_with (at_builtin; refine wpList_app2 rfl _ _ rfl _ _ _ _ rfl HOA.out ?c1 (by rw [HXL.out]; exact hk1) _ [.string V.key, .slice ya yn yc, .int .i64 V.origin, .int .i64 V.tx, .int .i64 V.act.k, .float .f64 V.act.x, .int .i64 V.act.n, .string V.act.s] rfl HCJ.out rfl ?c2 ?_)
      case c1 => have := HB2.out.bl.size; simp; omega
      case c2 => simp [Value.oneCell']
      intro v3 w3 ho3 hg3
      have HB3 := Lib.hid (HB2.out.push (y := ⟨V.key, ya, yn, yc, V.at_, V.origin, V.tx, V.act⟩) HF.out HA.out ho3 hg3)
      clear ho3 hg3 HOA HCJ HB2 HF
      go_wp2_with fail
      go_roundw
      case rel => exact ⟨k + 1, xs ++ [⟨V.key, ya, yn, yc, V.at_, V.origin, V.tx, V.act⟩], by omega, by rw [List.map_append, HM.out, HS.out]; rfl, HB3.out, by go_num⟩
      case measure => simp [intOf]; omega
    · have hkn : k = n := by omega
      have HM2 := Lib.hid (show xs.map VC.ver = vs by rw [HM.out, List.take_of_length_le (by rw [HL.out]; omega)])
      clear HM hlt
      rw [hkn] at HXL
      clear hk
      subst hkn
      rcases HB.out.rw with ⟨rfl, rfl⟩ | ⟨g, cg, rfl, hcg, hrw⟩
      · have HO := Lib.hid (show orderOf vs = [] by rw [← HM2.out]; rfl)
        have HBL := Lib.hid HB.out.bl
        clear HB
        go_wp2_with fail
        refine (sortS_nil _ _).mono ?_
        rintro e w2 ⟨rfl, hb2⟩
        have HBL2 := Lib.hid (HBL.out.trans hb2)
        clear hb2 HBL
        go_wp2_with fail
        refine (compact_nil _ _).mono ?_
        rintro e w3 ⟨rfl, hb3⟩
        have HBL3 := Lib.hid (HBL2.out.trans hb3)
        clear hb3 HBL2
        go_wp2_with fail
        go_ret
        exact ⟨none, 0, 0, rfl, by rw [HO.out]; exact ⟨rfl, by omega, fun j hj => absurd hj (Nat.not_lt_zero _)⟩, HBL3.out⟩
      · have HRW := Lib.hid hrw
        rw [HXL.out] at hcg
        clear hrw HB
        rw [HXL.out]
        go_wp2_with fail
        refine (sortS_any w _ g k cg xs HXL.out (by omega) HRW.out).mono ?_
        rintro e w2 ⟨rfl, hr2⟩
        have HR2 := Lib.hid hr2
        clear hr2 HRW
        go_wp2_with fail
        refine (compact_any w _ g k cg (srt leC xs) (by rw [srt_len]; exact HXL.out) (by omega) hcg HR2.out).mono ?_
        rintro e w3 ⟨m, rest, rfl, hml, hr3, hlen⟩
        have HR3 := Lib.hid hr3
        have HML := Lib.hid hml
        have HLEN := Lib.hid hlen
        clear hr3 HR2 hml hlen
        go_wp2_with fail
        go_ret
        refine ⟨_, m, cg, rfl, ?_, HR3.out.bl⟩
        rw [← HM2.out, ← order_map]
        exact HR3.out.va HML.out (by have := HLEN.out; rw [List.length_append] at this; have := HML.out; omega)
end Go.Proofs.Ytginbjcpcgphgaa
end
