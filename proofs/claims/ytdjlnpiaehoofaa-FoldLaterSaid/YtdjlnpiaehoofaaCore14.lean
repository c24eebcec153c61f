import Derived.Test.YtdjlnpiaehoofaaCore13
import Derived.Test.YtdjlnpiaehoofaaCore1
import Derived.Test.YtdjlnpiaehoofaaCore12
import Derived.Test.YtdjlnpiaehoofaaCore2
import Derived.Test.YtdjlnpiaehoofaaCore3

/- bedrocklaw17: Light, right. By an AI agent. -/
section
set_option linter.unusedVariables false
set_option linter.unusedSimpArgs false
namespace Go.Proofs.Ytdjlnpiaehoofaa
open Go.RowKit
attribute [local go_sem] eOp eOper eUpon

set_option maxHeartbeats 1600000 in
set_option maxRecDepth 100000 in
theorem light17_any (a : Option Addr) (n ca : Nat) (vs : List VerL) (w : World) (hv : VA w a n vs) :
    Calls Try.prog 7 #[.slice a n ca] w fun e w' => ∃ b : Bool, e = .returned (.bool b) ∧ (b = true → n ≤ 60) ∧ w = w' := by
  have hcap := hv.cap
  go_enter Try.func7, Try.ntmps7
  by_cases h60 : n ≤ 60
  · have q0 : decide ((60 : Int) < (n : Int)) = false := decide_eq_false (by omega)
    have q0n : decide (60 < n) = false := decide_eq_false (by omega)
    go_wp2_with fail
    go_loopw [3] (fun iv wr => ∃ k : Nat, k ≤ n ∧ iv = .int .i64 (k : Int) ∧ w = wr) (fun iv _ => n - (intOf iv).toNat)
    case atStart => exact ⟨0, Nat.zero_le _, by go_num, rfl⟩
    case round =>
      obtain ⟨k, hk, rfl, rfl⟩ := hrel
      by_cases hlt : k < n
      · obtain ⟨b, off, rfl, hc⟩ := hv.cells k hlt
        have E := hc k hlt
        obtain ⟨V, hV⟩ : ∃ V, nthR vs k = V := ⟨_, rfl⟩
        rw [hV] at E
        clear hV hc
        obtain ⟨va, vn, vc, e1, hI⟩ := E.at_
        have hvc := hI.cap
        have e0 := E.c0
        have e2 := E.c2
        have e3 := E.c3
        have e4 := E.c4
        have e5 := E.c5
        have e6 := E.c6
        have e7 := E.c7
        clear hI E
        go_wp2_with fail
        all_goals first
          | (go_ret; first | exact ⟨false, rfl, fun h => (by cases h), rfl⟩ | exact ⟨.inl rfl, rfl⟩)
          | (refine ⟨⟨k + 1, by omega, by go_num, trivial⟩, ?_⟩; simp [intOf]; omega)
      · go_wp2_with fail
        go_ret
        exact ⟨true, rfl, fun _ => h60, rfl⟩
  · have q0 : decide ((60 : Int) < (n : Int)) = true := decide_eq_true (by omega)
    have q0n : decide (60 < n) = true := decide_eq_true (by omega)
    go_wp2_with fail
    go_ret
    exact ⟨false, rfl, fun h => (by cases h), rfl⟩
set_option maxHeartbeats 3200000 in
set_option maxRecDepth 100000 in
theorem right17_any (key : ByteArray) (a : Option Addr) (n ca : Nat) (vs : List VerL) (nn : Nat) (w : World) (hkey : key.size ≤ 140737488351232) (hv : VA w a n vs) :
    Calls Try.prog 9 #[.string key, .slice a n ca, .int .i64 (nn : Int)] w fun e w' => ∃ b : Bool, e = .returned (.bool b) ∧ (b = true → RightL key nn vs) ∧ Bl w w' := by
  have hsf := store_fl
  have hcap := hv.cap
  have HL := Lib.hid hv.len
  go_enter Try.func9, Try.ntmps9
  go_wp2_with fail
  go_loopw [7] (fun iv wr => ∃ k : Nat, k ≤ n ∧ iv = .int .i64 (k : Int) ∧ (∀ j, j < k → RightV key nn (nthR vs j)) ∧ Bl w wr) (fun iv _ => n - (intOf iv).toNat)
  case atStart => exact ⟨0, Nat.zero_le _, by go_num, fun j hj => absurd hj (Nat.not_lt_zero _), Bl.refl _⟩
  case round =>
    obtain ⟨k, hk, rfl, hr, hb⟩ := hrel
    have HR := Lib.hid hr
    have HB := Lib.hid hb
    clear hr hb
    by_cases hlt : k < n
    · obtain ⟨b, off, rfl, hc⟩ := hv.cells k hlt
      have E := (hc k hlt).keep HB.out
      obtain ⟨V, hV⟩ : ∃ V, nthR vs k = V := ⟨_, rfl⟩
      rw [hV] at E
      have HV := Lib.hid hV
      clear hV hc
      obtain ⟨va, vn, vc, e1, hI⟩ := E.at_
      have e0 := E.c0
      have e2 := E.c2
      have e3 := E.c3
      have e4 := E.c4
      have e5 := E.c5
      have e6 := E.c6
      have e7 := E.c7
      have HA := Lib.hid E.ok
      have HVL := Lib.hid hI.len
      have ba : Bl wr (wr.alloc (.cells #[.string V.key, .slice va vn vc, .int .i64 V.origin, .int .i64 V.tx, .int .i64 V.act.k, .float .f64 V.act.x, .int .i64 V.act.n, .string V.act.s] 35)) := (Bl.refl wr).alloc _
      have HX := Lib.hid (AC.new wr wr.heap.size rfl [.string V.key, .slice va vn vc, .int .i64 V.origin, .int .i64 V.tx, .int .i64 V.act.k, .float .f64 V.act.x, .int .i64 V.act.n, .string V.act.s] 35)
      have HI := Lib.hid (hI.keep ba)
      have HBA := Lib.hid (HB.out.trans ba)
      obtain ⟨v0, v1, v2, v3, v4, v5, v6, v7⟩ := AC.ver (key := V.key) (a := va) (n := vn) (ca := vc) (o := V.origin) (t := V.tx) (k := V.act.k) (x := V.act.x) (m := V.act.n) (s := V.act.s) HX.out
      clear hI E ba HB
      obtain ⟨vb, hvb⟩ : ∃ vb, validL V.at_ = vb := ⟨_, rfl⟩
      have HVB := Lib.hid hvb
      clear hvb
      go_wp2_with fail
      clear e0 e1 e2 e3 e4 e5 e6 e7
      refine (valid_any va vn vc V.at_ _ HI.out).mono ?_
      rintro e w2 ⟨rfl, rfl⟩
      rw [HVB.out]
      generalize wr.heap.size = gv at *
      generalize wr.alloc _ = wa at *
      cases vb
      case false =>
        go_wp2_with fail
        go_ret
        exact ⟨false, rfl, fun h => (by cases h), HBA.out⟩
      case true =>
      by_cases hn : vn = nn
      case neg =>
        have q1 : ((vn : Int) != (nn : Int)) = true := by simp; omega
        go_wp2_with fail
        go_ret
        exact ⟨false, rfl, fun h => (by cases h), HBA.out⟩
      case pos =>
      have q1 : ((vn : Int) != (nn : Int)) = false := by simp; omega
      have HN := Lib.hid hn
      clear hn
      obtain ⟨ff, hff⟩ : ∃ ff, fitsB key ⟨V.act.k, V.act.x, V.act.n, V.act.s⟩ = ff := ⟨_, rfl⟩
      have HFF := Lib.hid hff
      clear hff
      by_cases h1 : V.origin < 0
      · have p1 : decide (V.origin < 0) = true := decide_eq_true h1
        have p3 : (V.origin != 254) = true := by simp; omega
        go_wp2_with fail
        go_ret
        exact ⟨false, rfl, fun h => (by cases h), HBA.out⟩
      · have p1 : decide (V.origin < 0) = false := decide_eq_false h1
        by_cases h2 : (nn : Int) ≤ V.origin
        · have p2 : decide ((nn : Int) ≤ V.origin) = true := decide_eq_true h2
          by_cases h3 : V.origin = 254
          · have p3 : (V.origin != 254) = false := by simp; omega
            have H3 := Lib.hid h3
            clear h3
            by_cases ht : V.tx < 0
            · have q4 : decide (V.tx < 0) = true := decide_eq_true ht
              go_wp2_with fail
              go_ret
              exact ⟨false, rfl, fun h => (by cases h), HBA.out⟩
            · have q4 : decide (V.tx < 0) = false := decide_eq_false ht
              go_wp2_with fail
              refine (fits_agg key V.act.k V.act.x V.act.n V.act.s ff _ HFF hkey HA).mono ?_
              rintro e w2 ⟨rfl, hb2⟩
              have HB2 := Lib.hid (HBA.out.trans hb2)
              clear hb2
              cases ff
              case false =>
                go_wp2_with fail
                go_ret
                exact ⟨false, rfl, fun h => (by cases h), HB2.out⟩
              case true =>
                go_wp2_with fail
                go_roundw
                case rel =>
                  refine ⟨k + 1, by omega, by go_num, fun j hj => ?_, HB2.out⟩
                  by_cases e : j = k
                  · subst e
                    rw [HV.out]
                    exact ⟨HVB.out, by rw [HVL.out]; exact HN.out, .inr H3.out, by omega, HFF.out, HA.out⟩
                  · exact HR.out j (by omega)
                case measure => simp [intOf]; omega
          · have p3 : (V.origin != 254) = true := by simp; omega
            go_wp2_with fail
            go_ret
            exact ⟨false, rfl, fun h => (by cases h), HBA.out⟩
        · have p2 : decide ((nn : Int) ≤ V.origin) = false := decide_eq_false h2
          by_cases ht : V.tx < 0
          · have q4 : decide (V.tx < 0) = true := decide_eq_true ht
            go_wp2_with fail
            go_ret
            exact ⟨false, rfl, fun h => (by cases h), HBA.out⟩
          · have q4 : decide (V.tx < 0) = false := decide_eq_false ht
            go_wp2_with fail
            refine (fits_agg key V.act.k V.act.x V.act.n V.act.s ff _ HFF hkey HA).mono ?_
            rintro e w2 ⟨rfl, hb2⟩
            have HB2 := Lib.hid (HBA.out.trans hb2)
            clear hb2
            cases ff
            case false =>
              go_wp2_with fail
              go_ret
              exact ⟨false, rfl, fun h => (by cases h), HB2.out⟩
            case true =>
              go_wp2_with fail
              go_roundw
              case rel =>
                refine ⟨k + 1, by omega, by go_num, fun j hj => ?_, HB2.out⟩
                by_cases e : j = k
                · subst e
                  rw [HV.out]
                  exact ⟨HVB.out, by rw [HVL.out]; exact HN.out, .inl ⟨by omega, by omega⟩, by omega, HFF.out, HA.out⟩
                · exact HR.out j (by omega)
              case measure => simp [intOf]; omega
    · have HE := Lib.hid (show RightL key nn vs from fun v hvm => by
        obtain ⟨j, hj, rfl⟩ := List.getElem_of_mem hvm
        have := HR.out j (by have := HL.out; omega)
        rwa [nthR_eq hj] at this)
      go_wp2_with fail
      go_ret
      exact ⟨true, rfl, fun _ => HE.out, HB.out⟩
end Go.Proofs.Ytdjlnpiaehoofaa
end

/- slices of ints that are written out; a string of known bytes. By an AI agent. -/
section
namespace Go.Proofs.Ytdjlnpiaehoofaa
open Go.RowKit

theorem IA.lit (w : World) (xs : List Int) (t : TypeId) (hc : xs.length ≤ 1000) (hw : ∀ x ∈ xs, -9223372036854775808 ≤ x ∧ x ≤ 9223372036854775807) :
    IA (w.alloc (.cells (xs.map (Value.int .i64)).toArray t)) (some ⟨w.heap.size, 0, none⟩) xs.length xs :=
  ⟨rfl, by omega, fun j hj => ⟨w.heap.size, 0, rfl, fun j hj => by
    rw [Nat.zero_add, cell_of_row _ w.heap.size j _ t (0, 0) (heap_alloc_new w _)]
    simp [nth_eq hj, hj]⟩, hw⟩

theorem IA.lit_at (w : World) (g : Nat) (xs : List Int) (t : TypeId) (hg : g = w.heap.size) (hc : xs.length ≤ 1000) (hw : ∀ x ∈ xs, -9223372036854775808 ≤ x ∧ x ≤ 9223372036854775807) :
    IA (w.alloc (.cells (xs.map (Value.int .i64)).toArray t)) (some ⟨g, 0, none⟩) xs.length xs := by subst hg; exact IA.lit w xs t hc hw

theorem str_eq {s : ByteArray} {l m : List UInt8} (h : SB s l) (e : l = m) : s = ⟨m.toArray⟩ := by
  rw [SB, e] at h
  exact ByteArray.ext (Array.toList_inj.1 h)

end Go.Proofs.Ytdjlnpiaehoofaa
end

/- bedrocklaw17: alive. By an AI agent. -/
section
set_option linter.unusedVariables false
set_option linter.unusedSimpArgs false
namespace Go.Proofs.Ytdjlnpiaehoofaa
open Go.RowKit
attribute [local go_sem] eOp eOper eUpon

def va1 : VerL := ⟨nilS, [1], 0, 1, ⟨1, 0, 5, nilS⟩⟩
def va2 : VerL := ⟨nilS, [2], 0, 2, ⟨1, 0, 7, nilS⟩⟩
def kc : ByteArray := ⟨#[99]⟩
theorem alive_order : orderOf [va1, va2] = [va2, va1] := by
  have h1 : leV va1 va2 = false := by decide +kernel
  have h2 : eqV va1 va2 = false := by decide +kernel
  have h3 : srt leV [va1, va2] = [va2, va1] := by
    rw [srt_cons, srt_one]
    unfold mrg
    rw [List.merge, h1]
    simp
  unfold orderOf
  rw [h3]
  show va2 :: (if eqV va1 va2 then _ else _) = _
  rw [h2]; rfl
theorem alive_drop : dropL kc [va1, va2] [9] true = [oneStep kc (oneV kc va1) va2] := by
  have h1 : isKeyB kc = true := by decide +kernel
  have h2 : validL [9] = true := by decide +kernel
  have h3 : stayL [9] [va2, va1] = [] := by decide +kernel
  have h4 : seenL kc [9] [va2, va1] = [va2, va1] := by
    have a1 : leqV [9] va1 = true := by decide +kernel
    have a2 : leqV [9] va2 = true := by decide +kernel
    have a3 : fitsB kc va1.act = true := by decide +kernel
    have a4 : fitsB kc va2.act = true := by decide +kernel
    unfold seenL
    simp [List.filter, a1, a2, a3, a4]
  unfold dropL dropO
  rw [alive_order, h1, h2, h3, h4]
  show keptL kc [] [9] true [va2, va1] = _
  exact kept_one (key := kc) (stay := []) (first := va2) (rest := [va1]) (floor := [9]) (by decide +kernel) (by simp)
theorem alive_int : (oneStep kc (oneV kc va1) va2).act.n = 12 := by
  show (bothL kc va1.act va2.act).n = 12
  decide +kernel
theorem alive_read : readL kc [va1, va2] [1] = ⟨true, 0, 5, nilS⟩ := by
  have a1 : leqV [1] va1 = true := by decide +kernel
  have a2 : leqV [1] va2 = false := by decide +kernel
  unfold readL
  rw [alive_order]
  have : ([va2, va1] : List VerL).filter (leqV [1]) = [va1] := by simp [List.filter, a1, a2]
  rw [this, out_val (by decide +kernel)]
  show afterL kc noVal ⟨1, 0, 5, nilS⟩ = _
  rw [after_add _ (by decide +kernel) (by decide +kernel)]
  rfl
set_option maxHeartbeats 3200000 in
set_option maxRecDepth 100000 in
theorem alive17_any (w : World) : Calls Try.prog 10 #[] w fun e w' => e = .returned (.bool true) ∧ Bl w w' := by
  have hsf := store_fl
  obtain ⟨a1, ha1⟩ : ∃ a, w.alloc (.cells #[.int .i64 1] 3) = a := ⟨_, rfl⟩
  obtain ⟨a2, ha2⟩ : ∃ a, a1.alloc (.cells #[.int .i64 2] 3) = a := ⟨_, rfl⟩
  obtain ⟨a3, ha3⟩ : ∃ a, a2.alloc (.cells #[.string ⟨#[]⟩, .slice (some ⟨w.heap.size, 0, none⟩) 1 1, .int .i64 0, .int .i64 1, .int .i64 1, .float .f64 0, .int .i64 5, .string ⟨#[]⟩, .string ⟨#[]⟩, .slice (some ⟨w.heap.size + 1, 0, none⟩) 1 1, .int .i64 0, .int .i64 2, .int .i64 1, .float .f64 0, .int .i64 7, .string ⟨#[]⟩] 35) = a := ⟨_, rfl⟩
  obtain ⟨a4, ha4⟩ : ∃ a, a3.alloc (.cells #[.int .i64 9] 3) = a := ⟨_, rfl⟩
  have s1 : a1.heap.size = w.heap.size + 1 := by rw [← ha1]; simp
  have s2 : a2.heap.size = w.heap.size + 1 + 1 := by rw [← ha2]; simp [s1]
  have s3 : a3.heap.size = w.heap.size + 1 + 1 + 1 := by rw [← ha3]; simp [s2]
  have b1 : Bl w a1 := ha1 ▸ (Bl.refl w).alloc _
  have b2 : Bl a1 a2 := ha2 ▸ (Bl.refl a1).alloc _
  have b3 : Bl a2 a3 := ha3 ▸ (Bl.refl a2).alloc _
  have b4 : Bl a3 a4 := ha4 ▸ (Bl.refl a3).alloc _
  have i1 : IA a1 (some ⟨w.heap.size, 0, none⟩) 1 [1] := ha1 ▸ IA.lit w [1] 3 (by decide) (by decide)
  have i2 : IA a2 (some ⟨w.heap.size + 1, 0, none⟩) 1 [2] := ha2 ▸ IA.lit_at a1 (w.heap.size + 1) [2] 3 s1.symm (by decide) (by decide)
  have i9 : IA a4 (some ⟨w.heap.size + 1 + 1 + 1, 0, none⟩) 1 [9] := ha4 ▸ IA.lit_at a3 (w.heap.size + 1 + 1 + 1) [9] 3 s3.symm (by decide) (by decide)
  have ac : AC a3 (w.heap.size + 1 + 1) _ := ha3 ▸ AC.new a2 (w.heap.size + 1 + 1) s2.symm [.string ⟨#[]⟩, .slice (some ⟨w.heap.size, 0, none⟩) 1 1, .int .i64 0, .int .i64 1, .int .i64 1, .float .f64 0, .int .i64 5, .string ⟨#[]⟩, .string ⟨#[]⟩, .slice (some ⟨w.heap.size + 1, 0, none⟩) 1 1, .int .i64 0, .int .i64 2, .int .i64 1, .float .f64 0, .int .i64 7, .string ⟨#[]⟩] 35
  have k1 : va1.act.Ok := ⟨by decide, by decide, by decide, by decide⟩
  have k2 : va2.act.Ok := ⟨by decide, by decide, by decide, by decide⟩
  have V3 : VA a3 (some ⟨w.heap.size + 1 + 1, 0, none⟩) 2 [va1, va2] := by
    refine ⟨rfl, by omega, fun _ _ => ⟨_, 0, rfl, fun j hj => ?_⟩⟩
    have hj2 : j = 0 ∨ j = 1 := by omega
    rcases hj2 with rfl | rfl
    · exact ⟨ac.cell 0 _ rfl, ⟨_, _, _, ac.cell 1 _ rfl, (i1.keep b2).keep b3⟩, ac.cell 2 _ rfl, ac.cell 3 _ rfl, ac.cell 4 _ rfl, ac.cell 5 _ rfl, ac.cell 6 _ rfl, ac.cell 7 _ rfl, k1⟩
    · exact ⟨ac.cell 8 _ rfl, ⟨_, _, _, ac.cell 9 _ rfl, i2.keep b3⟩, ac.cell 10 _ rfl, ac.cell 11 _ rfl, ac.cell 12 _ rfl, ac.cell 13 _ rfl, ac.cell 14 _ rfl, ac.cell 15 _ rfl, k2⟩
  have HV := Lib.hid (V3.keep b4)
  have H9 := Lib.hid i9
  have HB := Lib.hid (((b1.trans b2).trans b3).trans b4)
  have HA1 := Lib.hid ha1
  have HA2 := Lib.hid ha2
  have HA3 := Lib.hid ha3
  have HA4 := Lib.hid ha4
  clear ha1 ha2 ha3 ha4
  clear s1 s2 s3 b1 b2 b3 b4 i1 i2 i9 ac k1 k2 V3
  go_enter Try.func10, Try.ntmps10
  go_wp2_with fail
  rw [HA1.out, HA2.out, HA3.out, HA4.out]
  clear HA1 HA2 HA3 HA4
  refine (fdrop_any kc _ 2 2 [va1, va2] _ 1 1 [9] true a4 (by decide) HV.out (by omega) H9.out).mono ?_
  rintro e w1 ⟨x1, n1, c1, rfl, hv1, hb1⟩
  rw [alive_drop] at hv1
  obtain rfl : n1 = 1 := hv1.len.symm
  obtain ⟨b, off, rfl, hc⟩ := hv1.cells 0 (by omega)
  have E := hc 0 (by omega)
  rw [show nthR [oneStep kc (oneV kc va1) va2] 0 = oneStep kc (oneV kc va1) va2 from rfl, Nat.zero_mul, Nat.add_zero] at E
  have HE := Lib.hid E
  have HV1 := Lib.hid (HV.out.keep hb1)
  have HB1 := Lib.hid (HB.out.trans hb1)
  clear hv1 hc E hb1 HV H9 HB
  obtain ⟨g1, hg1⟩ : ∃ g, w1.heap.size = g := ⟨_, rfl⟩
  have i1 := Lib.hid (IA.lit_at w1 w1.heap.size [1] 3 rfl (by decide) (by decide))
  have bb : Bl w1 (w1.alloc (.cells (([1] : List Int).map (Value.int .i64)).toArray 3)) := (Bl.refl w1).alloc _
  have HE1 := Lib.hid (HE.out.keep bb)
  have HV2 := Lib.hid (HV1.out.keep bb)
  have HB2 := Lib.hid (HB1.out.trans bb)
  clear bb HE HV1 HB1 hg1
  go_wp2_with fail
  refine (fread_any kc _ 2 2 [va1, va2] _ 1 1 [1] _ (by decide) HV2.out (by omega) i1.out).mono ?_
  rintro e w2 ⟨rfl, hb2⟩
  rw [alive_read]
  have HE2 := Lib.hid (HE1.out.keep hb2)
  have HV3 := Lib.hid (HV2.out.keep hb2)
  have HB3 := Lib.hid (HB2.out.trans hb2)
  clear hb2 HE1 HV2 HB2 i1
  unfold ValL.v
  have bc : Bl w2 (w2.alloc (.cells #[.bool true, .float .f64 0, .int .i64 5, .string nilS] 38)) := (Bl.refl w2).alloc _
  have HBX := Lib.hid (AC.new w2 w2.heap.size rfl [.bool true, .float .f64 0, .int .i64 5, .string nilS] 38)
  have HE4 := HE2.out.keep bc
  have HV4 := Lib.hid (HV3.out.keep bc)
  have HB4 := Lib.hid (HB3.out.trans bc)
  have e2 := HE4.c2
  have e6 := HE4.c6
  rw [show (oneStep kc (oneV kc va1) va2).origin = 254 from rfl] at e2
  rw [alive_int] at e6
  have c0 := HBX.out.cell 0 _ rfl
  have c2 := HBX.out.cell 2 _ rfl
  clear HE4 bc HE2 HV3 HB3
  go_wp2_with fail
  refine (fOrder_any _ 2 2 [va1, va2] _ HV4.out (by omega)).mono ?_
  rintro e w5 ⟨x5, n5, c5, rfl, hv5, hb5⟩
  rw [alive_order] at hv5
  obtain rfl : n5 = 2 := hv5.len.symm
  have HB5 := Lib.hid (HB4.out.trans hb5)
  clear hv5 hb5
  go_wp2_with fail
  go_ret
  exact ⟨rfl, HB5.out⟩
end Go.Proofs.Ytdjlnpiaehoofaa
end

/- what is dropped nobody misses: plain law. By an AI agent. -/
section
set_option linter.unusedVariables false
set_option linter.unusedSimpArgs false
namespace Go.Proofs.Ytdjlnpiaehoofaa
open Go.RowKit

theorem strict_filter {l : List VerL} (h : l.Pairwise LtV) (p : VerL → Bool) : (l.filter p).Pairwise LtV := h.sublist List.filter_sublist
theorem mem_stay {floor : List Int} {o : List VerL} {v : VerL} : v ∈ stayL floor o ↔ v ∈ o ∧ leqV floor v = false := by
  unfold stayL; rw [List.mem_filter]; simp
theorem mem_seen {key : ByteArray} {floor : List Int} {o : List VerL} {n : Nat} (h : RightL key n o) {v : VerL} : v ∈ seenL key floor o ↔ v ∈ o ∧ leqV floor v = true := by
  unfold seenL
  rw [List.mem_filter, Bool.and_eq_true]
  exact ⟨fun q => ⟨q.1, q.2.1⟩, fun q => ⟨q.1, q.2, (h v q.1).fits⟩⟩
theorem apart_at {floor : List Int} {a b : VerL} (ha : leqV floor a = false) (hb : leqV floor b = true) : ¬ AlV a b := fun h => by
  unfold leqV at ha hb
  rw [h.2.2.2, hb] at ha
  cases ha
theorem noal_two {floor : List Int} {xs ys : List VerL} (hx : NoAl xs) (hy : NoAl ys) (h1 : ∀ v ∈ xs, leqV floor v = false) (h2 : ∀ v ∈ ys, leqV floor v = true) : NoAl (xs ++ ys) :=
  List.pairwise_append.2 ⟨hx, hy, fun a ha b hb => apart_at (h1 a ha) (h2 b hb)⟩
/-- the parts of a strict list, put together, are that list -/
theorem parts_order {key : ByteArray} {floor : List Int} {n : Nat} {o : List VerL} (hs : o.Pairwise LtV) (h : RightL key n o) : orderOf (stayL floor o ++ seenL key floor o) = o ∧ NoAl (stayL floor o ++ seenL key floor o) := by
  have hn : NoAl (stayL floor o ++ seenL key floor o) := noal_two (strict_apart (strict_filter hs _)) (strict_apart (strict_filter hs _)) (fun v hv => (mem_stay.1 hv).2) (fun v hv => ((mem_seen h).1 hv).2)
  refine ⟨strict_eq _ _ (order_strict _) hs (fun v => ?_), hn⟩
  rw [order_all hn, List.mem_append, mem_stay, mem_seen h]
  constructor
  · rintro (q | q)
    · exact q.1
    · exact q.1
  · intro q
    cases e : leqV floor v with
    | false => exact .inl ⟨q, rfl⟩
    | true => exact .inr ⟨q, rfl⟩
theorem parts_perm {key : ByteArray} {floor : List Int} {n : Nat} {o : List VerL} (hs : o.Pairwise LtV) (h : RightL key n o) : o.Perm (stayL floor o ++ seenL key floor o) := by
  have p := parts_order (floor := floor) hs h
  have := order_perm p.2
  rw [p.1] at this
  exact this
theorem leqV_more {floor at_ : List Int} {v : VerL} (h1 : v.at_.length = floor.length) (h2 : floor.length = at_.length) (hl : leqL floor at_ = true) (h : leqV floor v = true) : leqV at_ v = true := leq_trans h1 h2 h hl
theorem filter_all {l : List VerL} {p : VerL → Bool} (h : ∀ v ∈ l, p v = true) : l.filter p = l := List.filter_eq_self.2 h
theorem read_strict {key : ByteArray} {o : List VerL} (hs : o.Pairwise LtV) (at_ : List Int) : readL key o at_ = valueL key (o.filter (leqV at_)) := by unfold readL; rw [order_id hs]
/-- the best of more that is there too -/
theorem best_sub {key : ByteArray} {F G : List VerL} (hF : NoAl F) (hG : NoAl G) (hs : ∀ v ∈ G, v ∈ F) {u : VerL} (hb : lastL key F = some u) (hu : u ∈ G) : lastL key G = some u := by
  have b := bestV_last (key := key) hF
  rw [hb] at b
  exact bestV_one (vs := G) (us := G) (fun _ => Iff.rfl) (bestV_last hG) (show BestV key G (some u) from ⟨hu, b.2.1, fun v hv fv => b.2.2 v (hs v hv) fv⟩)
theorem keptL_cons (key : ByteArray) (stay : List VerL) (floor : List Int) (all : Bool) (first : VerL) (rest : List VerL) : keptL key stay floor all (first :: rest) = if regB key then orderOf (stay ++ (if goneL stay first floor all then [] else [first])) else if all && decide (rest ≠ []) then stay ++ [oneL key (first :: rest).reverse] else orderOf (stay ++ (first :: rest)) := rfl
theorem gone_facts {stay : List VerL} {first : VerL} {floor : List Int} {all : Bool} (h : goneL stay first floor all = true) : all = true ∧ first.act.k = 4 ∧ timeL first ≤ minV floor ∧ ∀ v ∈ stay, ¬ LtV first v := by
  unfold goneL at h
  simp only [Bool.and_eq_true, decide_eq_true_eq, Bool.not_eq_true', List.any_eq_false] at h
  exact ⟨h.1, h.2.1, h.2.2.1, fun v hv q => by have := h.2.2.2 v hv; simp at this; have := orderL_lt.2 q; omega⟩
theorem keepsO {key : ByteArray} {n : Nat} {o : List VerL} {floor at_ : List Int} (all : Bool) (hs : o.Pairwise LtV) (hR : RightL key n o) (hn : floor.length = n) (ha : at_.length = n) (hl : leqL floor at_ = true) :
    SamV (valueL key (o.filter (leqV at_))) (readL key (dropO key o floor all) at_) := by
  have hst := strict_filter hs (fun v => !leqV floor v)
  have hse := strict_filter hs (fun v => leqV floor v && fitsB key v.act)
  have hP := parts_order (floor := floor) hs hR
  have hPm := parts_perm (floor := floor) hs hR
  have mst := fun v => mem_stay (floor := floor) (o := o) (v := v)
  have mse := fun v => mem_seen (floor := floor) hR (v := v)
  have more : ∀ v ∈ o, leqV floor v = true → leqV at_ v = true := fun v hv h => leqV_more ((hR v hv).len.trans hn.symm) (hn.trans ha.symm) hl h
  unfold dropO
  split
  case isFalse =>
    rw [read_strict hs]
    exact SamV.refl _
  case isTrue =>
    change (stayL floor o).Pairwise LtV at hst
    change (seenL key floor o).Pairwise LtV at hse
    generalize stayL floor o = stay at *
    generalize seenL key floor o = seen at *
    cases seen with
    | nil =>
      show SamV _ (readL key stay at_)
      rw [List.append_nil, order_id hst] at hP
      rw [hP.1, read_strict hs]
      exact SamV.refl _
    | cons first rest =>
      have hfirst : ∀ v ∈ first :: rest, v = first ∨ LtV first v := fun v hv => by
        rcases List.mem_cons.1 hv with q | q
        · exact .inl q
        · exact .inr ((List.pairwise_cons.1 hse).1 v q)
      have hf1 := (mse first).1 (by simp)
      have hF : NoAl (o.filter (leqV at_)) := strict_apart (strict_filter hs _)
      rw [keptL_cons]
      cases hr : regB key with
      | true =>
        rw [if_pos rfl, last_valV hr]
        have hb := bestV_last (key := key) hF
        have hff : first ∈ o.filter (leqV at_) := List.mem_filter.2 ⟨hf1.1, more _ hf1.1 hf1.2⟩
        cases hL : lastL key (o.filter (leqV at_)) with
        | none =>
          rw [hL] at hb
          have := hb first hff
          rw [(hR first hf1.1).fits] at this
          cases this
        | some u =>
          rw [hL] at hb
          have hu := List.mem_filter.1 hb.1
          have key1 : u ∈ stay ∨ u = first := by
            cases e : leqV floor u with
            | false => exact .inl ((mst u).2 ⟨hu.1, e⟩)
            | true =>
              right
              rcases hfirst u ((mse u).2 ⟨hu.1, e⟩) with q | q
              · exact q
              · rcases hb.2.2 first hff (hR first hf1.1).fits with r | r
                · exact r.symm
                · exact absurd (q.trans r) LtV.irrefl
          cases hg : goneL stay first floor all with
          | false =>
            rw [if_neg (by decide)]
            have hN : NoAl (stay ++ [first]) := noal_two (floor := floor) (strict_apart hst) (List.pairwise_singleton _ _) (fun v hv => ((mst v).1 hv).2) (fun v hv => by rw [List.mem_singleton.1 hv]; exact hf1.2)
            rw [read_strict (order_strict _), last_valV hr]
            have hG : NoAl ((orderOf (stay ++ [first])).filter (leqV at_)) := strict_apart (strict_filter (order_strict _) _)
            have hsubG : ∀ v ∈ (orderOf (stay ++ [first])).filter (leqV at_), v ∈ o.filter (leqV at_) := fun v hv => by
              obtain ⟨h1, h2⟩ := List.mem_filter.1 hv
              rw [order_all hN, List.mem_append, List.mem_singleton] at h1
              refine List.mem_filter.2 ⟨?_, h2⟩
              rcases h1 with q | q
              · exact ((mst v).1 q).1
              · rw [q]; exact hf1.1
            rw [best_sub hF hG hsubG hL (List.mem_filter.2 ⟨by rw [order_all hN, List.mem_append, List.mem_singleton]; exact key1, hu.2⟩)]
            exact SamV.refl _
          | true =>
            rw [if_pos rfl, List.append_nil, order_id hst, read_strict hst, last_valV hr]
            obtain ⟨g1, g2, g3, g4⟩ := gone_facts hg
            have hG : NoAl (stay.filter (leqV at_)) := strict_apart (strict_filter hst _)
            have hsub : ∀ v ∈ stay.filter (leqV at_), v ∈ o.filter (leqV at_) := fun v hv => by
              obtain ⟨h1, h2⟩ := List.mem_filter.1 hv
              exact List.mem_filter.2 ⟨((mst v).1 h1).1, h2⟩
            rcases key1 with q | q
            · rw [best_sub hF hG hsub hL (List.mem_filter.2 ⟨q, hu.2⟩)]
              exact SamV.refl _
            · subst q
              have hE : stay.filter (leqV at_) = [] := by
                cases e : stay.filter (leqV at_) with
                | nil => rfl
                | cons v vs =>
                  exfalso
                  have hv : v ∈ stay.filter (leqV at_) := by rw [e]; simp
                  have hvo := hsub v hv
                  have hvs := (List.mem_filter.1 hv).1
                  rcases hb.2.2 v hvo (hR v (List.mem_filter.1 hvo).1).fits with r | r
                  · subst r
                    have := ((mst v).1 hvs).2
                    rw [hf1.2] at this; cases this
                  · exact g4 v hvs r
              rw [hE]
              show SamV (afterL key noVal u.act) noVal
              rw [after_reg _ hr (hR u hf1.1).fits]
              unfold valOf
              rw [if_pos g2]
              exact SamV.refl _
      | false =>
        rw [if_neg (by decide)]
        have hall : ∀ v ∈ first :: rest, leqV at_ v = true := fun v hv => more v ((mse v).1 hv).1 ((mse v).1 hv).2
        have hok : ∀ v ∈ o, v.act.Ok := fun v hv => (hR v hv).ok
        split
        · have hO := one_ok (key := key) hn (vs := (first :: rest).reverse) (by simp) (fun v hv => by
            have h1 := (mse v).1 (List.mem_reverse.1 hv)
            exact ⟨hR v h1.1, h1.2⟩)
          have hN : NoAl (stay ++ [oneL key (first :: rest).reverse]) := noal_two (floor := floor) (strict_apart hst) (List.pairwise_singleton _ _) (fun v hv => ((mst v).1 hv).2) (fun v hv => by rw [List.mem_singleton.1 hv]; exact hO.leq)
          have hT := ones_tell (key := key) hr (vs := (first :: rest).reverse) (by simp) ((stay.filter (leqV at_)).foldl (fun o v => afterL key o v.act) noVal) (fun v hv => by
            have h1 := (mse v).1 (List.mem_reverse.1 hv)
            exact ⟨hok v h1.1, (hR v h1.1).fits⟩)
          have hOL : leqV at_ (oneL key (first :: rest).reverse) = true := leqV_more (hO.right.len.trans hn.symm) (hn.trans ha.symm) hl hO.leq
          generalize oneL key (first :: rest).reverse = q at *
          have e1 : SamV (valueL key (o.filter (leqV at_))) (valueL key (stay.filter (leqV at_) ++ (first :: rest).reverse)) := by
            refine val_perm ?_ hF (fun v hv => hok v (List.mem_filter.1 hv).1)
            have p1 := hPm.filter (leqV at_)
            rw [List.filter_append, filter_all hall] at p1
            exact p1.trans (List.Perm.append_left _ (List.reverse_perm _).symm)
          have e2 : SamV (valueL key (stay.filter (leqV at_) ++ [q])) (readL key (stay ++ [q]) at_) := by
            unfold readL
            have p1 := (order_perm hN).symm.filter (leqV at_)
            rw [List.filter_append, show [q].filter (leqV at_) = [q] from filter_all (fun v hv => by rw [List.mem_singleton.1 hv]; exact hOL)] at p1
            refine val_perm p1 (noal_two (floor := floor) (strict_apart (strict_filter hst _)) (List.pairwise_singleton _ _) (fun v hv => ((mst v).1 (List.mem_filter.1 hv).1).2) (fun v hv => by rw [List.mem_singleton.1 hv]; exact hO.leq)) (fun v hv => ?_)
            rcases List.mem_append.1 hv with r | r
            · exact hok v ((mst v).1 (List.mem_filter.1 r).1).1
            · rw [List.mem_singleton.1 r]; exact hO.right.ok
          refine (e1.trans ?_).trans e2
          rw [out_val hr, out_val hr, List.foldl_append, List.foldl_append]
          exact hT
        · rw [hP.1, read_strict hs]
          exact SamV.refl _
theorem keeps {key : ByteArray} {n : Nat} {l : List VerL} {floor at_ : List Int} (all : Bool) (hR : RightL key n l) (hn : floor.length = n) (ha : at_.length = n) (hl : leqL floor at_ = true) :
    SamV (readL key l at_) (readL key (dropL key l floor all) at_) := keepsO all (order_strict l) hR.order hn ha hl
/-- what is left is no more, and can be -/
theorem dropO_len {key : ByteArray} {n : Nat} {o : List VerL} {floor : List Int} (all : Bool) (hs : o.Pairwise LtV) (hR : RightL key n o) : (dropO key o floor all).length ≤ o.length := by
  have hPm := (parts_perm (floor := floor) hs hR).length_eq
  rw [List.length_append] at hPm
  unfold dropO
  split
  · generalize stayL floor o = stay at *
    generalize seenL key floor o = seen at *
    cases seen with
    | nil => show stay.length ≤ _; rw [hPm]; exact Nat.le_add_right _ _
    | cons first rest =>
      rw [List.length_cons] at hPm
      rw [keptL_cons]
      split
      · refine Nat.le_trans (order_len _) ?_
        rw [List.length_append]
        split <;> simp <;> omega
      · split
        · rw [List.length_append, List.length_singleton]; omega
        · refine Nat.le_trans (order_len _) ?_
          rw [List.length_append, List.length_cons]; omega
  · exact Nat.le_refl _
theorem drop_len {key : ByteArray} {n : Nat} {l : List VerL} {floor : List Int} (all : Bool) (hR : RightL key n l) : (dropL key l floor all).length ≤ l.length :=
  Nat.le_trans (dropO_len all (order_strict l) hR.order) (order_len l)
theorem dropO_right {key : ByteArray} {n : Nat} {o : List VerL} {floor : List Int} (all : Bool) (hR : RightL key n o) (hn : floor.length = n) : RightL key n (dropO key o floor all) := by
  have mst := fun v => mem_stay (floor := floor) (o := o) (v := v)
  have mse := fun v => mem_seen (floor := floor) hR (v := v)
  unfold dropO
  split
  · generalize stayL floor o = stay at *
    generalize seenL key floor o = seen at *
    have hst : RightL key n stay := fun v hv => hR v ((mst v).1 hv).1
    have hse : RightL key n seen := fun v hv => hR v ((mse v).1 hv).1
    cases seen with
    | nil => exact hst
    | cons first rest =>
      rw [keptL_cons]
      split
      · intro v hv
        have := order_mem hv
        rcases List.mem_append.1 this with q | q
        · exact hst v q
        · split at q
          · cases q
          · rw [List.mem_singleton.1 q]; exact hse first (by simp)
      · split
        · intro v hv
          rcases List.mem_append.1 hv with q | q
          · exact hst v q
          · rw [List.mem_singleton.1 q]
            exact (one_ok (key := key) hn (vs := (first :: rest).reverse) (by simp) (fun v hv => by
              have h1 := (mse v).1 (List.mem_reverse.1 hv)
              exact ⟨hR v h1.1, h1.2⟩)).right
        · intro v hv
          have := order_mem hv
          rcases List.mem_append.1 this with q | q
          · exact hst v q
          · exact hse v q
  · exact hR
theorem drop_right {key : ByteArray} {n : Nat} {l : List VerL} {floor : List Int} (all : Bool) (hR : RightL key n l) (hn : floor.length = n) : RightL key n (dropL key l floor all) := dropO_right all hR.order hn
end Go.Proofs.Ytdjlnpiaehoofaa
end

/- what is dropped twice, with later ones, and in parts: plain laws. By an AI agent. -/
section
set_option linter.unusedVariables false
set_option linter.unusedSimpArgs false
namespace Go.Proofs.Ytdjlnpiaehoofaa
open Go.RowKit

theorem SamV.symm {a b : ValL} (h : SamV a b) : SamV b a := ⟨h.there.symm, h.x.symm, h.n.symm, h.s.symm⟩
theorem singleton_strict {l : List VerL} (hs : l.Pairwise LtV) {x : VerL} (h : ∀ v, v ∈ l ↔ v = x) : l = [x] :=
  strict_eq _ _ hs (List.pairwise_singleton _ _) (fun v => by rw [h v, List.mem_singleton])
/-- what stays and one that is seen, dropped again -/
theorem drop_again {key : ByteArray} {n : Nat} {o stay : List VerL} {x : VerL} {floor : List Int} (all : Bool) (hk : (isKeyB key && validL floor) = true) (hs : o.Pairwise LtV) (hR : RightL key n o) (hst : stay.Pairwise LtV) (h1 : ∀ v ∈ stay, leqV floor v = false) (h2 : leqV floor x = true) (hm : ∀ v, v ∈ o ↔ v ∈ stay ∨ v = x) :
    dropO key o floor all = keptL key stay floor all [x] := by
  unfold dropO
  rw [if_pos hk]
  have e1 : stayL floor o = stay := strict_eq _ _ (strict_filter hs _) hst (fun v => by
    show v ∈ stayL floor o ↔ v ∈ stay
    rw [mem_stay, hm v]
    constructor
    · rintro ⟨q | q, r⟩
      · exact q
      · rw [q, h2] at r; cases r
    · intro q; exact ⟨.inl q, h1 v q⟩)
  have e2 : seenL key floor o = [x] := singleton_strict (strict_filter hs _) (fun v => by
    show v ∈ seenL key floor o ↔ v = x
    rw [mem_seen hR, hm v]
    constructor
    · rintro ⟨q | q, r⟩
      · rw [h1 v q] at r; cases r
      · exact q
    · intro q; subst q; exact ⟨.inr rfl, h2⟩)
  rw [e1, e2]
theorem drop_none {key : ByteArray} {n : Nat} {stay : List VerL} {floor : List Int} (all : Bool) (hk : (isKeyB key && validL floor) = true) (hR : RightL key n stay) (hst : stay.Pairwise LtV) (h1 : ∀ v ∈ stay, leqV floor v = false) : dropL key stay floor all = stay := by
  unfold dropL dropO
  rw [order_id hst, if_pos hk]
  have e1 : stayL floor stay = stay := filter_all (fun v hv => by rw [h1 v hv]; rfl)
  have e2 : seenL key floor stay = [] := List.filter_eq_nil_iff.2 (fun v hv => by rw [h1 v hv]; simp)
  rw [e1, e2]; rfl
/-- what was dropped drops nothing more -/
theorem drop_twiceO {key : ByteArray} {n : Nat} {o : List VerL} {floor : List Int} (hs : o.Pairwise LtV) (hR : RightL key n o) (hn : floor.length = n) : (dropL key (dropO key o floor true) floor true).length = (dropO key o floor true).length := by
  have hst := strict_filter hs (fun v => !leqV floor v)
  have hse := strict_filter hs (fun v => leqV floor v && fitsB key v.act)
  have mst := fun v => mem_stay (floor := floor) (o := o) (v := v)
  have mse := fun v => mem_seen (floor := floor) hR (v := v)
  have hRD := dropO_right (floor := floor) true hR hn
  by_cases hk : (isKeyB key && validL floor) = true
  case neg =>
    have e : dropO key o floor true = o := by unfold dropO; rw [if_neg hk]
    rw [e]
    unfold dropL dropO
    rw [if_neg hk, order_id hs]
  case pos =>
  have e : dropO key o floor true = keptL key (stayL floor o) floor true (seenL key floor o) := by unfold dropO; rw [if_pos hk]
  rw [e] at hRD ⊢
  change (stayL floor o).Pairwise LtV at hst
  change (seenL key floor o).Pairwise LtV at hse
  clear e
  generalize stayL floor o = stay at *
  generalize seenL key floor o = seen at *
  have hs1 : ∀ v ∈ stay, leqV floor v = false := fun v hv => ((mst v).1 hv).2
  cases seen with
  | nil =>
    change RightL key n stay at hRD
    show (dropL key stay floor true).length = stay.length
    rw [drop_none true hk hRD hst hs1]
  | cons first rest =>
    have hf1 := (mse first).1 (by simp)
    have again : ∀ x : VerL, leqV floor x = true → RightL key n (stay ++ [x]) → keptL key stay floor true [x] = orderOf (stay ++ [x]) → dropL key (orderOf (stay ++ [x])) floor true = orderOf (stay ++ [x]) := fun x hx hr hkx => by
      have hN : NoAl (stay ++ [x]) := noal_two (floor := floor) (strict_apart hst) (List.pairwise_singleton _ _) hs1 (fun v hv => by rw [List.mem_singleton.1 hv]; exact hx)
      unfold dropL
      rw [order_id (order_strict _), drop_again true hk (order_strict _) hr.order hst hs1 hx (fun v => by rw [order_all hN, List.mem_append, List.mem_singleton]), hkx]
    have hRst : RightL key n stay := fun v hv => hR v ((mst v).1 hv).1
    have hRx : ∀ x, RightV key n x → RightL key n (stay ++ [x]) := fun x hx v hv => by
      rcases List.mem_append.1 hv with q | q
      · exact hRst v q
      · rw [List.mem_singleton.1 q]; exact hx
    rw [keptL_cons]
    cases hr : regB key with
    | true =>
      rw [if_pos rfl]
      cases hg : goneL stay first floor true with
      | true =>
        rw [if_pos rfl, List.append_nil, order_id hst, drop_none true hk hRst hst hs1]
      | false =>
        rw [if_neg (by decide)]
        rw [again first hf1.2 (hRx _ (hR first hf1.1)) (by rw [keptL_cons, hr, if_pos rfl, hg, if_neg (by decide)])]
    | false =>
      rw [if_neg (by decide)]
      have kx : ∀ x : VerL, keptL key stay floor true [x] = orderOf (stay ++ [x]) := fun x => by
        rw [keptL_cons, hr, if_neg (by decide), if_neg (by simp)]
      split
      · have hO := one_ok (key := key) hn (vs := (first :: rest).reverse) (by simp) (fun v hv => by
          have h1 := (mse v).1 (List.mem_reverse.1 hv)
          exact ⟨hR v h1.1, h1.2⟩)
        generalize oneL key (first :: rest).reverse = q at *
        have hN : NoAl (stay ++ [q]) := noal_two (floor := floor) (strict_apart hst) (List.pairwise_singleton _ _) hs1 (fun v hv => by rw [List.mem_singleton.1 hv]; exact hO.leq)
        have e1 := again q hO.leq (hRx _ hO.right) (kx q)
        have e2 : dropL key (stay ++ [q]) floor true = dropL key (orderOf (stay ++ [q])) floor true := by
          unfold dropL; rw [order_id (order_strict _)]
        rw [e2, e1]
        exact (order_perm hN).length_eq
      · rename_i hnr
        have hr0 : rest = [] := by
          by_cases h : rest = []
          · exact h
          · exact absurd (by simp [h]) hnr
        subst hr0
        rw [again first hf1.2 (hRx _ (hR first hf1.1)) (kx first)]
theorem drop_twice {key : ByteArray} {n : Nat} {l : List VerL} {floor : List Int} (hR : RightL key n l) (hn : floor.length = n) : (dropL key (dropL key l floor true) floor true).length = (dropL key l floor true).length := drop_twiceO (order_strict l) hR.order hn

/-! ### in parts -/
/-- what a read is, of versions that have stamps of their own -/
theorem read_val {key : ByteArray} {l : List VerL} {at_ : List Int} (hN : NoAl l) (hok : ∀ v ∈ l, v.act.Ok) : SamV (readL key l at_) (valueL key (l.filter (leqV at_))) := by
  unfold readL
  exact val_perm ((order_perm hN).filter _) (strict_apart (strict_filter (order_strict l) _)) (fun v hv => hok v (order_mem (List.mem_filter.1 hv).1))
theorem NoAl.filter {l : List VerL} (h : NoAl l) (p : VerL → Bool) : NoAl (l.filter p) := List.Pairwise.sublist List.filter_sublist h
/-- what is dropped without all: some of the list, and all that a read can need -/
structure PartOf (key : ByteArray) (floor : List Int) (l m : List VerL) : Prop where
  sub : ∀ v ∈ m, v ∈ l
  strict : m.Pairwise LtV
  perm : regB key = false → m.Perm l
  best : ∀ u ∈ l, (∀ v ∈ l, v = u ∨ leqV floor v = false ∨ LtV u v) ∨ leqV floor u = false → u ∈ m
theorem drop_part {key : ByteArray} {n : Nat} {l : List VerL} {floor : List Int} (hR : RightL key n l) (hN : NoAl l) (hn : floor.length = n) : PartOf key floor l (dropL key l floor false) := by
  have hs := order_strict l
  have hp := order_perm hN
  have hO := hR.order
  have hst := strict_filter hs (fun v => !leqV floor v)
  have hse := strict_filter hs (fun v => leqV floor v && fitsB key v.act)
  have hP := parts_order (floor := floor) hs hO
  have mst := fun v => mem_stay (floor := floor) (o := orderOf l) (v := v)
  have mse := fun v => mem_seen (floor := floor) hO (v := v)
  unfold dropL dropO
  split
  case isFalse => exact ⟨fun v hv => order_mem hv, hs, fun _ => hp, fun u hu _ => (order_all hN).2 hu⟩
  case isTrue =>
    change (stayL floor (orderOf l)).Pairwise LtV at hst
    change (seenL key floor (orderOf l)).Pairwise LtV at hse
    generalize stayL floor (orderOf l) = stay at *
    generalize seenL key floor (orderOf l) = seen at *
    cases seen with
    | nil =>
      show PartOf key floor l stay
      rw [List.append_nil, order_id hst] at hP
      rw [hP.1]
      exact ⟨fun v hv => order_mem hv, hs, fun _ => hp, fun u hu _ => (order_all hN).2 hu⟩
    | cons first rest =>
      rw [keptL_cons]
      have hf1 := (mse first).1 (by simp)
      split
      · rename_i hr
        have hg : goneL stay first floor false = false := rfl
        rw [hg, if_neg (by decide)]
        have hN1 : NoAl (stay ++ [first]) := noal_two (floor := floor) (strict_apart hst) (List.pairwise_singleton _ _) (fun v hv => ((mst v).1 hv).2) (fun v hv => by rw [List.mem_singleton.1 hv]; exact hf1.2)
        refine ⟨fun v hv => ?_, order_strict _, fun h => (by rw [hr] at h; cases h), fun u hu hb => ?_⟩
        · rcases List.mem_append.1 (order_mem hv) with q | q
          · exact order_mem ((mst v).1 q).1
          · rw [List.mem_singleton.1 q]; exact order_mem hf1.1
        · rw [order_all hN1, List.mem_append, List.mem_singleton]
          cases e : leqV floor u with
          | false => exact .inl ((mst u).2 ⟨(order_all hN).2 hu, e⟩)
          | true =>
            right
            rcases hb with hb | hb
            · rcases hb first (order_mem hf1.1) with q | q | q
              · exact q.symm
              · rw [hf1.2] at q; cases q
              · have hu1 := (mse u).2 ⟨(order_all hN).2 hu, e⟩
                rcases List.mem_cons.1 hu1 with r | r
                · exact r
                · exact absurd (q.trans ((List.pairwise_cons.1 hse).1 u r)) LtV.irrefl
            · rw [e] at hb; cases hb
      · have h0 : (false && decide (rest ≠ [])) = false := rfl
        rw [h0, if_neg (by decide), hP.1]
        exact ⟨fun v hv => order_mem hv, hs, fun _ => hp, fun u hu _ => (order_all hN).2 hu⟩
theorem NoAl.sub2 {l1 l2 a b : List VerL} (h : NoAl (l1 ++ l2)) (ha : a.Pairwise LtV) (hb : b.Pairwise LtV) (h1 : ∀ v ∈ a, v ∈ l1) (h2 : ∀ v ∈ b, v ∈ l2) : NoAl (a ++ b) :=
  List.pairwise_append.2 ⟨strict_apart ha, strict_apart hb, fun x hx y hy => (List.pairwise_append.1 h).2.2 x (h1 x hx) y (h2 y hy)⟩
theorem parts_keep {key : ByteArray} {n : Nat} {l1 l2 : List VerL} {floor at_ : List Int} (hR : RightL key n (l1 ++ l2)) (hN : NoAl (l1 ++ l2)) (hn : floor.length = n) (ha : at_.length = n) (hl : leqL floor at_ = true) :
    SamV (readL key (l1 ++ l2) at_) (readL key (dropL key l1 floor false ++ dropL key l2 floor false) at_) := by
  have hR1 : RightL key n l1 := fun v hv => hR v (by simp [hv])
  have hR2 : RightL key n l2 := fun v hv => hR v (by simp [hv])
  have p1 := drop_part (floor := floor) hR1 (List.pairwise_append.1 hN).1 hn
  have p2 := drop_part (floor := floor) hR2 (List.pairwise_append.1 hN).2.1 hn
  generalize dropL key l1 floor false = a at *
  generalize dropL key l2 floor false = b at *
  have hsub : ∀ v ∈ a ++ b, v ∈ l1 ++ l2 := fun v hv => by
    rcases List.mem_append.1 hv with q | q
    · simp [p1.sub v q]
    · simp [p2.sub v q]
  have hM : NoAl (a ++ b) := hN.sub2 p1.strict p2.strict p1.sub p2.sub
  have hok := hR
  refine ((read_val hN (fun v hv => (hR v hv).ok)).trans ?_).trans (read_val hM (fun v hv => (hR v (hsub v hv)).ok)).symm
  cases hr : regB key with
  | false =>
    exact val_perm (((p1.perm hr).append (p2.perm hr)).symm.filter _) (hN.filter _) (fun v hv => (hR v (List.mem_filter.1 hv).1).ok)
  | true =>
    rw [last_valV hr, last_valV hr]
    have hF := hN.filter (leqV at_)
    have hG := hM.filter (leqV at_)
    have hs2 : ∀ v ∈ (a ++ b).filter (leqV at_), v ∈ (l1 ++ l2).filter (leqV at_) := fun v hv => List.mem_filter.2 ⟨hsub v (List.mem_filter.1 hv).1, (List.mem_filter.1 hv).2⟩
    have hb := bestV_last (key := key) hF
    have more : ∀ v ∈ l1 ++ l2, leqV floor v = true → leqV at_ v = true := fun v hv h => leqV_more ((hR v hv).len.trans hn.symm) (hn.trans ha.symm) hl h
    cases hL : lastL key ((l1 ++ l2).filter (leqV at_)) with
    | none =>
      rw [hL] at hb
      have hE : lastL key ((a ++ b).filter (leqV at_)) = none := bestV_one (vs := (a ++ b).filter (leqV at_)) (fun _ => Iff.rfl) (bestV_last hG) (show BestV key _ none from fun v hv => hb v (hs2 v hv))
      rw [hE]
      exact SamV.refl _
    | some u =>
      rw [hL] at hb
      have hu := List.mem_filter.1 hb.1
      have hcond : ∀ v ∈ l1 ++ l2, v = u ∨ leqV floor v = false ∨ LtV u v := fun v hv => by
        cases e : leqV floor v with
        | false => exact .inr (.inl rfl)
        | true =>
          rcases hb.2.2 v (List.mem_filter.2 ⟨hv, more v hv e⟩) (hR v hv).fits with q | q
          · exact .inl q
          · exact .inr (.inr q)
      have hum : u ∈ a ++ b := by
        rcases List.mem_append.1 hu.1 with q | q
        · exact List.mem_append.2 (.inl (p1.best u q (.inl (fun v hv => hcond v (by simp [hv])))))
        · exact List.mem_append.2 (.inr (p2.best u q (.inl (fun v hv => hcond v (by simp [hv])))))
      rw [best_sub hF hG hs2 hL (List.mem_filter.2 ⟨hum, hu.2⟩)]
      exact SamV.refl _
theorem parts_right {key : ByteArray} {n : Nat} {l1 l2 : List VerL} {floor : List Int} (all : Bool) (hR : RightL key n (l1 ++ l2)) (hn : floor.length = n) : RightL key n (dropL key l1 floor all ++ dropL key l2 floor all) := fun v hv => by
  rcases List.mem_append.1 hv with q | q
  · exact drop_right all (fun v hv => hR v (by simp [hv])) hn v q
  · exact drop_right all (fun v hv => hR v (by simp [hv])) hn v q

/-! ### with later ones -/
theorem min_le_mem : ∀ (xs : List Int) (m : Int), xs.foldl min m ≤ m ∧ ∀ x ∈ xs, xs.foldl min m ≤ x
  | [], m => ⟨Int.le_refl _, fun x h => by cases h⟩
  | y :: xs, m => by
    obtain ⟨h1, h2⟩ := min_le_mem xs (min m y)
    refine ⟨by show xs.foldl min (min m y) ≤ m; omega, fun x hx => ?_⟩
    show xs.foldl min (min m y) ≤ x
    rcases List.mem_cons.1 hx with q | q
    · omega
    · exact h2 x q
theorem minV_le {xs : List Int} {j : Nat} (h : j < xs.length) : minV xs ≤ nth xs j := by
  cases xs with
  | nil => simp at h
  | cons x xs =>
    obtain ⟨h1, h2⟩ := min_le_mem xs x
    rw [nth_eq h]
    rcases List.mem_cons.1 (List.getElem_mem h) with q | q
    · show xs.foldl min x ≤ _; rw [q]; exact h1
    · exact h2 _ q
/-- a version that comes later -/
structure LaterV (n : Nat) (floor : List Int) (v : VerL) : Prop where
  place : v.origin ≠ 254
  leq : leqV floor v = false
  above : 0 ≤ v.origin → v.origin < n → nth floor v.origin.toNat < nth v.at_ v.origin.toNat
theorem later_time {key : ByteArray} {n : Nat} {floor : List Int} {v : VerL} (hr : RightV key n v) (h : LaterV n floor v) (hn : floor.length = n) : minV floor < timeL v := by
  rcases hr.place with ⟨h1, h2⟩ | q
  · have e : timeL v = nth v.at_ v.origin.toNat := by
      unfold timeL
      rw [if_neg (fun q => h.place q.1), if_pos ⟨h1, by rw [hr.len]; exact h2⟩]
    rw [e]
    have := h.above h1 h2
    have := minV_le (xs := floor) (j := v.origin.toNat) (by omega)
    omega
  · exact absurd q h.place
/-- no number twice at a place -/
def NoTx (l : List VerL) : Prop := l.Pairwise (fun a b => ¬ (a.origin = b.origin ∧ a.tx = b.tx))
theorem NoTx.al {l : List VerL} (h : NoTx l) : NoAl l := h.imp (fun q r => q ⟨r.2.1, r.2.2.1⟩)
theorem time_lt {a b : VerL} (h : timeL b < timeL a) : LtV a b := by
  refine orderL_lt.1 ?_
  unfold orderL
  rw [orL_cons]
  have := cmpI_lt.2 h
  rw [if_neg (by omega)]
  exact this
theorem later_keep {key : ByteArray} {n : Nat} {l later : List VerL} {floor at_ : List Int} (hR : RightL key n l) (hRl : RightL key n later) (hN : NoTx (l ++ later)) (hla : ∀ v ∈ later, LaterV n floor v) (hn : floor.length = n) (ha : at_.length = n) (hl : leqL floor at_ = true) :
    SamV (readL key (l ++ later) at_) (readL key (dropL key l floor true ++ later) at_) := by
  have hN0 : NoAl (l ++ later) := hN.al
  have hNl : NoAl l := (List.pairwise_append.1 hN0).1
  have hNt : NoAl later := (List.pairwise_append.1 hN0).2.1
  have hRa : RightL key n (l ++ later) := fun v hv => by
    rcases List.mem_append.1 hv with q | q
    · exact hR v q
    · exact hRl v q
  have hRm := drop_right (floor := floor) true hR hn
  have hkeep := keeps (key := key) (floor := floor) (at_ := at_) true hR hn ha hl
  -- what stands in what is left
  have hmem : (∀ v ∈ dropL key l floor true, v ∈ l ∨ v.origin = 254) ∧ (dropL key l floor true).Pairwise (fun a b => ¬ AlV a b) ∧ (regB key = true → ∀ u ∈ l, (∀ v ∈ l, v = u ∨ leqV at_ v = false ∨ LtV u v) → u ∈ dropL key l floor true ∨ (u.act.k = 4 ∧ timeL u ≤ minV floor ∧ (dropL key l floor true).filter (leqV at_) = []) ) ∧ (regB key = true → ∀ v ∈ dropL key l floor true, v ∈ l) := by
    have hs := order_strict l
    have hO := hR.order
    have hst := strict_filter hs (fun v => !leqV floor v)
    have hse := strict_filter hs (fun v => leqV floor v && fitsB key v.act)
    have hP := parts_order (floor := floor) hs hO
    have mst := fun v => mem_stay (floor := floor) (o := orderOf l) (v := v)
    have mse := fun v => mem_seen (floor := floor) hO (v := v)
    have more : ∀ v ∈ l, leqV floor v = true → leqV at_ v = true := fun v hv h => leqV_more ((hR v hv).len.trans hn.symm) (hn.trans ha.symm) hl h
    have hin : ∀ {v}, v ∈ l → v ∈ orderOf l := fun hv => (order_all hNl).2 hv
    clear hkeep hRm
    unfold dropL dropO
    split
    case isFalse => exact ⟨fun v hv => .inl (order_mem hv), strict_apart hs, fun _ u hu _ => .inl (hin hu), fun _ v hv => order_mem hv⟩
    case isTrue =>
      change (stayL floor (orderOf l)).Pairwise LtV at hst
      change (seenL key floor (orderOf l)).Pairwise LtV at hse
      generalize stayL floor (orderOf l) = stay at *
      generalize seenL key floor (orderOf l) = seen at *
      have hso : ∀ v ∈ stay, v ∈ l := fun v hv => order_mem ((mst v).1 hv).1
      cases seen with
      | nil =>
        show (∀ v ∈ stay, _) ∧ _
        rw [List.append_nil, order_id hst] at hP
        refine ⟨fun v hv => .inl (hso v hv), strict_apart hst, fun _ u hu _ => .inl ?_, fun _ v hv => hso v hv⟩
        show u ∈ stay
        rw [hP.1]; exact hin hu
      | cons first rest =>
        have hf1 := (mse first).1 (by simp)
        have hfl : first ∈ l := order_mem hf1.1
        rw [keptL_cons]
        split
        · rename_i hr
          cases hg : goneL stay first floor true with
          | false =>
            rw [if_neg (by decide)]
            have hN1 : NoAl (stay ++ [first]) := noal_two (floor := floor) (strict_apart hst) (List.pairwise_singleton _ _) (fun v hv => ((mst v).1 hv).2) (fun v hv => by rw [List.mem_singleton.1 hv]; exact hf1.2)
            have hsl : ∀ v ∈ orderOf (stay ++ [first]), v ∈ l := fun v hv => by
              rcases List.mem_append.1 (order_mem hv) with q | q
              · exact hso v q
              · rw [List.mem_singleton.1 q]; exact hfl
            refine ⟨fun v hv => .inl (hsl v hv), strict_apart (order_strict _), fun _ u hu hb => .inl ?_, fun _ v hv => hsl v hv⟩
            rw [order_all hN1, List.mem_append, List.mem_singleton]
            cases e : leqV floor u with
            | false => exact .inl ((mst u).2 ⟨hin hu, e⟩)
            | true =>
              right
              rcases hb first hfl with q | q | q
              · exact q.symm
              · rw [more first hfl hf1.2] at q; cases q
              · rcases List.mem_cons.1 ((mse u).2 ⟨hin hu, e⟩) with r | r
                · exact r
                · exact absurd (q.trans ((List.pairwise_cons.1 hse).1 u r)) LtV.irrefl
          | true =>
            rw [if_pos rfl, List.append_nil, order_id hst]
            obtain ⟨g1, g2, g3, g4⟩ := gone_facts hg
            refine ⟨fun v hv => .inl (hso v hv), strict_apart hst, fun _ u hu hb => ?_, fun _ v hv => hso v hv⟩
            cases e : leqV floor u with
            | false => exact .inl ((mst u).2 ⟨hin hu, e⟩)
            | true =>
              have huf : u = first := by
                rcases hb first hfl with q | q | q
                · exact q.symm
                · rw [more first hfl hf1.2] at q; cases q
                · rcases List.mem_cons.1 ((mse u).2 ⟨hin hu, e⟩) with r | r
                  · exact r
                  · exact absurd (q.trans ((List.pairwise_cons.1 hse).1 u r)) LtV.irrefl
              right
              subst huf
              refine ⟨g2, g3, List.filter_eq_nil_iff.2 (fun v hv q => ?_)⟩
              rcases hb v (hso v hv) with r | r | r
              · subst r
                have := ((mst v).1 hv).2
                rw [e] at this; cases this
              · rw [r] at q; cases q
              · exact g4 v hv r
        · rename_i hr
          split
          · have hq1 := one_ok (key := key) hn (vs := (first :: rest).reverse) (by simp) (fun v hv => by
              have h1 := (mse v).1 (List.mem_reverse.1 hv)
              exact ⟨hO v h1.1, h1.2⟩)
            generalize oneL key (first :: rest).reverse = q at *
            refine ⟨fun v hv => ?_, noal_two (floor := floor) (strict_apart hst) (List.pairwise_singleton _ _) (fun v hv => ((mst v).1 hv).2) (fun v hv => by rw [List.mem_singleton.1 hv]; exact hq1.leq), fun h => absurd h hr, fun h => absurd h hr⟩
            rcases List.mem_append.1 hv with r | r
            · exact .inl (hso v r)
            · rw [List.mem_singleton.1 r]; exact .inr hq1.folded
          · rw [hP.1]
            exact ⟨fun v hv => .inl (order_mem hv), strict_apart hs, fun _ u hu _ => .inl (hin hu), fun _ v hv => order_mem hv⟩
  obtain ⟨m1, m2, m3, m4⟩ := hmem
  generalize dropL key l floor true = m at *
  have hRb : RightL key n (m ++ later) := fun v hv => by
    rcases List.mem_append.1 hv with q | q
    · exact hRm v q
    · exact hRl v q
  have hNb : NoAl (m ++ later) := List.pairwise_append.2 ⟨m2, hNt, fun x hx y hy q => by
    rcases m1 x hx with r | r
    · exact (List.pairwise_append.1 hN0).2.2 x r y hy q
    · exact (hla y hy).place (q.2.1.symm.trans r)⟩
  refine ((read_val hN0 (fun v hv => (hRa v hv).ok)).trans ?_).trans (read_val hNb (fun v hv => (hRb v hv).ok)).symm
  cases hr : regB key with
  | false =>
    rw [List.filter_append, List.filter_append, out_val hr, out_val hr, List.foldl_append, List.foldl_append]
    refine out_cong hr _ _ _ (fun v hv => (hRl v (List.mem_filter.1 hv).1).ok) ?_
    have h1 := read_val (key := key) (at_ := at_) hNl (fun v hv => (hR v hv).ok)
    have h2 := read_val (key := key) (at_ := at_) (l := m) m2 (fun v hv => (hRm v hv).ok)
    have h3 := (h1.symm.trans hkeep).trans h2
    rwa [out_val hr, out_val hr] at h3
  | true =>
    rw [last_valV hr, last_valV hr]
    have hF := hN0.filter (leqV at_)
    have hG := hNb.filter (leqV at_)
    have hs2 : ∀ v ∈ (m ++ later).filter (leqV at_), v ∈ (l ++ later).filter (leqV at_) := fun v hv => by
      obtain ⟨h1, h2⟩ := List.mem_filter.1 hv
      refine List.mem_filter.2 ⟨?_, h2⟩
      rcases List.mem_append.1 h1 with q | q
      · simp [m4 hr v q]
      · simp [q]
    have hb := bestV_last (key := key) hF
    cases hL : lastL key ((l ++ later).filter (leqV at_)) with
    | none =>
      rw [hL] at hb
      have hE : lastL key ((m ++ later).filter (leqV at_)) = none := bestV_one (vs := (m ++ later).filter (leqV at_)) (fun _ => Iff.rfl) (bestV_last hG) (show BestV key _ none from fun v hv => hb v (hs2 v hv))
      rw [hE]
      exact SamV.refl _
    | some u =>
      rw [hL] at hb
      have hu := List.mem_filter.1 hb.1
      have hcond : ∀ v ∈ l, v = u ∨ leqV at_ v = false ∨ LtV u v := fun v hv => by
        cases e : leqV at_ v with
        | false => exact .inr (.inl rfl)
        | true =>
          rcases hb.2.2 v (List.mem_filter.2 ⟨by simp [hv], e⟩) (hR v hv).fits with q | q
          · exact .inl q
          · exact .inr (.inr q)
      have done : u ∈ m ++ later → SamV (ofLast key (some u)) (ofLast key (lastL key ((m ++ later).filter (leqV at_)))) := fun h => by
        rw [best_sub hF hG hs2 hL (List.mem_filter.2 ⟨h, hu.2⟩)]
        exact SamV.refl _
      rcases List.mem_append.1 hu.1 with q | q
      · rcases m3 hr u q hcond with r | ⟨r1, r2, r3⟩
        · exact done (by simp [r])
        · have hE : (m ++ later).filter (leqV at_) = [] := by
            rw [List.filter_append, r3, List.nil_append]
            refine List.filter_eq_nil_iff.2 (fun v hv e => ?_)
            have hlt := later_time (hRl v hv) (hla v hv) hn
            rcases hb.2.2 v (List.mem_filter.2 ⟨by simp [hv], e⟩) (hRl v hv).fits with s | s
            · subst s; omega
            · exact ((time_lt (a := v) (b := u) (by omega)).trans s).irrefl
          rw [hE]
          show SamV (afterL key noVal u.act) noVal
          rw [after_reg _ hr (hR u q).fits]
          unfold valOf
          rw [if_pos r1]
          exact SamV.refl _
      · exact done (by simp [q])
end Go.Proofs.Ytdjlnpiaehoofaa
end

/- parts of other texts. By an AI agent. -/
section
set_option linter.unusedVariables false
set_option linter.unusedSimpArgs false
namespace Go.Proofs.Ytdjlnpiaehoofaa
open Go.RowKit

/-- two boxes -/
structure V2 (w W : World) (b : Bool) (x : Nat) (n : Int) (s : ByteArray) (c : Bool) (y : Nat) (m : Int) (t : ByteArray) : Prop where
  bl : Bl w W
  a : AC W w.heap.size [.bool b, .float .f64 x, .int .i64 n, .string s]
  b : AC W (w.heap.size + 1) [.bool c, .float .f64 y, .int .i64 m, .string t]
theorem V2.new (w : World) (b : Bool) (x : Nat) (n : Int) (s : ByteArray) (c : Bool) (y : Nat) (m : Int) (t : ByteArray) (T U : TypeId) {W : World}
    (hb : Bl ((w.alloc (.cells #[.bool b, .float .f64 x, .int .i64 n, .string s] T)).alloc (.cells #[.bool c, .float .f64 y, .int .i64 m, .string t] U)) W) : V2 w W b x n s c y m t := by
  have h1 := (AC.new w _ rfl [.bool b, .float .f64 x, .int .i64 n, .string s] T).keep ((Bl.refl _).alloc (.cells #[.bool c, .float .f64 y, .int .i64 m, .string t] U))
  have h2 := AC.new (w.alloc (.cells #[.bool b, .float .f64 x, .int .i64 n, .string s] T)) (w.heap.size + 1) (by simp) [.bool c, .float .f64 y, .int .i64 m, .string t] U
  exact ⟨(((Bl.refl w).alloc _).alloc _).trans hb, h1.keep hb, h2.keep hb⟩
end Go.Proofs.Ytdjlnpiaehoofaa
end

/- op.SameValue, Same. By an AI agent. -/
section
namespace Go.Proofs.Ytdjlnpiaehoofaa
open Go.RowKit


set_option maxHeartbeats 1600000 in
set_option maxRecDepth 100000 in
theorem sameV_any (a d : ValL) (w : World) (oa : a.Ok) (ob : d.Ok) :
    Calls Try.prog 13 #[a.v, d.v] w fun e w' => e = .returned (.bool (sameV a d)) ∧ Bl w w' := by
  obtain ⟨b, x, n, s⟩ := a
  obtain ⟨c, y, m, t⟩ := d
  obtain ⟨hx, _, _⟩ := oa
  obtain ⟨hy, _, _⟩ := ob
  simp only at hx hy
  show Calls Try.prog 13 #[.agg #[.bool b, .float .f64 x, .int .i64 n, .string s], .agg #[.bool c, .float .f64 y, .int .i64 m, .string t]] w _
  cases b <;> cases c
  case false.true =>
    go_enter Try.func13, Try.ntmps13
    go_wp2_with fail
    go_ret
    exact ⟨ret_bool (by simp [sameV]), ((Bl.refl w).alloc _).alloc _⟩
  case true.false =>
    go_enter Try.func13, Try.ntmps13
    go_wp2_with fail
    go_ret
    exact ⟨ret_bool (by simp [sameV]), ((Bl.refl w).alloc _).alloc _⟩
  all_goals
    go_enter Try.func13, Try.ntmps13
    go_wp2_with fail
    refine (rsameF_any x y _ hx hy).mono ?_
    rintro e w1 ⟨rfl, hb1⟩
    have G := V2.new w _ x n s _ y m t _ _ hb1
    clear hb1
    obtain ⟨a0, a1, a2, a3⟩ := G.a.val
    obtain ⟨b0, b1, b2, b3⟩ := G.b.val
    by_cases hf : fkey x = fkey y
    · have HF := Lib.hid hf
      rw [decide_eq_true hf]
      clear hf
      go_wp2_with fail
      all_goals (go_ret; refine ⟨ret_bool ?_, G.bl⟩)
      all_goals (have h1 := HF.out; simp_all [sameV])
    · have HF := Lib.hid hf
      rw [decide_eq_false hf]
      clear hf
      go_wp2_with fail
      all_goals (go_ret; refine ⟨ret_bool ?_, G.bl⟩)
      all_goals (have h1 := HF.out; simp [sameV, h1])
end Go.Proofs.Ytdjlnpiaehoofaa
end

/- op.SameValue with structs taken apart. By an AI agent. -/
section
namespace Go.Proofs.Ytdjlnpiaehoofaa
open Go.RowKit

theorem same_agg (vb : Bool) (vx : Nat) (vn : Int) (vs : ByteArray) (rb : Bool) (rx : Nat) (rn : Int) (rs : ByteArray) (r : Bool) (w : World)
    (h : Hid (sameV ⟨vb, vx, vn, vs⟩ ⟨rb, rx, rn, rs⟩ = r)) (ov : Hid (ValL.Ok ⟨vb, vx, vn, vs⟩)) (oa : Hid (ValL.Ok ⟨rb, rx, rn, rs⟩)) :
    Calls Try.prog 13 #[.agg #[.bool vb, .float .f64 vx, .int .i64 vn, .string vs], .agg #[.bool rb, .float .f64 rx, .int .i64 rn, .string rs]] w fun e w' => e = .returned (.bool r) ∧ Bl w w' := by
  refine (sameV_any ⟨vb, vx, vn, vs⟩ ⟨rb, rx, rn, rs⟩ w ov.out oa.out).mono ?_
  rintro e w' ⟨rfl, hb⟩
  rw [h.out]
  exact ⟨rfl, hb⟩
end Go.Proofs.Ytdjlnpiaehoofaa
end

/- what reads of versions that can be are; lemmas for the walks of the Fold laws. By an AI agent. -/
section
set_option linter.unusedVariables false
set_option linter.unusedSimpArgs false
namespace Go.Proofs.Ytdjlnpiaehoofaa
open Go.RowKit

theorem lastL_mem {key : ByteArray} {vs : List VerL} (hp : NoAl vs) {u : VerL} (h : lastL key vs = some u) : u ∈ vs := by
  have b := bestV_last (key := key) hp
  rw [h] at b
  exact b.1
theorem valV_ok {key : ByteArray} {vs : List VerL} (hp : NoAl vs) (h : ∀ v ∈ vs, v.act.Ok) : (valueL key vs).Ok := by
  unfold valueL
  split
  · cases hl : lastL key vs with
    | none => exact noVal_ok
    | some u => exact after_ok noVal_ok (h u (lastL_mem hp hl))
  · exact outL_ok h
theorem readL_ok {key : ByteArray} {l : List VerL} {at_ : List Int} (h : ∀ v ∈ l, v.act.Ok) : (readL key l at_).Ok := by
  unfold readL
  exact valV_ok (strict_apart (strict_filter (order_strict l) _)) (fun v hv => h v (order_mem (List.mem_filter.1 hv).1))
theorem RightL.acts {key : ByteArray} {n : Nat} {l : List VerL} (h : RightL key n l) : ∀ v ∈ l, v.act.Ok := fun v hv => (h v hv).ok
/-- the same read of what is kept -/
theorem keeps_same {key : ByteArray} {n : Nat} {l : List VerL} {floor at_ : List Int} (all : Bool) (hR : RightL key n l) (hn : floor.length = n) (ha : at_.length = n) (hl : leqL floor at_ = true) :
    sameV (readL key l at_) (readL key (dropL key l floor all) at_) = true := samV.1 (keeps all hR hn ha hl)
theorem keeps_at {key : ByteArray} {n : Nat} {l : List VerL} {floor xs : List Int} (all : Bool) (hR : RightL key n l) (hn : floor.length = n) (hx : xs.length = n) :
    sameV (readL key l (joinL floor xs)) (readL key (dropL key l floor all) (joinL floor xs)) = true := by
  have h : floor.length = xs.length := by omega
  exact keeps_same all hR hn (by rw [join_len' h]; exact hn) (leq_join1 h)
/-- what FoldTwice asks, in plain words -/
structure TwoFacts (key : ByteArray) (vs : List VerL) (floor high : List Int) (ms ps qs : List VerL) (XL XP XQ : ValL) : Prop where
  lm : ms.length ≤ vs.length
  ln : (dropL key ms floor true).length = ms.length
  lp : ps.length ≤ ms.length
  lq : qs.length ≤ vs.length
  s1 : sameV XP XQ = true
  s2 : sameV XL XP = true
  ol : XL.Ok
  op : XP.Ok
  oq : XQ.Ok
theorem two_facts {key : ByteArray} {n : Nat} {l : List VerL} {floor high : List Int} (hR : RightL key n l) (hn : floor.length = n) (ha : high.length = n) (hl : leqL floor high = true) :
    TwoFacts key l floor high (dropL key l floor true) (dropL key (dropL key l floor true) high true) (dropL key l high true) (readL key l high) (readL key (dropL key (dropL key l floor true) high true) high) (readL key (dropL key l high true) high) := by
  have hM := drop_right (floor := floor) true hR hn
  have hP := drop_right (floor := high) true hM ha
  have hQ := drop_right (floor := high) true hR ha
  have k1 := keeps (key := key) (at_ := high) true hR hn ha hl
  have k2 := keeps (key := key) (at_ := high) true hM ha ha (leq_refl high)
  have k3 := keeps (key := key) (at_ := high) true hR ha ha (leq_refl high)
  exact ⟨drop_len true hR, drop_twice hR hn, drop_len true hM, drop_len true hR, samV.1 ((k1.trans k2).symm.trans k3), samV.1 (k1.trans k2), readL_ok hR.acts, readL_ok hP.acts, readL_ok hQ.acts⟩
theorem noal_of {vs : List VerL} (h : ∀ x, x < vs.length → ∀ y, y < x → ¬ AlV (nthR vs x) (nthR vs y)) : NoAl vs :=
  List.pairwise_iff_getElem.2 fun i j hi hj hij q => by
    have := h j hj i hij
    rw [nthR_eq hi, nthR_eq hj] at this
    exact this q.symm
theorem notx_of {vs : List VerL} (h : ∀ x, x < vs.length → ∀ y, y < x → ¬ ((nthR vs x).origin = (nthR vs y).origin ∧ (nthR vs x).tx = (nthR vs y).tx)) : NoTx vs :=
  List.pairwise_iff_getElem.2 fun i j hi hj hij q => by
    have := h j hj i hij
    rw [nthR_eq hi, nthR_eq hj] at this
    exact this ⟨q.1.symm, q.2.symm⟩
/-- what FoldParts asks, in plain words -/
structure PartFacts (XM XL XN YN YL : ValL) : Prop where
  s1 : sameV XM XL = true
  s2 : sameV XN XL = true
  s3 : sameV YN YL = true
  om : XM.Ok
  ol : XL.Ok
  on : XN.Ok
  onf : YN.Ok
  olf : YL.Ok
theorem parts_facts (K : Nat) {key : ByteArray} {n : Nat} {vs : List VerL} {floor at_ : List Int} (hR : RightL key n vs) (hN : NoAl vs) (hn : floor.length = n) (ha : at_.length = n) (hl : leqL floor at_ = true) :
    PartFacts (readL key (dropL key (vs.take K) floor false ++ dropL key (vs.drop K) floor false) at_) (readL key vs at_) (readL key (dropL key (dropL key (vs.take K) floor false ++ dropL key (vs.drop K) floor false) floor true) at_) (readL key (dropL key (dropL key (vs.take K) floor false ++ dropL key (vs.drop K) floor false) floor true) floor) (readL key vs floor) := by
  have e := List.take_append_drop K vs
  have hR' : RightL key n (vs.take K ++ vs.drop K) := by rw [e]; exact hR
  have hN' : NoAl (vs.take K ++ vs.drop K) := by rw [e]; exact hN
  have hM := parts_right (floor := floor) false hR' hn
  have p1 := parts_keep hR' hN' hn ha hl
  have p2 := parts_keep hR' hN' hn hn (leq_refl floor)
  rw [e] at p1 p2
  have hNN := drop_right (floor := floor) true hM hn
  have k1 := keeps (at_ := at_) true hM hn ha hl
  have k2 := keeps (at_ := floor) true hM hn hn (leq_refl floor)
  exact ⟨samV.1 p1.symm, samV.1 (p1.trans k1).symm, samV.1 (p2.trans k2).symm, readL_ok hM.acts, readL_ok hR.acts, readL_ok hNN.acts, readL_ok hNN.acts, readL_ok hR.acts⟩
theorem leq_b (a b : Option Addr) (n m ca cb : Nat) (xs ys : List Int) (r : Bool) (w : World) (hx : IA w a n xs) (hy : IA w b m ys) (h : Hid (leqL xs ys = r)) :
    Calls Try.prog 15 #[.slice a n ca, .slice b m cb] w fun e w' => e = .returned (.bool r) ∧ Bl w w' := by
  refine (leq_any a b n m ca cb xs ys w hx hy).mono ?_
  rintro e w' ⟨rfl, rfl⟩
  exact ⟨by rw [h.out], Bl.refl _⟩
theorem SV.first {W Y : World} {v : Value} {xs : List VC} {n : Nat} (h : ∀ y ∈ xs, IA W y.ad y.n y.at_ ∧ y.act.Ok) (hl : xs.length = n) (ho : Y.ownsRow W.heap.size 35 8 v n (flat xs)) : SV W Y v xs := ⟨by rw [hl]; exact ho, h⟩
theorem fread_v (key : ByteArray) (a : Option Addr) (n ca : Nat) (vs : List VerL) (fa : Option Addr) (fn fc : Nat) (at_ : List Int) (w : World) (X : ValL) (hkey : key.size ≤ 140737488351232) (hv : VA w a n vs) (hn1 : n ≤ 1000) (hf : IA w fa fn at_) (hX : Hid (readL key vs at_ = X)) :
    Calls Try.prog 14 #[.string key, .slice a n ca, .slice fa fn fc] w fun e w' => e = .returned (ValL.v X) ∧ Bl w w' := by
  refine (fread_any key a n ca vs fa fn fc at_ w hkey hv hn1 hf).mono ?_
  rintro e w' ⟨rfl, hb⟩
  exact ⟨by rw [hX.out], hb⟩
theorem same_v (X Y : ValL) (r : Bool) (w : World) (h : Hid (sameV X Y = r)) (ox : Hid X.Ok) (oy : Hid Y.Ok) :
    Calls Try.prog 13 #[ValL.v X, ValL.v Y] w fun e w' => e = .returned (.bool r) ∧ Bl w w' := by
  refine (sameV_any X Y w ox.out oy.out).mono ?_
  rintro e w' ⟨rfl, hb⟩
  exact ⟨by rw [h.out], hb⟩
end Go.Proofs.Ytdjlnpiaehoofaa
end
