import Derived.Test.YtfjjnffifnohkaaGreatQFoldTellsUptoP25
import Derived.Test.YtfjjnffifnohkaaGreatQFoldTellsUptoP27
import Derived.Test.YtfjjnffifnohkaaGreatQFoldTellsUptoP26
import Derived.Test.YtfjjnffifnohkaaGreatQFoldTellsUptoP30
import Derived.Test.YtfjjnffifnohkaaGreatQFoldTellsUptoP15
import Derived.Deep.CutRange

/- bedrockref17.Drop (printed by gen/r17drop.py). By an AI agent. -/
section
set_option linter.unusedVariables false
set_option linter.unusedSimpArgs false
namespace Go.Proofs.YtfjjnffifnohkaaGreat
open Go.RowKit
attribute [local go_sem] eOp eOper eUpon

theorem flat_cl {w : World} : ∀ xs : List VC, (∀ x ∈ xs, IA w x.ad x.n x.at_ ∧ x.act.Ok) → CL w (flat xs) (xs.map VC.ver)
  | [], _ => .nil
  | x :: xs, h => by
    rw [flat_cons]
    exact .cons ⟨x.ad, x.n, x.ca, rfl, (h x (by simp)).1, (h x (by simp)).2⟩ (flat_cl xs (fun y hy => h y (by simp [hy])))
def bothP (key : ByteArray) (floor : List Int) (v : VerL) : Bool := !leqV floor v || fitsB key v.act
theorem goneL_take {stay : List VerL} {first : VerL} {k : Nat} (h : k < stay.length) : (stay.take (k + 1)).any (fun v => decide (orderL first v < 0)) = ((stay.take k).any (fun v => decide (orderL first v < 0)) || decide (orderL first (nthR stay k) < 0)) := by
  rw [take_nthR h, List.any_append]; simp
/-- the one version, as far as it is -/
structure RX (key : ByteArray) (vs : List VerL) (w W : World) (g l c : Nat) (y : VC) : Prop where
  hi : c ≤ l
  is_ : y.ver = oneL key (vs.drop c).reverse
  ok : y.act.Ok
  kk : y.key = key
  og : y.origin = 254
  vec : FI w.heap.size W (.slice y.ad y.n y.ca) y.at_
  ne : ∀ b, (Value.slice y.ad y.n y.ca).ownBlock = some b → b ≠ g
  out : AC W g (verC y.key y.ad y.n y.ca y.origin y.tx y.act.k y.act.x y.act.n y.act.s)
  bl : Bl w W
  lo : w.heap.size ≤ g
theorem RX.keep {key : ByteArray} {vs : List VerL} {w W W' : World} {g l c : Nat} {y : VC} (h : RX key vs w W g l c y) (k : Bl W W') : RX key vs w W' g l c y := ⟨h.hi, h.is_, h.ok, h.kk, h.og, h.vec.keep k, h.ne, h.out.keep k, h.bl.trans k, h.lo⟩
set_option maxHeartbeats 12800000 in
set_option maxRecDepth 100000 in
theorem rdrop17_any (key : ByteArray) (a : Option Addr) (n ca : Nat) (vs : List VerL) (fa : Option Addr) (fn fc : Nat) (floor : List Int) (all : Bool) (w : World) (hkey : key.size ≤ 140737488351232) (hv : VA w a n vs) (hn1 : n ≤ 900) (hf : IA w fa fn floor) :
    Calls Tryz.prog 12 #[.string key, .slice a n ca, .slice fa fn fc, .bool all] w fun e w' => ∃ a' m ca', e = .returned (.slice a' m ca') ∧ VA w' a' m (dropL key vs floor all) ∧ m ≤ 1000 ∧ Bl w w' := by
  have hsf := store_fl
  go_enter Tryz.func12, Tryz.ntmps12
  go_wp2_with fail
  refine (rorder17_any a n ca vs _ hv (by omega)).mono ?_
  rintro e W0 ⟨a0, m, c0, rfl, hv0, hmn0, hb0⟩
  have HW := Lib.hid hb0
  have HF := Lib.hid (hf.keep hb0)
  have hmn : m ≤ 900 := by omega
  have HD := Lib.hid (show dropL key vs floor all = rdropO key (orderOf vs) floor all by unfold dropL; rw [rdrop_eq (order_strict vs)])
  obtain ⟨os, hos⟩ : ∃ os, orderOf vs = os := ⟨_, rfl⟩
  rw [hos] at hv0 HD
  have HL := Lib.hid hv0.len
  have HV0 := Lib.hid hv0
  clear hb0 hf hos hv hv0
  obtain ⟨kb, hkb⟩ : ∃ kb, isKeyB key = kb := ⟨_, rfl⟩
  obtain ⟨fb, hfb⟩ : ∃ fb, validL floor = fb := ⟨_, rfl⟩
  have HKB := Lib.hid hkb
  have HFB := Lib.hid hfb
  clear hkb hfb
  go_wp2_with fail
  refine (refIsKey_any key _ hkey).mono ?_
  rintro e w1 ⟨rfl, rfl⟩
  rw [HKB.out]
  cases kb
  case false =>
    have HO := Lib.hid (show dropL key vs floor all = os by rw [HD.out]; unfold rdropO; rw [HKB.out]; rfl)
    go_wp2_with fail
    go_ret
    exact ⟨a0, m, c0, rfl, by rw [HO.out]; exact HV0.out, by omega, HW.out⟩
  case true =>
  go_wp2_with fail
  refine (rvalid_any fa fn fc floor _ HF.out).mono ?_
  rintro e w1 ⟨rfl, rfl⟩
  rw [HFB.out]
  cases fb
  case false =>
    have HO := Lib.hid (show dropL key vs floor all = os by rw [HD.out]; unfold rdropO; rw [HKB.out, HFB.out]; rfl)
    go_wp2_with fail
    go_ret
    exact ⟨a0, m, c0, rfl, by rw [HO.out]; exact HV0.out, by omega, HW.out⟩
  case true =>
  have HO := Lib.hid (show ∀ first rest, seenL key floor os = first :: rest → dropL key vs floor all = if regB key then (if goneL (stayL floor os) first floor all then stayL floor os else mergedL first os (stayL floor os)) else if all && decide (rest ≠ []) then stayL floor os ++ [oneL key (first :: rest).reverse] else os.filter (bothP key floor) by
    intro first rest hq
    rw [HD.out]; unfold rdropO; rw [HKB.out, HFB.out, hq]; rfl)
  have HON := Lib.hid (show seenL key floor os = [] → dropL key vs floor all = stayL floor os by
    intro hq
    rw [HD.out]; unfold rdropO; rw [HKB.out, HFB.out, hq]; rfl)
  clear HD
  go_wp2_with fail
  go_loopw [9, 10, 11] (fun sv ev iv wr => ∃ (k : Nat) (xs ys : List VC), k ≤ m ∧ xs.map VC.ver = stayL floor (os.take k) ∧ ys.map VC.ver = seenL key floor (os.take k) ∧ DR W0 wr sv ev xs ys ∧ iv = .int .i64 (k : Int)) (fun _ _ iv _ => m - (intOf iv).toNat)
  case atStart => exact ⟨0, [], [], Nat.zero_le _, by rw [List.take_zero]; rfl, by rw [List.take_zero]; rfl, DR.nil (Bl.refl _), by go_num⟩
  case round =>
    obtain ⟨k, xs, ys, hk, hm1, hm2, hdr, rfl⟩ := hrel
    have HM1 := Lib.hid hm1
    have HM2 := Lib.hid hm2
    have HR := Lib.hid hdr
    have hxl : xs.length ≤ k := by
      have h1 := congrArg List.length HM1.out
      rw [List.length_map] at h1
      have h2 := List.length_filter_le (fun v => !leqV floor v) (os.take k)
      rw [List.length_take] at h2
      unfold stayL at h1
      omega
    have hyl : ys.length ≤ k := by
      have h1 := congrArg List.length HM2.out
      rw [List.length_map] at h1
      have h2 := List.length_filter_le (fun v => leqV floor v && fitsB key v.act) (os.take k)
      rw [List.length_take] at h2
      unfold seenL at h1
      omega
    clear hm1 hm2 hdr
    by_cases hlt : k < m
    case pos =>
      obtain ⟨b, off, rfl, hc⟩ := HV0.out.cells k hlt
      have E0 := hc k hlt
      clear hc
      have HT1 := Lib.hid (take_filter (fun v => !leqV floor v) os _ k (take_nthR (vs := os) (k := k) (by rw [HL.out]; exact hlt)))
      have HT2 := Lib.hid (take_filter (fun v => leqV floor v && fitsB key v.act) os _ k (take_nthR (vs := os) (k := k) (by rw [HL.out]; exact hlt)))
      obtain ⟨V, hV⟩ : ∃ V, nthR os k = V := ⟨_, rfl⟩
      rw [hV] at E0 HT1 HT2
      clear hV
      obtain ⟨va, vn, vc, e1', hI⟩ := E0.at_
      have HVE := Lib.hid E0
      have HV1 := Lib.hid e1'
      have HVI := Lib.hid hI
      have HVA := Lib.hid E0.ok
      clear E0 e1' hI
      have e1 := HR.out.bl.cell HV1.out
      obtain ⟨r, hr⟩ : ∃ r, leqL V.at_ floor = r := ⟨_, rfl⟩
      have HRR := Lib.hid hr
      clear hr
      go_wp2_with fail
      clear e1
      refine (rleq_any va fa vn fn vc fc V.at_ floor _ (HVI.out.keep HR.out.bl) (HF.out.keep HR.out.bl)).mono ?_
      rintro e w2 ⟨rfl, hb2⟩
      rw [HRR.out]
      have HDA := Lib.hid (HR.out.keep hb2)
      have HBA := Lib.hid HDA.out.bl
      clear hb2 HR
      cases r
      case false =>
        have HN1 := Lib.hid (show stayL floor (os.take (k + 1)) = stayL floor (os.take k) ++ [V] by unfold stayL; rw [HT1.out]; exact if_pos (by show (!leqL V.at_ floor) = true; rw [HRR.out]; rfl))
        have HN2 := Lib.hid (show seenL key floor (os.take (k + 1)) = seenL key floor (os.take k) by unfold seenL; rw [HT2.out]; exact if_neg (by show ¬ (leqL V.at_ floor && fitsB key V.act) = true; rw [HRR.out, Bool.false_and]; decide))
        clear HT1 HT2 HRR
        have e_ := HVE.out.keep HBA.out
        have e0 := e_.c0
        have e2 := e_.c2
        have e3 := e_.c3
        have e4 := e_.c4
        have e5 := e_.c5
        have e6 := e_.c6
        have e7 := e_.c7
        have e1 := HBA.out.cell HV1.out
        clear e_
        have HSB := Lib.hid (HDA.out.keep ((Bl.refl w2).alloc (.cells #[.string V.key, .slice va vn vc, .int .i64 V.origin, .int .i64 V.tx, .int .i64 V.act.k, .float .f64 V.act.x, .int .i64 V.act.n, .string V.act.s] 59)))
        have HLT := Lib.hid (SG.lit (heap_alloc_new w2 (.cells #[.string V.key, .slice va vn vc, .int .i64 V.origin, .int .i64 V.tx, .int .i64 V.act.k, .float .f64 V.act.x, .int .i64 V.act.n, .string V.act.s] 59)) (show [.string V.key, .slice va vn vc, .int .i64 V.origin, .int .i64 V.tx, .int .i64 V.act.k, .float .f64 V.act.x, .int .i64 V.act.n, .string V.act.s].length = 1 * 8 from rfl) (by simp [Value.oneCell']))
        go_wp2_with (at_builtin; refine wpList_appK rfl _ _ _ rfl el_vr W0.heap.size _ _ _ rfl HSB.out.st.own HSB.out.bl.size _ 1 1 _ rfl HLT.out ?cM ?cN ?_)
        case cM => unfold maxLen; omega
        case cN => omega
        intro vq w3 ho3 hg3 hz1 hz2
        have HS3 := Lib.hid (HSB.out.push1 (y := ⟨V.key, va, vn, vc, V.at_, V.origin, V.tx, V.act⟩) HVI.out HVA.out ho3 hg3 (by intro b e; have := hz2 b e; simpa using this))
        clear hz1 hz2 ho3 hg3 HSB HLT
        clear e0 e1 e2 e3 e4 e5 e6 e7 HDA HBA
        go_wp2_with fail
        go_roundw
        case rel => exact ⟨k + 1, xs ++ [⟨V.key, va, vn, vc, V.at_, V.origin, V.tx, V.act⟩], ys, by omega, by rw [List.map_append, HM1.out, HN1.out]; rfl, by rw [HM2.out, HN2.out], HS3.out, by go_num⟩
        case measure => simp [intOf]; omega
      case true =>
        have HN1 := Lib.hid (show stayL floor (os.take (k + 1)) = stayL floor (os.take k) by unfold stayL; rw [HT1.out]; exact if_neg (by show ¬ (!leqL V.at_ floor) = true; rw [HRR.out]; decide))
        obtain ⟨ff, hff⟩ : ∃ ff, fitsB key ⟨V.act.k, V.act.x, V.act.n, V.act.s⟩ = ff := ⟨_, rfl⟩
        have HFF := Lib.hid hff
        clear hff
        have e_ := HVE.out.keep HBA.out
        have e0 := e_.c0
        have e2 := e_.c2
        have e3 := e_.c3
        have e4 := e_.c4
        have e5 := e_.c5
        have e6 := e_.c6
        have e7 := e_.c7
        have e1 := HBA.out.cell HV1.out
        clear e_
        go_wp2_with fail
        clear e0 e1 e2 e3 e4 e5 e6 e7
        refine (refFits_agg key V.act.k V.act.x V.act.n V.act.s ff _ HFF hkey HVA).mono ?_
        rintro e w4 ⟨rfl, hb2⟩
        have HDB := Lib.hid (HDA.out.keep hb2)
        have HBB := Lib.hid HDB.out.bl
        clear hb2 HDA HBA
        cases ff
        case false =>
          have HN2 := Lib.hid (show seenL key floor (os.take (k + 1)) = seenL key floor (os.take k) by unfold seenL; rw [HT2.out]; exact if_neg (by show ¬ (leqL V.at_ floor && fitsB key V.act) = true; rw [HRR.out, show fitsB key V.act = false from HFF.out]; decide))
          go_wp2_with fail
          go_roundw
          case rel => exact ⟨k + 1, xs, ys, by omega, by rw [HM1.out, HN1.out], by rw [HM2.out, HN2.out], HDB.out, by go_num⟩
          case measure => simp [intOf]; omega
        case true =>
          have HN2 := Lib.hid (show seenL key floor (os.take (k + 1)) = seenL key floor (os.take k) ++ [V] by unfold seenL; rw [HT2.out]; exact if_pos (by show (leqL V.at_ floor && fitsB key V.act) = true; rw [HRR.out, show fitsB key V.act = true from HFF.out]; rfl))
          clear HT1 HT2 HRR HFF
          have e_ := HVE.out.keep HBB.out
          have e0 := e_.c0
          have e2 := e_.c2
          have e3 := e_.c3
          have e4 := e_.c4
          have e5 := e_.c5
          have e6 := e_.c6
          have e7 := e_.c7
          have e1 := HBB.out.cell HV1.out
          clear e_
          have HSB := Lib.hid (HDB.out.keep ((Bl.refl w4).alloc (.cells #[.string V.key, .slice va vn vc, .int .i64 V.origin, .int .i64 V.tx, .int .i64 V.act.k, .float .f64 V.act.x, .int .i64 V.act.n, .string V.act.s] 59)))
          have HLT := Lib.hid (SG.lit (heap_alloc_new w4 (.cells #[.string V.key, .slice va vn vc, .int .i64 V.origin, .int .i64 V.tx, .int .i64 V.act.k, .float .f64 V.act.x, .int .i64 V.act.n, .string V.act.s] 59)) (show [.string V.key, .slice va vn vc, .int .i64 V.origin, .int .i64 V.tx, .int .i64 V.act.k, .float .f64 V.act.x, .int .i64 V.act.n, .string V.act.s].length = 1 * 8 from rfl) (by simp [Value.oneCell']))
          go_wp2_with (at_builtin; refine wpList_appK rfl _ _ _ rfl el_vr W0.heap.size _ _ _ rfl HSB.out.se.own HSB.out.bl.size _ 1 1 _ rfl HLT.out ?cM ?cN ?_)
          case cM => unfold maxLen; omega
          case cN => omega
          intro vq w3 ho3 hg3 hz1 hz2
          have HS3 := Lib.hid (HSB.out.push2 (y := ⟨V.key, va, vn, vc, V.at_, V.origin, V.tx, V.act⟩) HVI.out HVA.out ho3 hg3 (by intro b e; have := hz2 b e; simpa using this))
          clear hz1 hz2 ho3 hg3 HSB HLT
          clear e0 e1 e2 e3 e4 e5 e6 e7 HDB HBB
          go_wp2_with fail
          go_roundw
          case rel => exact ⟨k + 1, xs, ys ++ [⟨V.key, va, vn, vc, V.at_, V.origin, V.tx, V.act⟩], by omega, by rw [HM1.out, HN1.out], by rw [List.map_append, HM2.out, HN2.out]; rfl, HS3.out, by go_num⟩
          case measure => simp [intOf]; omega
    case neg =>
    obtain ⟨w1, rfl⟩ : ∃ x, x = wr := ⟨_, rfl⟩
    have HX := Lib.hid (show xs.map VC.ver = stayL floor os by rw [HM1.out, List.take_of_length_le (by rw [HL.out]; omega)])
    have HY := Lib.hid (show ys.map VC.ver = seenL key floor os by rw [HM2.out, List.take_of_length_le (by rw [HL.out]; omega)])
    obtain ⟨xn, hxn⟩ : ∃ xn, xs.length = xn := ⟨_, rfl⟩
    obtain ⟨yn, hyn⟩ : ∃ yn, ys.length = yn := ⟨_, rfl⟩
    have hxb : xn ≤ 900 := by omega
    have hyb : yn ≤ 900 := by omega
    obtain ⟨sa, sc, rfl, hva⟩ := HR.out.st.va HR.out.bl hxn (by omega)
    obtain ⟨ea, ec, rfl, hvb⟩ := HR.out.se.va HR.out.bl hyn (by omega)
    have HVS := Lib.hid (show VA w1 sa xn (stayL floor os) from HX.out ▸ hva)
    have HVQ := Lib.hid (show VA w1 ea yn (seenL key floor os) from HY.out ▸ hvb)
    have HXN := Lib.hid hxn
    have HYN := Lib.hid hyn
    have HWR := Lib.hid (HW.out.trans HR.out.bl)
    have HFR := Lib.hid (HF.out.keep HR.out.bl)
    have HV1 := Lib.hid (HV0.out.keep HR.out.bl)
    clear hva hvb hxn hyn HM1 HM2 hxl hyl hk HV0 HF
    obtain ⟨stay, hst⟩ : ∃ stay, stayL floor os = stay := ⟨_, rfl⟩
    obtain ⟨seen, hse⟩ : ∃ seen, seenL key floor os = seen := ⟨_, rfl⟩
    rw [hst] at HVS HX
    rw [hse] at HVQ HY
    rw [hst, hse] at HO HON
    clear hst hse
    by_cases hy0 : yn = 0
    · subst hy0
      have HE := Lib.hid (HON.out (List.eq_nil_of_length_eq_zero HVQ.out.len))
      go_wp2_with fail
      go_ret
      exact ⟨sa, xn, sc, rfl, by rw [HE.out]; exact HVS.out, by omega, HWR.out⟩
    have q0 : ((yn : Int) == 0) = false := by rw [beq_eq_false_iff_ne]; omega
    obtain ⟨first, rest, hfr⟩ : ∃ first rest, seen = first :: rest := by
      cases hs : seen with
      | nil => have := HVQ.out.len; rw [hs] at this; simp at this; omega
      | cons f r => exact ⟨f, r, rfl⟩
    have HE := Lib.hid (HO.out first rest hfr)
    subst hfr
    clear HO HON
    have HH := Lib.hid (hd_get (key_pos HKB.out))
    have hkp := key_pos HKB.out
    obtain ⟨rb, hrb⟩ : ∃ rb, regB key = rb := ⟨_, rfl⟩
    have HRB := Lib.hid hrb
    clear hrb
    go_upto_region 14 with fail
    go_cut [78] from 71 to 78 (fun s W => s = .bool rb ∧ w1 = W)
    case first =>
      go_wp2_with fail
      · rename_i h
        go_meet
        case rel =>
          refine ⟨congrArg Value.bool ?_, rfl⟩
          have h2 : hd key = 114 := by rw [← HH.out]; omega
          rw [← HRB.out]; unfold regB; rw [h2]; rfl
      · rename_i h
        go_meet
        case rel =>
          refine ⟨congrArg Value.bool ?_, rfl⟩
          rw [← HRB.out]; unfold regB; rw [← HH.out, Bool.eq_iff_iff]
          simp only [Bool.or_eq_true, beq_iff_eq, decide_eq_true_eq]
          omega
    case rest =>
    obtain ⟨rfl, rfl⟩ := hcut
    clear HH hkp
    cases rb
    case true =>
      obtain ⟨b2, off2, rfl, hc⟩ := HVQ.out.cells 0 (by omega)
      have E0 := hc 0 (by omega)
      clear hc
      rw [show nthR (first :: rest) 0 = first from rfl, Nat.zero_mul, Nat.add_zero] at E0
      obtain ⟨va, vn, vc, e1', hI⟩ := E0.at_
      have HVI := Lib.hid hI
      have HVE := Lib.hid E0
      have HVA := Lib.hid E0.ok
      have HVC := Lib.hid e1'
      clear E0 e1' hI
      have hfn : 0 < fn := by
        have h1 := HFB.out
        have h2 := HFR.out.len
        cases hq : floor with
        | nil => rw [hq] at h1; exact absurd h1 (by decide)
        | cons x l => rw [hq] at h2; simp at h2; omega
      have HE2 := Lib.hid (show dropL key vs floor all = if goneL stay first floor all = true then stay else mergedL first os stay by rw [HE.out, HRB.out]; rfl)
      clear HE
      have HB1 := Lib.hid (Bl.refl w1)
      have HBX : Hid (AC (w1.alloc (.cells #[.string first.key, .slice va vn vc, .int .i64 first.origin, .int .i64 first.tx, .int .i64 first.act.k, .float .f64 first.act.x, .int .i64 first.act.n, .string first.act.s] 59)) w1.heap.size (verC first.key va vn vc first.origin first.tx first.act.k first.act.x first.act.n first.act.s)) := Lib.hid (AC.new w1 w1.heap.size rfl [.string first.key, .slice va vn vc, .int .i64 first.origin, .int .i64 first.tx, .int .i64 first.act.k, .float .f64 first.act.x, .int .i64 first.act.n, .string first.act.s] 59)
      have HB2 := Lib.hid ((Bl.refl w1).alloc (.cells #[.string first.key, .slice va vn vc, .int .i64 first.origin, .int .i64 first.tx, .int .i64 first.act.k, .float .f64 first.act.x, .int .i64 first.act.n, .string first.act.s] 59))
      have e_ := HVE.out.keep HB1.out
      have e0 := e_.c0
      have e2 := e_.c2
      have e3 := e_.c3
      have e4 := e_.c4
      have e5 := e_.c5
      have e6 := e_.c6
      have e7 := e_.c7
      have e1 := HB1.out.cell HVC.out
      clear e_
      go_upto_region 16 with fail
      clear e0 e1 e2 e3 e4 e5 e6 e7
      generalize w1.alloc _ = w2 at *
      generalize w1.heap.size = gx at *
      obtain ⟨g0, hg0⟩ : ∃ b, (all && (decide (first.act.k = 4) && decide (timeL first ≤ minV floor))) = b := ⟨_, rfl⟩
      have HG0 := Lib.hid hg0
      clear hg0
      go_cut [13] from 82 to 95 (fun s W => s = .bool g0 ∧ Bl w2 W)
      case first =>
        cases all
        case false =>
          go_wp2_with fail
          go_meet
          case rel => exact ⟨by rw [← HG0.out]; rfl, Bl.refl _⟩
        case true =>
        obtain ⟨e0, e1, e2, e3, e4, e5, e6, e7⟩ := AC.ver HBX.out
        by_cases h4 : first.act.k = 4
        case neg =>
          have q4 : (first.act.k == 4) = false := by rw [beq_eq_false_iff_ne]; exact h4
          go_wp2_with fail
          go_meet
          case rel => exact ⟨by rw [← HG0.out, decide_eq_false h4]; rfl, Bl.refl _⟩
        have q4 : (first.act.k == 4) = true := by rw [beq_iff_eq]; exact h4
        obtain ⟨T, hT⟩ : ∃ T, timeL first = T := ⟨_, rfl⟩
        have HT := Lib.hid hT
        have HG1 := Lib.hid (show decide (T ≤ minV floor) = g0 by rw [← HG0.out, decide_eq_true h4, hT]; rfl)
        clear hT h4
        go_wp2_with fail
        refine (rtime_any first va vn vc T w2 (HVI.out.keep HB2.out) HT).mono ?_
        rintro e w3 ⟨rfl, hb3⟩
        have HB3 := Lib.hid hb3
        clear hb3 e0 e1 e2 e3 e4 e5 e6 e7
        go_wp2_with fail
        refine (least17_any fa fn fc floor _ (HFR.out.keep (HB2.out.trans HB3.out)) hfn).mono ?_
        rintro e w4 ⟨rfl, rfl⟩
        go_wp2_with fail
        go_meet
        case rel => exact ⟨congrArg Value.bool HG1.out, HB3.out⟩
      case rest =>
      obtain ⟨rfl, hbc⟩ := hcut
      obtain ⟨w5, rfl⟩ : ∃ x, x = wc := ⟨_, rfl⟩
      have HB5 := Lib.hid (HB2.out.trans hbc)
      have HX5 := Lib.hid (HBX.out.keep hbc)
      have HVS5 := Lib.hid (HVS.out.keep HB5.out)
      have HVI5 := Lib.hid (HVI.out.keep HB5.out)
      have HGE := Lib.hid (show goneL stay first floor all = (g0 && !stay.any (fun v => decide (orderL first v < 0))) by
        rw [← HG0.out]; unfold goneL; rw [Bool.and_assoc, Bool.and_assoc])
      clear hbc HBX HB2 HB1 HG0
      go_wp2_with fail
      go_loopw [13, 14] (fun gv iv wr => ∃ (k : Nat) (b : Bool), k ≤ xn ∧ iv = .int .i64 (k : Int) ∧ gv = .bool b ∧ b = (g0 && !(stay.take k).any (fun v => decide (orderL first v < 0))) ∧ Bl w5 wr) (fun _ iv _ => xn - (intOf iv).toNat)
      case atStart => exact ⟨0, g0, Nat.zero_le _, by go_num, rfl, by simp, Bl.refl _⟩
      case round =>
        obtain ⟨k, b, hk, rfl, rfl, hb, hbw⟩ := hrel
        have HBK := Lib.hid hb
        have HBW := Lib.hid hbw
        clear hb hbw
        by_cases hlt2 : k < xn
        case pos =>
          have HST := Lib.hid (goneL_take (stay := stay) (first := first) (k := k) (by rw [HVS5.out.len]; exact hlt2))
          cases b
          case false =>
            have HN := Lib.hid (show false = (g0 && !(stay.take (k + 1)).any (fun v => decide (orderL first v < 0))) by
              have h := HBK.out
              rw [HST.out]
              revert h
              generalize (stay.take k).any _ = A
              generalize decide (orderL first (nthR stay k) < 0) = X
              cases g0 <;> cases A <;> cases X <;> simp)
            go_upto_region 20 with fail
            refine wp_region_allS (by kernel_rfl) (by kernel_rfl) ?_
            have HDR := Lib.hid ((Bl.refl wr).drew)
            have HWZ := Lib.hid (HBW.out.trans HDR.out)
            generalize World.drew wr = Z at *
            repeat (refine wpS_step (fun K hK => ?_); go_simp; refine hK _ ?_; clear hK K)
            refine wpS_nil ?_
            intro q1
            have HW8 := Lib.hid (HWZ.out.trans q1.bl)
            have HWA := Lib.hid (HDR.out.trans q1.bl)
            clear HWZ HDR  
            generalize ExtC.at q1 = W8 at *
            go_wp2_with fail
            go_roundw
            case rel => exact ⟨k + 1, false, by omega, by go_num, rfl, HN.out, HW8.out⟩
            case measure => simp [intOf]; omega
          case true =>
          obtain ⟨b3, off3, rfl, hc⟩ := HVS5.out.cells k hlt2
          have E0 := hc k hlt2
          clear hc
          obtain ⟨U, hU⟩ : ∃ U, nthR stay k = U := ⟨_, rfl⟩
          rw [hU] at E0 HST
          clear hU
          obtain ⟨ua, un, uc, e1', hI⟩ := E0.at_
          have HUE := Lib.hid E0
          have HU1 := Lib.hid e1'
          have HUI := Lib.hid hI
          have HUA := Lib.hid E0.ok
          clear E0 e1' hI
          obtain ⟨r, hr⟩ : ∃ r, decide (orderL first U < 0) = r := ⟨_, rfl⟩
          have HRR := Lib.hid hr
          clear hr
          have HN := Lib.hid (show (!r) = (g0 && !(stay.take (k + 1)).any (fun v => decide (orderL first v < 0))) by
            have h := HBK.out
            rw [HST.out, HRR.out]
            revert h
            generalize (stay.take k).any _ = A
            cases g0 <;> cases A <;> cases r <;> simp)
          go_upto_region 20 with fail
          refine wp_region_allS (by kernel_rfl) (by kernel_rfl) ?_
          have HDR := Lib.hid ((Bl.refl wr).drew)
          have HWZ := Lib.hid (HBW.out.trans HDR.out)
          generalize World.drew wr = Z at *
          obtain ⟨p0, p1, p2, p3, p4, p5, p6, p7⟩ := (HUE.out.keep HWZ.out).all (HWZ.out.cell HU1.out)
          obtain ⟨t0, t1, t2, t3, t4, t5, t6, t7⟩ : (∀ n : Ext Z, _) ∧ (∀ n : Ext Z, _) ∧ (∀ n : Ext Z, _) ∧ (∀ n : Ext Z, _) ∧ (∀ n : Ext Z, _) ∧ (∀ n : Ext Z, _) ∧ (∀ n : Ext Z, _) ∧ (∀ n : Ext Z, _) :=
            ⟨fun n => (AC.ver (HX5.out.keep (HWZ.out.trans n.bl))).1, fun n => (AC.ver (HX5.out.keep (HWZ.out.trans n.bl))).2.1, fun n => (AC.ver (HX5.out.keep (HWZ.out.trans n.bl))).2.2.1, fun n => (AC.ver (HX5.out.keep (HWZ.out.trans n.bl))).2.2.2.1, fun n => (AC.ver (HX5.out.keep (HWZ.out.trans n.bl))).2.2.2.2.1, fun n => (AC.ver (HX5.out.keep (HWZ.out.trans n.bl))).2.2.2.2.2.1, fun n => (AC.ver (HX5.out.keep (HWZ.out.trans n.bl))).2.2.2.2.2.2.1, fun n => (AC.ver (HX5.out.keep (HWZ.out.trans n.bl))).2.2.2.2.2.2.2⟩
          have H1 := Lib.hid (fun q : Ext Z => later_any first U va ua vn un vc uc r q.at (HVI5.out.keep (HWZ.out.trans q.bl)) (HUI.out.keep (HWZ.out.trans q.bl)) HRR)
          repeat (refine wpS_step (fun K hK => ?_); go_simp; first | (refine hK _ ?_; clear hK K) | (apply Exists.intro; refine ⟨fun q => ?_, hK _ ?_⟩; (first | with_reducible exact H1.out q); clear hK K))
          refine wpS_nil ?_
          intro q1
          have HW8 := Lib.hid (HWZ.out.trans q1.bl)
          have HWA := Lib.hid (HDR.out.trans q1.bl)
          clear HWZ HDR p0 p1 p2 p3 p4 p5 p6 p7 t0 t1 t2 t3 t4 t5 t6 t7 H1
          generalize ExtC.at q1 = W8 at *
          go_wp2_with fail
          go_roundw
          case rel => exact ⟨k + 1, !r, by omega, by go_num, rfl, HN.out, HW8.out⟩
          case measure => simp [intOf]; omega
        case neg =>
        have HGB := Lib.hid (show goneL stay first floor all = b by rw [HGE.out, HBK.out, List.take_of_length_le (by rw [HVS5.out.len]; omega)])
        cases b
        case true =>
          have HO := Lib.hid (show dropL key vs floor all = stay by rw [HE2.out, HGB.out]; rfl)
          go_wp2_with fail
          go_ret
          exact ⟨sa, xn, sc, rfl, by rw [HO.out]; exact HVS5.out.keep HBW.out, by omega, HWR.out.trans (HB5.out.trans HBW.out)⟩
        case false =>
        have HO := Lib.hid (show dropL key vs floor all = mergedL first os stay by rw [HE2.out, HGB.out]; rfl)
        have HXW := Lib.hid (HX5.out.keep HBW.out)
        obtain ⟨e0, e1, e2, e3, e4, e5, e6, e7⟩ := AC.ver HXW.out
        go_wp2_with fail
        refine (merged17_any sa xn sc stay first va vn vc a0 m c0 os wr (HVS5.out.keep HBW.out) (HVI5.out.keep HBW.out) (HV1.out.keep (HB5.out.trans HBW.out)) (by omega)).mono ?_
        rintro e w6 ⟨ma, mn, mc, rfl, hvm, hml, hb6⟩
        have HVM := Lib.hid hvm
        have HB6 := Lib.hid (HWR.out.trans (HB5.out.trans (HBW.out.trans hb6)))
        clear hvm hb6 e0 e1 e2 e3 e4 e5 e6 e7
        go_wp2_with fail
        go_ret
        exact ⟨ma, mn, mc, rfl, by rw [HO.out]; exact HVM.out, by omega, HB6.out⟩
    case false =>
    have HYN1 := Lib.hid (show yn = rest.length + 1 by have := HVQ.out.len; simp at this; omega)
    obtain ⟨z, hz⟩ : ∃ z, (!all || decide (yn = 1)) = z := ⟨_, rfl⟩
    have HZ := Lib.hid hz
    clear hz
    go_upto_region 24 with fail
    go_cut [124] from 118 to 124 (fun s W => s = .bool z ∧ w1 = W)
    case first =>
      cases all
      case false =>
        go_wp2_with fail
        go_meet
        case rel => exact ⟨congrArg Value.bool HZ.out, rfl⟩
      case true =>
        have HZ2 := Lib.hid (show decide (yn = 1) = z from HZ.out)
        by_cases h1 : yn = 1
        · have q1 : ((yn : Int) == 1) = true := by rw [beq_iff_eq]; omega
          have HZ3 := Lib.hid (show true = z by rw [← HZ2.out]; exact (decide_eq_true h1).symm)
          clear h1
          go_wp2_with fail
          go_meet
          case rel => exact ⟨congrArg Value.bool HZ3.out, rfl⟩
        · have q1 : ((yn : Int) == 1) = false := by rw [beq_eq_false_iff_ne]; omega
          have HZ3 := Lib.hid (show false = z by rw [← HZ2.out]; exact (decide_eq_false h1).symm)
          clear h1
          go_wp2_with fail
          go_meet
          case rel => exact ⟨congrArg Value.bool HZ3.out, rfl⟩
    case rest =>
    obtain ⟨rfl, rfl⟩ := hcut
    cases z
    case true =>
      have HO := Lib.hid (show dropL key vs floor all = os.filter (bothP key floor) by
        rw [HE.out, HRB.out, if_neg (by decide), if_neg]
        intro h
        rw [Bool.and_eq_true, decide_eq_true_eq] at h
        have hz := HZ.out
        rw [h.1] at hz
        simp at hz
        exact h.2 (List.eq_nil_of_length_eq_zero (by have := HYN1.out; omega)))
      clear HE HZ
      go_wp2_with fail
      go_loopw [15, 16] (fun ov iv wr => ∃ (k : Nat) (zs : List VC), k ≤ m ∧ zs.map VC.ver = (os.take k).filter (bothP key floor) ∧ SV w1 wr ov zs ∧ Bl w1 wr ∧ iv = .int .i64 (k : Int)) (fun _ iv _ => m - (intOf iv).toNat)
      case atStart => exact ⟨0, [], Nat.zero_le _, by rw [List.take_zero]; rfl, SV.nil _ _, Bl.refl _, by go_num⟩
      case round =>
        obtain ⟨k, zs, hk, hm, hsv, hbw, rfl⟩ := hrel
        have HM := Lib.hid hm
        have HS := Lib.hid hsv
        have HB := Lib.hid hbw
        have hxl : zs.length ≤ k := by
          have h1 := congrArg List.length HM.out
          rw [List.length_map] at h1
          have h2 := List.length_filter_le (bothP key floor) (os.take k)
          rw [List.length_take] at h2
          omega
        clear hm hsv hbw
        by_cases hlt3 : k < m
        case neg =>
          have HFI := Lib.hid (show zs.map VC.ver = os.filter (bothP key floor) by rw [HM.out, List.take_of_length_le (by rw [HL.out]; omega)])
          obtain ⟨zn, hzn⟩ : ∃ zn, zs.length = zn := ⟨_, rfl⟩
          obtain ⟨za, zc, rfl, hva⟩ := HS.out.va HB.out hzn (by omega)
          have HVZ := Lib.hid (HFI.out ▸ hva)
          clear hva
          go_wp2_with fail
          go_ret
          exact ⟨za, zn, zc, rfl, by rw [HO.out]; exact HVZ.out, by omega, HWR.out.trans HB.out⟩
        obtain ⟨b, off, rfl, hc⟩ := HV1.out.cells k hlt3
        have E0 := hc k hlt3
        clear hc
        have HT := Lib.hid (take_filter (bothP key floor) os _ k (take_nthR (vs := os) (k := k) (by rw [HL.out]; exact hlt3)))
        obtain ⟨V, hV⟩ : ∃ V, nthR os k = V := ⟨_, rfl⟩
        rw [hV] at E0 HT
        clear hV
        obtain ⟨va, vn, vc, e1', hI⟩ := E0.at_
        have HVE := Lib.hid E0
        have HVC := Lib.hid e1'
        have HVI := Lib.hid hI
        have HVA := Lib.hid E0.ok
        have e1 := HB.out.cell e1'
        clear E0 e1' hI
        obtain ⟨r, hr⟩ : ∃ r, leqL V.at_ floor = r := ⟨_, rfl⟩
        have HRR := Lib.hid hr
        clear hr
        go_wp2_with fail
        clear e1
        refine (rleq_any va fa vn fn vc fc V.at_ floor _ (HVI.out.keep HB.out) (HFR.out.keep HB.out)).mono ?_
        rintro e w2 ⟨rfl, hb2⟩
        rw [HRR.out]
        have HSA := Lib.hid (HS.out.keep hb2)
        have HBA := Lib.hid (HB.out.trans hb2)
        clear HS HB hb2
        cases r
        case false =>
          have HN := Lib.hid (show (os.take (k + 1)).filter (bothP key floor) = (os.take k).filter (bothP key floor) ++ [V] by rw [HT.out]; exact if_pos (by show (!leqL V.at_ floor || fitsB key V.act) = true; rw [HRR.out]; rfl))
          have e_ := HVE.out.keep HBA.out
          have e0 := e_.c0
          have e2 := e_.c2
          have e3 := e_.c3
          have e4 := e_.c4
          have e5 := e_.c5
          have e6 := e_.c6
          have e7 := e_.c7
          have e1 := HBA.out.cell HVC.out
          clear e_
          have HSB := Lib.hid (HSA.out.keep ((Bl.refl w2).alloc (.cells #[.string V.key, .slice va vn vc, .int .i64 V.origin, .int .i64 V.tx, .int .i64 V.act.k, .float .f64 V.act.x, .int .i64 V.act.n, .string V.act.s] 59)))
          have HBB := Lib.hid (HBA.out.alloc (.cells #[.string V.key, .slice va vn vc, .int .i64 V.origin, .int .i64 V.tx, .int .i64 V.act.k, .float .f64 V.act.x, .int .i64 V.act.n, .string V.act.s] 59))
          have HLT := Lib.hid (SG.lit (heap_alloc_new w2 (.cells #[.string V.key, .slice va vn vc, .int .i64 V.origin, .int .i64 V.tx, .int .i64 V.act.k, .float .f64 V.act.x, .int .i64 V.act.n, .string V.act.s] 59)) (show [.string V.key, .slice va vn vc, .int .i64 V.origin, .int .i64 V.tx, .int .i64 V.act.k, .float .f64 V.act.x, .int .i64 V.act.n, .string V.act.s].length = 1 * 8 from rfl) (by simp [Value.oneCell']))
          go_wp2_with (at_builtin; refine wpList_appK rfl _ _ _ rfl el_vr w1.heap.size _ _ _ rfl HSB.out.own ?cB _ 1 1 _ rfl HLT.out ?cM ?cN ?_)
          case cB => exact HBB.out.size
          case cM => have := hxl; unfold maxLen; omega
          case cN => have := hxl; omega
          intro vq w3 ho3 hg3 hz1 hz2
          clear hz1 hz2
          have HS3 := Lib.hid (HSB.out.push (y := ⟨V.key, va, vn, vc, V.at_, V.origin, V.tx, V.act⟩) HVI.out HVA.out ho3)
          have HB3 := Lib.hid (HSB.out.grown HBB.out hg3)
          clear ho3 hg3 HSB HBB HLT
          clear e0 e1 e2 e3 e4 e5 e6 e7 HSA HBA
          go_wp2_with fail
          go_roundw
          case rel => exact ⟨k + 1, zs ++ [⟨V.key, va, vn, vc, V.at_, V.origin, V.tx, V.act⟩], by omega, by rw [List.map_append, HM.out, HN.out]; rfl, HS3.out, HB3.out, by go_num⟩
          case measure => simp [intOf]; omega
        case true =>
        obtain ⟨ff, hff⟩ : ∃ ff, fitsB key ⟨V.act.k, V.act.x, V.act.n, V.act.s⟩ = ff := ⟨_, rfl⟩
        have HFF := Lib.hid hff
        clear hff
        have e_ := HVE.out.keep HBA.out
        have e0 := e_.c0
        have e2 := e_.c2
        have e3 := e_.c3
        have e4 := e_.c4
        have e5 := e_.c5
        have e6 := e_.c6
        have e7 := e_.c7
        have e1 := HBA.out.cell HVC.out
        clear e_
        go_wp2_with fail
        clear e0 e1 e2 e3 e4 e5 e6 e7
        refine (refFits_agg key V.act.k V.act.x V.act.n V.act.s ff _ HFF hkey HVA).mono ?_
        rintro e w4 ⟨rfl, hb2⟩
        have HSB2 := Lib.hid (HSA.out.keep hb2)
        have HBB2 := Lib.hid (HBA.out.trans hb2)
        clear hb2 HSA HBA
        cases ff
        case false =>
          have HN := Lib.hid (show (os.take (k + 1)).filter (bothP key floor) = (os.take k).filter (bothP key floor) by rw [HT.out]; exact if_neg (by show ¬ (!leqL V.at_ floor || fitsB key V.act) = true; rw [HRR.out, show fitsB key V.act = false from HFF.out]; decide))
          go_wp2_with fail
          go_roundw
          case rel => exact ⟨k + 1, zs, by omega, by rw [HN.out]; exact HM.out, HSB2.out, HBB2.out, by go_num⟩
          case measure => simp [intOf]; omega
        case true =>
          have HN := Lib.hid (show (os.take (k + 1)).filter (bothP key floor) = (os.take k).filter (bothP key floor) ++ [V] by rw [HT.out]; exact if_pos (by show (!leqL V.at_ floor || fitsB key V.act) = true; rw [show fitsB key V.act = true from HFF.out, Bool.or_true]))
          have e_ := HVE.out.keep HBB2.out
          have e0 := e_.c0
          have e2 := e_.c2
          have e3 := e_.c3
          have e4 := e_.c4
          have e5 := e_.c5
          have e6 := e_.c6
          have e7 := e_.c7
          have e1 := HBB2.out.cell HVC.out
          clear e_
          have HSB := Lib.hid (HSB2.out.keep ((Bl.refl w4).alloc (.cells #[.string V.key, .slice va vn vc, .int .i64 V.origin, .int .i64 V.tx, .int .i64 V.act.k, .float .f64 V.act.x, .int .i64 V.act.n, .string V.act.s] 59)))
          have HBB := Lib.hid (HBB2.out.alloc (.cells #[.string V.key, .slice va vn vc, .int .i64 V.origin, .int .i64 V.tx, .int .i64 V.act.k, .float .f64 V.act.x, .int .i64 V.act.n, .string V.act.s] 59))
          have HLT := Lib.hid (SG.lit (heap_alloc_new w4 (.cells #[.string V.key, .slice va vn vc, .int .i64 V.origin, .int .i64 V.tx, .int .i64 V.act.k, .float .f64 V.act.x, .int .i64 V.act.n, .string V.act.s] 59)) (show [.string V.key, .slice va vn vc, .int .i64 V.origin, .int .i64 V.tx, .int .i64 V.act.k, .float .f64 V.act.x, .int .i64 V.act.n, .string V.act.s].length = 1 * 8 from rfl) (by simp [Value.oneCell']))
          go_wp2_with (at_builtin; refine wpList_appK rfl _ _ _ rfl el_vr w1.heap.size _ _ _ rfl HSB.out.own ?cB _ 1 1 _ rfl HLT.out ?cM ?cN ?_)
          case cB => exact HBB.out.size
          case cM => have := hxl; unfold maxLen; omega
          case cN => have := hxl; omega
          intro vq w3 ho3 hg3 hz1 hz2
          clear hz1 hz2
          have HS3 := Lib.hid (HSB.out.push (y := ⟨V.key, va, vn, vc, V.at_, V.origin, V.tx, V.act⟩) HVI.out HVA.out ho3)
          have HB3 := Lib.hid (HSB.out.grown HBB.out hg3)
          clear ho3 hg3 HSB HBB HLT
          clear e0 e1 e2 e3 e4 e5 e6 e7 HSB2 HBB2
          go_wp2_with fail
          go_roundw
          case rel => exact ⟨k + 1, zs ++ [⟨V.key, va, vn, vc, V.at_, V.origin, V.tx, V.act⟩], by omega, by rw [List.map_append, HM.out, HN.out]; rfl, HS3.out, HB3.out, by go_num⟩
          case measure => simp [intOf]; omega
    case false =>
      obtain ⟨seen, hseen⟩ : ∃ s, first :: rest = s := ⟨_, rfl⟩
      have hyn2 : 2 ≤ yn := by
        have hz := HZ.out
        rw [Bool.or_eq_false_iff, decide_eq_false_iff_not] at hz
        have := HYN1.out
        omega
      have HO := Lib.hid (show dropL key vs floor all = stay ++ [oneL key seen.reverse] by
        have hz := HZ.out
        rw [Bool.or_eq_false_iff, decide_eq_false_iff_not] at hz
        rw [HE.out, HRB.out, if_neg (by decide), if_pos, hseen]
        rw [Bool.and_eq_true, decide_eq_true_eq]
        refine ⟨by simpa using hz.1, fun q => hz.2 ?_⟩
        have := HYN1.out
        rw [q] at this
        exact this)
      rw [hseen] at HVQ HY
      clear HE HZ hseen HYN1
      obtain ⟨l, hl⟩ : ∃ l, l + 1 = yn := ⟨yn - 1, by omega⟩
      have hln : l < yn := by omega
      have HLL := Lib.hid hl
      have hw1 : IntKind.i64.wrap ((yn : Int) - 1) = (l : Int) := by rw [IntKind.wrap_i64]; omega
      have hw1' : (yn : Int) - 1 = (l : Int) := by omega
      have hw3 : IntKind.i64.wrap (l : Int) = (l : Int) := by rw [IntKind.wrap_i64]; omega
      have hw2' : (yn : Int) - 2 = ((l - 1 : Nat) : Int) := by omega
      have hl0 : ((l - 1 : Nat) : Int) = (l : Int) - 1 := by omega
      obtain ⟨b2, off2, rfl, hc⟩ := HVQ.out.cells l hln
      have E0 := hc l hln
      have HCQ := Lib.hid hc
      clear hc hl
      obtain ⟨L, hL⟩ : ∃ L, nthR seen l = L := ⟨_, rfl⟩
      rw [hL] at E0
      have HLN := Lib.hid hL
      clear hL
      obtain ⟨la, ln, lc, e1', hI⟩ := E0.at_
      have HLE := Lib.hid E0
      have HLC1 := Lib.hid e1'
      have HLI := Lib.hid hI
      have HLA := Lib.hid E0.ok
      clear E0 e1' hI
      go_upto_region 32 with fail
      go_cut [17] from 156 to 179 (fun s W => ∃ (gx : Nat) (y : VC), s = .pointer (some ⟨gx, 0, none⟩) ∧ RX key seen w1 W gx l l y)
      case first =>
        refine wp_region_idx [0, 1, 2, 3, 4, 5, 6, 7, 9, 10, 11, 12, 13, 14, 15, 16, 17, 18, 19, 20, 21, 22] 4 (Bl (World.drew w1)) (fun _ _ h k => h.trans k) (Bl.refl _) (by kernel_rfl) rfl (by kernel_rfl) (by kernel_rfl) ?_
        have HRZ := Lib.hid ((Bl.refl w1).drew)
        generalize World.drew w1 = Z at *
        haveI : Nonempty (ExtC (Bl Z)) := ⟨⟨Z, Bl.refl _⟩⟩
        obtain ⟨p0, p1, p2, p3, p4, p5, p6, p7⟩ := (HLE.out.keep HRZ.out).all (HRZ.out.cell HLC1.out)
        repeat (refine wpI_step rfl (fun K hK => ?_); go_simp; refine hK _ ?_; clear hK K)
        refine wpI_nil ?_
        clear p0 p1 p2 p3 p4 p5 p6 p7 this
        refine wpAnyE_all (rs := [8, 24]) (by kernel_rfl) (by decide) ?_
        intro i0 hi Y1 hy1
        simp only [List.mem_cons, List.not_mem_nil, or_false] at hi
        rcases hi with rfl | rfl
        · go_simp
          refine (rcopy3_any la ln lc L.at_ Y1 (HLI.out.keep (HRZ.out.trans hy1))).mono ?_
          rintro e Y2 ⟨v, rfl, hf, hb⟩
          obtain ⟨ja, jn, jc, rfl, -⟩ := hf.si
          have HB2 := Lib.hid (hy1.trans hb)
          have HF2 := Lib.hid (FI.mono0 hf hy1.size)
          clear hy1 hb hf
          refine ⟨_, rfl, HB2.out, ?_⟩
          refine wpAnyE_subK (C' := Bl Y2) (fun _ h => HB2.out.trans h) ?_
          refine wpAnyE_idx (C := Bl Y2) (fun _ _ h k => h.trans k) (by kernel_rfl) 2 _ (Bl.refl _) [23] _ _ (by kernel_rfl) ?_
          haveI : Nonempty (ExtC (Bl Y2)) := ⟨⟨Y2, Bl.refl _⟩⟩
          repeat (refine wpI_step rfl (fun K hK => ?_); go_simp; refine hK _ ?_; clear hK K)
          refine wpI_nil ?_
          clear this
          refine wpAnyE_one (i := 24) (by kernel_rfl) ?_
          intro Y3 hy3
          go_simp
          have hbl := (Bl.refl Y3).alloc (.cells #[.string ⟨#[]⟩, .slice none 0 0, .int .i64 0, .int .i64 0, .int .i64 0, .float .f64 0, .int .i64 0, .string ⟨#[]⟩] 59)
          have HG4 : Hid (AC (Y3.alloc (.cells #[.string ⟨#[]⟩, .slice none 0 0, .int .i64 0, .int .i64 0, .int .i64 0, .float .f64 0, .int .i64 0, .string ⟨#[]⟩] 59)) Y3.heap.size (verC ⟨#[]⟩ none 0 0 0 0 0 0 0 ⟨#[]⟩)) := Lib.hid (AC.new Y3 Y3.heap.size rfl [.string ⟨#[]⟩, .slice none 0 0, .int .i64 0, .int .i64 0, .int .i64 0, .float .f64 0, .int .i64 0, .string ⟨#[]⟩] 59)
          have HC4 := Lib.hid (hy3.trans hbl)
          have HN : Hid (∀ b, (Value.slice ja jn jc).ownBlock = some b → b ≠ Y3.heap.size) := Lib.hid (fun b e q => by
            have := (World.ownsRow.lt (show Y3.ownsRow _ _ _ _ _ _ from (show FI _ _ _ _ from HF2.out.keep hy3).own) b e).2
            omega)
          have HLO : Hid (Z.heap.size ≤ Y3.heap.size) := Lib.hid (Nat.le_trans HB2.out.size hy3.size)
          have HLC : Hid (Y2.heap.size ≤ Y3.heap.size) := Lib.hid hy3.size
          clear hy3 hbl
          generalize Y3.alloc _ = Y4 at *
          generalize Y3.heap.size = gx at *
          refine ⟨HC4.out, ?_⟩
          refine wpAnyE_one (i := 25) (by kernel_rfl) ?_
          intro Y5 hy5
          have HC := Lib.hid (HC4.out.trans hy5)
          have HB := Lib.hid (HB2.out.trans HC.out)
          have HG := Lib.hid (HG4.out.keep hy5)
          have HF := Lib.hid (HF2.out.keep HC.out)
          clear hy5 HG4 HC4 HF2 HB2
          obtain ⟨e0, e1, e2, e3, e4, e5, e6, e7⟩ := AC.ver HG.out
          have fz := HG.out.frozen
          go_simp
          have X1 := HG.out.st8 0 (VC.mk key ja jn jc L.at_ 254 L.tx L.act)
          have X2 := FI.fr (S := fun b => b = gx) HF.out (Fr.st8 Y5 gx 0 (VC.mk key ja jn jc L.at_ 254 L.tx L.act)) (fun b e q => HN.out b e q)
          have X3 := HB.out.st8 (g := gx) HLO.out 0 (VC.mk key ja jn jc L.at_ 254 L.tx L.act)
          have X4 := HC.out.st8 (g := gx) HLC.out 0 (VC.mk key ja jn jc L.at_ 254 L.tx L.act)
          refine ⟨X4, ?_⟩
          refine wpAnyE_done (by kernel_rfl) ?_
          intro Y9 hy9
          have HRX := Lib.hid (show RX key seen w1 Y9 gx l l (VC.mk key ja jn jc L.at_ 254 L.tx L.act) from ⟨Nat.le_refl _, by rw [oneL_last (by rw [HVQ.out.len]; exact HLL.out), HLN.out]; rfl, HLA.out, rfl, rfl, (FI.mono0 X2 HRZ.out.size).keep hy9, HN.out, AC.keep X1 hy9, (HRZ.out.trans X3).trans hy9, Nat.le_trans HRZ.out.size HLO.out⟩)
          clear X1 X2 X3 X4 hy9 e0 e1 e2 e3 e4 e5 e6 e7 fz
          go_wp2_with fail
          go_meet
          case rel => exact ⟨gx, _, rfl, HRX.out⟩
        · go_simp
          have hbl := (Bl.refl Y1).alloc (.cells #[.string ⟨#[]⟩, .slice none 0 0, .int .i64 0, .int .i64 0, .int .i64 0, .float .f64 0, .int .i64 0, .string ⟨#[]⟩] 59)
          have HG2 : Hid (AC (Y1.alloc (.cells #[.string ⟨#[]⟩, .slice none 0 0, .int .i64 0, .int .i64 0, .int .i64 0, .float .f64 0, .int .i64 0, .string ⟨#[]⟩] 59)) Y1.heap.size (verC ⟨#[]⟩ none 0 0 0 0 0 0 0 ⟨#[]⟩)) := Lib.hid (AC.new Y1 Y1.heap.size rfl [.string ⟨#[]⟩, .slice none 0 0, .int .i64 0, .int .i64 0, .int .i64 0, .float .f64 0, .int .i64 0, .string ⟨#[]⟩] 59)
          have HB2 := Lib.hid (hy1.trans hbl)
          have HLT2 : Hid (Y1.heap.size < (Y1.alloc (.cells #[.string ⟨#[]⟩, .slice none 0 0, .int .i64 0, .int .i64 0, .int .i64 0, .float .f64 0, .int .i64 0, .string ⟨#[]⟩] 59)).heap.size) := Lib.hid HG2.out.lt
          have HLO : Hid (Z.heap.size ≤ Y1.heap.size) := Lib.hid hy1.size
          have HLC : Hid (Z.heap.size ≤ Y1.heap.size) := Lib.hid hy1.size
          clear hy1 hbl
          generalize Y1.alloc _ = Y2 at *
          generalize Y1.heap.size = gx at *
          refine ⟨HB2.out, ?_⟩
          refine wpAnyE_one (i := 8) (by kernel_rfl) ?_
          intro Y3 hy3
          go_simp
          refine (rcopy3_any la ln lc L.at_ Y3 (HLI.out.keep (HRZ.out.trans (HB2.out.trans hy3)))).mono ?_
          rintro e Y4 ⟨v, rfl, hf, hb⟩
          obtain ⟨ja, jn, jc, rfl, -⟩ := hf.si
          have HB4 := Lib.hid (HB2.out.trans (hy3.trans hb))
          have HG4 := Lib.hid (HG2.out.keep (hy3.trans hb))
          have HF4 := Lib.hid (FI.mono0 hf (HB2.out.trans hy3).size)
          have HN : Hid (∀ b, (Value.slice ja jn jc).ownBlock = some b → b ≠ gx) := Lib.hid (fun b e q => by
            have h1 := (World.ownsRow.lt (show Y4.ownsRow _ _ _ _ _ _ from (show FI _ _ _ _ from hf).own) b e).1
            have h2 := HLT2.out
            have h3 := hy3.size
            omega)
          clear hy3 hb hf HB2 HG2 HLT2
          refine ⟨_, rfl, HB4.out, ?_⟩
          refine wpAnyE_one (i := 23) (by kernel_rfl) ?_
          intro Y5 hy5
          go_simp
          refine ⟨HB4.out.trans hy5, ?_⟩
          refine wpAnyE_one (i := 25) (by kernel_rfl) ?_
          intro Y6 hy6
          have HC := Lib.hid (HB4.out.trans (hy5.trans hy6))
          have HB := Lib.hid HC.out
          have HG := Lib.hid (HG4.out.keep (hy5.trans hy6))
          have HF := Lib.hid (HF4.out.keep (hy5.trans hy6))
          clear hy5 hy6 HG4 HB4 HF4
          obtain ⟨e0, e1, e2, e3, e4, e5, e6, e7⟩ := AC.ver HG.out
          have fz := HG.out.frozen
          go_simp
          have X1 := HG.out.st8 0 (VC.mk key ja jn jc L.at_ 254 L.tx L.act)
          have X2 := FI.fr (S := fun b => b = gx) HF.out (Fr.st8 Y6 gx 0 (VC.mk key ja jn jc L.at_ 254 L.tx L.act)) (fun b e q => HN.out b e q)
          have X3 := HB.out.st8 (g := gx) HLO.out 0 (VC.mk key ja jn jc L.at_ 254 L.tx L.act)
          have X4 := HC.out.st8 (g := gx) HLC.out 0 (VC.mk key ja jn jc L.at_ 254 L.tx L.act)
          refine ⟨X4, ?_⟩
          refine wpAnyE_done (by kernel_rfl) ?_
          intro Y9 hy9
          have HRX := Lib.hid (show RX key seen w1 Y9 gx l l (VC.mk key ja jn jc L.at_ 254 L.tx L.act) from ⟨Nat.le_refl _, by rw [oneL_last (by rw [HVQ.out.len]; exact HLL.out), HLN.out]; rfl, HLA.out, rfl, rfl, (FI.mono0 X2 HRZ.out.size).keep hy9, HN.out, AC.keep X1 hy9, (HRZ.out.trans X3).trans hy9, Nat.le_trans HRZ.out.size HLO.out⟩)
          clear X1 X2 X3 X4 hy9 e0 e1 e2 e3 e4 e5 e6 e7 fz
          go_wp2_with fail
          go_meet
          case rel => exact ⟨gx, _, rfl, HRX.out⟩
      case rest =>
      obtain ⟨gx, y0, rfl, hrx⟩ := hcut
      have HR0 := Lib.hid hrx
      clear hrx HLE HLC1 HLI HLA HLN
      go_wp2_with fail
      go_loopw [18] (fun iv wr => ∃ (c : Nat) (i : Int) (y : VC), RX key seen w1 wr gx l c y ∧ i = (c : Int) - 1 ∧ iv = .int .i64 i) (fun iv _ => (intOf iv + 1).toNat)
      case atStart => exact ⟨l, (l : Int) - 1, _, HR0.out, rfl, rfl⟩
      case round =>
        clear hl0 HR0
        obtain ⟨c, i, y, hrx, hi, rfl⟩ := hrel
        have HO1 := Lib.hid hrx
        clear hrx
        by_cases h0 : c = 0
        case pos =>
          have q0' : decide ((0 : Int) ≤ i) = false := decide_eq_false (by omega)
          have HIS := Lib.hid (show y.ver = oneL key seen.reverse by rw [HO1.out.is_, h0, List.drop_zero])
          clear hi h0
          obtain ⟨e0, e1, e2, e3, e4, e5, e6, e7⟩ := AC.ver HO1.out.out
          have HSB := Lib.hid ((HR.out.st.keep HO1.out.bl).keep ((Bl.refl wr).alloc (.cells #[.string y.key, .slice y.ad y.n y.ca, .int .i64 y.origin, .int .i64 y.tx, .int .i64 y.act.k, .float .f64 y.act.x, .int .i64 y.act.n, .string y.act.s] 59)))
          have HYG := Lib.hid (HO1.out.vec.keep ((Bl.refl wr).alloc (.cells #[.string y.key, .slice y.ad y.n y.ca, .int .i64 y.origin, .int .i64 y.tx, .int .i64 y.act.k, .float .f64 y.act.x, .int .i64 y.act.n, .string y.act.s] 59)))
          have HBB := Lib.hid ((HR.out.bl.trans HO1.out.bl).alloc (.cells #[.string y.key, .slice y.ad y.n y.ca, .int .i64 y.origin, .int .i64 y.tx, .int .i64 y.act.k, .float .f64 y.act.x, .int .i64 y.act.n, .string y.act.s] 59))
          have HLT := Lib.hid (SG.lit (heap_alloc_new wr (.cells #[.string y.key, .slice y.ad y.n y.ca, .int .i64 y.origin, .int .i64 y.tx, .int .i64 y.act.k, .float .f64 y.act.x, .int .i64 y.act.n, .string y.act.s] 59)) (show [.string y.key, .slice y.ad y.n y.ca, .int .i64 y.origin, .int .i64 y.tx, .int .i64 y.act.k, .float .f64 y.act.x, .int .i64 y.act.n, .string y.act.s].length = 1 * 8 from rfl) (by simp [Value.oneCell']))
          go_wp2_with (at_builtin; refine wpList_appK rfl _ _ _ rfl el_vr W0.heap.size _ _ _ rfl HSB.out.own HBB.out.size _ 1 1 _ rfl HLT.out ?cM ?cN ?_)
          case cM => have := HXN.out; unfold maxLen; omega
          case cN => have := HXN.out; omega
          intro vq w3 ho3 hg3 hz1 hz2
          have HY3 := FI.fr HYG.out ((Fr.refl (fun b => (Value.slice sa xn sc).ownBlock = some b) _).grown hg3 (fun i e => e)) (fun b q e => apart_typ HSB.out.own HYG.out e q)
          have HB3 := HSB.out.grown HBB.out hg3
          have hcl : CL w3 (flat xs ++ [.string y.key, .slice y.ad y.n y.ca, .int .i64 y.origin, .int .i64 y.tx, .int .i64 y.act.k, .float .f64 y.act.x, .int .i64 y.act.n, .string y.act.s]) (xs.map VC.ver ++ [y.ver]) := (flat_cl xs (fun x hx => ⟨(HR.out.st.els x hx).1.keep HB3, (HR.out.st.els x hx).2⟩)).append (CL.single ⟨y.ad, y.n, y.ca, rfl, HY3.iaE, HO1.out.ok⟩)
          obtain ⟨ra, rc, rfl, hv3⟩ := va_of ho3 hcl (by rw [List.length_append, List.length_map]; rfl) (by have := HXN.out; omega)
          have HV3 := Lib.hid (show VA w3 ra (xs.length + 1) (dropL key vs floor all) by rw [HO.out, ← HX.out, ← HIS.out]; exact hv3)
          have HB4 := Lib.hid (HW.out.trans HB3)
          have hxl := HXN.out
          clear hz1 hz2 ho3 hg3 hcl hv3 HY3 HB3 HLT HSB HYG HBB e0 e1 e2 e3 e4 e5 e6 e7
          go_wp2_with fail
          go_ret
          exact ⟨ra, xs.length + 1, rc, rfl, HV3.out, by omega, HB4.out⟩
        case neg =>
        obtain ⟨k, rfl⟩ : ∃ k, c = k + 1 := ⟨c - 1, by omega⟩
        have hik : i = (k : Int) := by omega
        subst hik
        clear hi h0
        have hkn : k < yn := by have := HO1.out.hi; omega
        have E0 := HCQ.out k hkn
        obtain ⟨U, hU⟩ : ∃ U, nthR seen k = U := ⟨_, rfl⟩
        rw [hU] at E0
        have HU := Lib.hid hU
        clear hU
        obtain ⟨ua, un, uc, e1', hI⟩ := E0.at_
        have HUE := Lib.hid (E0.keep HO1.out.bl)
        have HU1 := Lib.hid (HO1.out.bl.cell e1')
        have HUI := Lib.hid (hI.keep HO1.out.bl)
        have HUA := Lib.hid E0.ok
        have HBX := Lib.hid HO1.out.out
        have HYI := Lib.hid (show IA wr y.ad y.n y.at_ from HO1.out.vec.iaE)
        have HYA := Lib.hid HO1.out.ok
        clear E0 e1' hI
        obtain ⟨⟨rk, rx, rn, rs⟩, hr⟩ : ∃ r, bothL key y.act U.act = r := ⟨_, rfl⟩
        have HBO := Lib.hid hr
        have HRO := Lib.hid (show (ActL.mk rk rx rn rs).Ok from hr ▸ both_ok HYA.out HUA.out)
        clear hr
        go_upto_region 36 with fail
        go_cut [] from 187 to 205 (fun W => ∃ (ja : Option Addr) (jn jc : Nat), AC W gx (verC y.key ja jn jc y.origin y.tx rk rx rn rs) ∧ FI w1.heap.size W (.slice ja jn jc) (joinL y.at_ U.at_) ∧ (∀ b, (Value.slice ja jn jc).ownBlock = some b → b ≠ gx) ∧ Bl w1 W)
        case first =>
          refine wp_region_idxK [0, 1, 2, 3, 4, 5, 6, 8, 9, 10, 11, 12, 13, 14, 15] 18 5 6 (Bl (World.drew wr)) (fun _ _ h k => h.trans k) (Bl.refl _) (by kernel_rfl) rfl (by kernel_rfl) (by kernel_rfl) (by kernel_rfl) ?_
          have HRZ := Lib.hid ((Bl.refl wr).drew)
          generalize World.drew wr = Z at *
          haveI : Nonempty (ExtC (Bl Z)) := ⟨⟨Z, Bl.refl _⟩⟩
          obtain ⟨p0, p1, p2, p3, p4, p5, p6, p7⟩ := (HUE.out.keep HRZ.out).all (HRZ.out.cell HU1.out)
          obtain ⟨t0, t1, t2, t3, t4, t5, t6, t7⟩ : (∀ n : Ext Z, _) ∧ (∀ n : Ext Z, _) ∧ (∀ n : Ext Z, _) ∧ (∀ n : Ext Z, _) ∧ (∀ n : Ext Z, _) ∧ (∀ n : Ext Z, _) ∧ (∀ n : Ext Z, _) ∧ (∀ n : Ext Z, _) :=
            ⟨fun n => (AC.ver (HBX.out.keep (HRZ.out.trans n.bl))).1, fun n => (AC.ver (HBX.out.keep (HRZ.out.trans n.bl))).2.1, fun n => (AC.ver (HBX.out.keep (HRZ.out.trans n.bl))).2.2.1, fun n => (AC.ver (HBX.out.keep (HRZ.out.trans n.bl))).2.2.2.1, fun n => (AC.ver (HBX.out.keep (HRZ.out.trans n.bl))).2.2.2.2.1, fun n => (AC.ver (HBX.out.keep (HRZ.out.trans n.bl))).2.2.2.2.2.1, fun n => (AC.ver (HBX.out.keep (HRZ.out.trans n.bl))).2.2.2.2.2.2.1, fun n => (AC.ver (HBX.out.keep (HRZ.out.trans n.bl))).2.2.2.2.2.2.2⟩
          repeat (refine wpI_step rfl (fun K hK => ?_); go_simp; refine hK _ ?_; clear hK K)
          refine wpI_nil ?_
          clear p0 p1 p2 p3 p4 p5 p6 p7 t0 t1 t2 t3 t4 t5 t6 t7 this
          refine wpAnyK_one (i := 7) (by kernel_rfl) ?_
          intro Y1 hy1
          go_simp
          refine (rjoin3_any y.ad ua y.n un y.ca uc y.at_ U.at_ Y1 (HYI.out.keep (HRZ.out.trans hy1)) (HUI.out.keep (HRZ.out.trans hy1))).mono ?_
          rintro e Y2 ⟨v, rfl, hf, hb⟩
          obtain ⟨ja, jn, jc, rfl, -⟩ := hf.si
          have HB2 := Lib.hid (hy1.trans hb)
          have HF2 := Lib.hid (show FI w1.heap.size Y2 (.slice ja jn jc) (joinL y.at_ U.at_) from FI.mono0 hf (HO1.out.bl.trans (HRZ.out.trans hy1)).size)
          have HN : Hid (∀ b, (Value.slice ja jn jc).ownBlock = some b → b ≠ gx) := Lib.hid (fun b e q => by
            have h1 := (World.ownsRow.lt (show Y2.ownsRow _ _ _ _ _ _ from (show FI _ _ _ _ from hf).own) b e).1
            have h2 := HBX.out.lt
            have h3 := (HRZ.out.trans hy1).size
            omega)
          clear hy1 hb hf
          refine ⟨_, rfl, HB2.out, ?_⟩
          refine wpAnyK_all (rs := [16, 17]) (by kernel_rfl) (by decide) ?_
          intro i0 hi Y3 hy3
          simp only [List.mem_cons, List.not_mem_nil, or_false] at hi
          rcases hi with rfl | rfl
          · go_simp
            refine (refBoth_agg key y.act.k y.act.x y.act.n y.act.s U.act.k U.act.x U.act.n U.act.s rk rx rn rs Y3 HBO hkey HYA HUA).mono ?_
            rintro e Y4 ⟨rfl, hb4⟩
            have HB4 := Lib.hid (HB2.out.trans (hy3.trans hb4))
            have HF4 := Lib.hid (HF2.out.keep (hy3.trans hb4))
            clear hy3 hb4 HF2 HB2
            refine ⟨_, rfl, fun _ => HB4.out, ?_⟩
            refine wpAnyK_one (i := 17) (by kernel_rfl) ?_
            intro Y5 hy5
            go_simp
            have HB5 := Lib.hid (HB4.out.trans hy5)
            have HF5 := Lib.hid (HF4.out.keep hy5)
            clear hy5 HB4 HF4
            refine ⟨HB5.out, ?_⟩
            refine wpAnyK_turn (by kernel_rfl) (by decide) ?_
            intro X0 hx0
            have HB7 := Lib.hid (HB5.out.trans hx0)
            have HF6 := Lib.hid (HF5.out.keep hx0)
            have HG6 := Lib.hid (HBX.out.keep (HRZ.out.trans HB7.out))
            have HW6 := Lib.hid (HO1.out.bl.trans (HRZ.out.trans HB7.out))
            clear hx0 HF5 HB5 HB7
            have c1 := HG6.out.cell 1 _ rfl
            have fz := HG6.out.frozen
            go_simp
            have HG2 := Lib.hid (HG6.out.putj 1 (.slice ja jn jc))
            have HF2 := Lib.hid (FI.fr (S := fun b => b = gx) HF6.out (Fr.setj X0 gx 1 (.slice ja jn jc)) (fun b e q => HN.out b e q))
            have HW2 := Lib.hid (Below.setCell (p := ⟨gx, 1, none⟩) HW6.out HO1.out.lo (.slice ja jn jc))
            clear c1 fz HG6 HF6 HW6
            generalize World.setCell _ _ _ = X2 at *
            refine wpAnyE_subK (C' := fun W => X2.heap.size ≤ W.heap.size) (fun _ _ => trivial) ?_
            refine wpAnyE_one (i := 19) (by kernel_rfl) ?_
            intro X3 hx3
            go_simp
            refine ⟨hx3.size, ?_⟩
            refine wpAnyE_one (i := 20) (by kernel_rfl) ?_
            intro X4 hx4
            have HG7 := Lib.hid (show AC X4 gx (verC y.key ja jn jc y.origin y.tx y.act.k y.act.x y.act.n y.act.s) from HG2.out.keep (hx3.trans hx4))
            have HF7 := Lib.hid (HF2.out.keep (hx3.trans hx4))
            have HW7 := Lib.hid (Bl.trans HW2.out (hx3.trans hx4))
            have HSZ7 := Lib.hid (Bl.size (hx3.trans hx4))
            clear hx3 hx4 HG2 HF2 HW2
            obtain ⟨e0, e1, e2, e3, e4, e5, e6, e7⟩ := AC.ver HG7.out
            have fz := HG7.out.frozen
            go_simp
            refine ⟨by have := HSZ7.out; simp; omega, ?_⟩
            refine wpAnyE_done (by kernel_rfl) ?_
            intro X9 hx9
            have Z1 := (((HG7.out.putj 4 (.int .i64 rk)).putj 5 (.float .f64 rx)).putj 6 (.int .i64 rn)).putj 7 (.string rs)
            have Z3 := FI.fr (S := fun b => b = gx) HF7.out ((((Fr.setj X4 gx 4 (.int .i64 rk)).trans (Fr.setj _ gx 5 (.float .f64 rx))).trans (Fr.setj _ gx 6 (.int .i64 rn))).trans (Fr.setj _ gx 7 (.string rs))) (fun b e q => HN.out b e q)
            have Z4 := (((Below.setCell (p := ⟨gx, 4, none⟩) HW7.out HO1.out.lo (.int .i64 rk)).setCell (p := ⟨gx, 5, none⟩) HO1.out.lo (.float .f64 rx)).setCell (p := ⟨gx, 6, none⟩) HO1.out.lo (.int .i64 rn)).setCell (p := ⟨gx, 7, none⟩) HO1.out.lo (.string rs)
            have HG9 := Lib.hid (show AC X9 gx (verC y.key ja jn jc y.origin y.tx rk rx rn rs) from AC.keep Z1 hx9)
            have HF9 := Lib.hid (FI.keep Z3 hx9)
            have HW9 := Lib.hid (Bl.trans Z4 hx9)
            clear Z1 Z3 Z4 hx9 e0 e1 e2 e3 e4 e5 e6 e7 fz HG7 HF7 HW7
            go_wp2_with fail
            go_meet
            case rel => exact ⟨ja, jn, jc, HG9.out, HF9.out, HN.out, HW9.out⟩
          · go_simp
            have HB4 := Lib.hid (HB2.out.trans hy3)
            have HF4 := Lib.hid (HF2.out.keep hy3)
            clear hy3 HF2 HB2
            refine ⟨fun _ => HB4.out, ?_⟩
            refine wpAnyK_one (i := 16) (by kernel_rfl) ?_
            intro Y5 hy5
            go_simp
            refine (refBoth_agg key y.act.k y.act.x y.act.n y.act.s U.act.k U.act.x U.act.n U.act.s rk rx rn rs Y5 HBO hkey HYA HUA).mono ?_
            rintro e Y6 ⟨rfl, hb6⟩
            have HB5 := Lib.hid (HB4.out.trans (hy5.trans hb6))
            have HF5 := Lib.hid (HF4.out.keep (hy5.trans hb6))
            clear hy5 hb6 HB4 HF4
            refine ⟨_, rfl, HB5.out, ?_⟩
            refine wpAnyK_turn (by kernel_rfl) (by decide) ?_
            intro X0 hx0
            have HB7 := Lib.hid (HB5.out.trans hx0)
            have HF6 := Lib.hid (HF5.out.keep hx0)
            have HG6 := Lib.hid (HBX.out.keep (HRZ.out.trans HB7.out))
            have HW6 := Lib.hid (HO1.out.bl.trans (HRZ.out.trans HB7.out))
            clear hx0 HF5 HB5 HB7
            have c1 := HG6.out.cell 1 _ rfl
            have fz := HG6.out.frozen
            go_simp
            have HG2 := Lib.hid (HG6.out.putj 1 (.slice ja jn jc))
            have HF2 := Lib.hid (FI.fr (S := fun b => b = gx) HF6.out (Fr.setj X0 gx 1 (.slice ja jn jc)) (fun b e q => HN.out b e q))
            have HW2 := Lib.hid (Below.setCell (p := ⟨gx, 1, none⟩) HW6.out HO1.out.lo (.slice ja jn jc))
            clear c1 fz HG6 HF6 HW6
            generalize World.setCell _ _ _ = X2 at *
            refine wpAnyE_subK (C' := fun W => X2.heap.size ≤ W.heap.size) (fun _ _ => trivial) ?_
            refine wpAnyE_one (i := 19) (by kernel_rfl) ?_
            intro X3 hx3
            go_simp
            refine ⟨hx3.size, ?_⟩
            refine wpAnyE_one (i := 20) (by kernel_rfl) ?_
            intro X4 hx4
            have HG7 := Lib.hid (show AC X4 gx (verC y.key ja jn jc y.origin y.tx y.act.k y.act.x y.act.n y.act.s) from HG2.out.keep (hx3.trans hx4))
            have HF7 := Lib.hid (HF2.out.keep (hx3.trans hx4))
            have HW7 := Lib.hid (Bl.trans HW2.out (hx3.trans hx4))
            have HSZ7 := Lib.hid (Bl.size (hx3.trans hx4))
            clear hx3 hx4 HG2 HF2 HW2
            obtain ⟨e0, e1, e2, e3, e4, e5, e6, e7⟩ := AC.ver HG7.out
            have fz := HG7.out.frozen
            go_simp
            refine ⟨by have := HSZ7.out; simp; omega, ?_⟩
            refine wpAnyE_done (by kernel_rfl) ?_
            intro X9 hx9
            have Z1 := (((HG7.out.putj 4 (.int .i64 rk)).putj 5 (.float .f64 rx)).putj 6 (.int .i64 rn)).putj 7 (.string rs)
            have Z3 := FI.fr (S := fun b => b = gx) HF7.out ((((Fr.setj X4 gx 4 (.int .i64 rk)).trans (Fr.setj _ gx 5 (.float .f64 rx))).trans (Fr.setj _ gx 6 (.int .i64 rn))).trans (Fr.setj _ gx 7 (.string rs))) (fun b e q => HN.out b e q)
            have Z4 := (((Below.setCell (p := ⟨gx, 4, none⟩) HW7.out HO1.out.lo (.int .i64 rk)).setCell (p := ⟨gx, 5, none⟩) HO1.out.lo (.float .f64 rx)).setCell (p := ⟨gx, 6, none⟩) HO1.out.lo (.int .i64 rn)).setCell (p := ⟨gx, 7, none⟩) HO1.out.lo (.string rs)
            have HG9 := Lib.hid (show AC X9 gx (verC y.key ja jn jc y.origin y.tx rk rx rn rs) from AC.keep Z1 hx9)
            have HF9 := Lib.hid (FI.keep Z3 hx9)
            have HW9 := Lib.hid (Bl.trans Z4 hx9)
            clear Z1 Z3 Z4 hx9 e0 e1 e2 e3 e4 e5 e6 e7 fz HG7 HF7 HW7
            go_wp2_with fail
            go_meet
            case rel => exact ⟨ja, jn, jc, HG9.out, HF9.out, HN.out, HW9.out⟩
        case rest =>
        obtain ⟨ja, jn, jc, hg9, hf9, hn9, hw9⟩ := hcut
        obtain ⟨X9, rfl⟩ : ∃ x, x = wc := ⟨_, rfl⟩
        have HG9 := Lib.hid hg9
        have HF9 := Lib.hid hf9
        have HN := Lib.hid hn9
        have HW9 := Lib.hid hw9
        clear hg9 hf9 hn9 hw9 HBX HYI HUE HU1 HUI
        have HUE9 := Lib.hid ((HCQ.out k hkn).keep HW9.out)
        rw [HU.out] at HUE9
        obtain ⟨mx, hmx⟩ : ∃ mx, max y.tx U.tx = mx := ⟨_, rfl⟩
        have HMX := Lib.hid hmx
        have HIS := Lib.hid (show (VC.mk y.key ja jn jc (joinL y.at_ U.at_) y.origin mx ⟨rk, rx, rn, rs⟩).ver = oneL key (seen.drop k).reverse by
          rw [oneL_cons (by have := HO1.out.hi; have := HLL.out; rw [HVQ.out.len]; omega), ← HO1.out.is_, HU.out]
          show VerL.mk y.key (joinL y.at_ U.at_) y.origin mx ⟨rk, rx, rn, rs⟩ = oneStep key y.ver U
          unfold oneStep
          rw [HO1.out.kk, HO1.out.og, ← HMX.out, ← HBO.out]
          rfl)
        clear hmx
        have HR9 := Lib.hid (Bl.refl X9)
        by_cases htx : y.tx < U.tx
        case pos =>
          have q1 : decide (y.tx < U.tx) = true := decide_eq_true htx
          obtain rfl : mx = U.tx := by rw [← HMX.out]; omega
          clear htx
          obtain ⟨ua9, un9, uc9, e19, -⟩ := HUE9.out.at_
          have HU19 := Lib.hid e19
          clear e19
          go_upto_region 37 with fail
          refine wp_region_allS (by kernel_rfl) (by kernel_rfl) ?_
          have HDR := Lib.hid ((Bl.refl X9).drew)
          have HWZ := Lib.hid (HR9.out.trans HDR.out)
          generalize World.drew X9 = Z at *
          obtain ⟨p0, p1, p2, p3, p4, p5, p6, p7⟩ := (HUE9.out.keep HWZ.out).all (HWZ.out.cell HU19.out)
          obtain ⟨t0, t1, t2, t3, t4, t5, t6, t7⟩ : (∀ n : Ext Z, _) ∧ (∀ n : Ext Z, _) ∧ (∀ n : Ext Z, _) ∧ (∀ n : Ext Z, _) ∧ (∀ n : Ext Z, _) ∧ (∀ n : Ext Z, _) ∧ (∀ n : Ext Z, _) ∧ (∀ n : Ext Z, _) :=
            ⟨fun n => (AC.ver (HG9.out.keep (HWZ.out.trans n.bl))).1, fun n => (AC.ver (HG9.out.keep (HWZ.out.trans n.bl))).2.1, fun n => (AC.ver (HG9.out.keep (HWZ.out.trans n.bl))).2.2.1, fun n => (AC.ver (HG9.out.keep (HWZ.out.trans n.bl))).2.2.2.1, fun n => (AC.ver (HG9.out.keep (HWZ.out.trans n.bl))).2.2.2.2.1, fun n => (AC.ver (HG9.out.keep (HWZ.out.trans n.bl))).2.2.2.2.2.1, fun n => (AC.ver (HG9.out.keep (HWZ.out.trans n.bl))).2.2.2.2.2.2.1, fun n => (AC.ver (HG9.out.keep (HWZ.out.trans n.bl))).2.2.2.2.2.2.2⟩
          repeat (refine wpS_step (fun K hK => ?_); go_simp; refine hK _ ?_; clear hK K)
          refine wpS_nil ?_
          intro q1
          have HW10 := Lib.hid (HWZ.out.trans q1.bl)
          have HWA := Lib.hid (HDR.out.trans q1.bl)
          clear HWZ HDR p0 p1 p2 p3 p4 p5 p6 p7 t0 t1 t2 t3 t4 t5 t6 t7 
          generalize ExtC.at q1 = X10 at *
          have HG10 := Lib.hid (HG9.out.keep HW10.out)
          have o3 := HG10.out.cell 3 _ rfl
          have fz := HG10.out.frozen
          have u3 := (HUE9.out.keep HW10.out).c3
          go_wp2_with fail
          have Z1 := HG10.out.putj 3 (.int .i64 U.tx)
          have Z3 := FI.fr (S := fun b => b = gx) (HF9.out.keep HW10.out) (Fr.setj X10 gx 3 (.int .i64 U.tx)) (fun b e q => HN.out b e q)
          have Z4 := Below.setCell (p := ⟨gx, 3, none⟩) (Bl.trans HW9.out HW10.out) HO1.out.lo (.int .i64 U.tx)
          have HFIN := Lib.hid (show RX key seen w1 _ gx l k (VC.mk y.key ja jn jc (joinL y.at_ U.at_) y.origin U.tx ⟨rk, rx, rn, rs⟩) from ⟨by have := HO1.out.hi; omega, HIS.out, HRO.out, HO1.out.kk, HO1.out.og, Z3, HN.out, Z1, Z4, HO1.out.lo⟩)
          clear Z1 Z3 Z4 o3 fz u3
          go_roundw
          case rel => exact ⟨k, (k : Int) - 1, _, HFIN.out, rfl, rfl⟩
          case measure => simp [intOf]
        case neg =>
          have q1 : decide (y.tx < U.tx) = false := decide_eq_false htx
          obtain rfl : mx = y.tx := by rw [← HMX.out]; omega
          clear htx
          obtain ⟨ua9, un9, uc9, e19, -⟩ := HUE9.out.at_
          have HU19 := Lib.hid e19
          clear e19
          go_upto_region 37 with fail
          refine wp_region_allS (by kernel_rfl) (by kernel_rfl) ?_
          have HDR := Lib.hid ((Bl.refl X9).drew)
          have HWZ := Lib.hid (HR9.out.trans HDR.out)
          generalize World.drew X9 = Z at *
          obtain ⟨p0, p1, p2, p3, p4, p5, p6, p7⟩ := (HUE9.out.keep HWZ.out).all (HWZ.out.cell HU19.out)
          obtain ⟨t0, t1, t2, t3, t4, t5, t6, t7⟩ : (∀ n : Ext Z, _) ∧ (∀ n : Ext Z, _) ∧ (∀ n : Ext Z, _) ∧ (∀ n : Ext Z, _) ∧ (∀ n : Ext Z, _) ∧ (∀ n : Ext Z, _) ∧ (∀ n : Ext Z, _) ∧ (∀ n : Ext Z, _) :=
            ⟨fun n => (AC.ver (HG9.out.keep (HWZ.out.trans n.bl))).1, fun n => (AC.ver (HG9.out.keep (HWZ.out.trans n.bl))).2.1, fun n => (AC.ver (HG9.out.keep (HWZ.out.trans n.bl))).2.2.1, fun n => (AC.ver (HG9.out.keep (HWZ.out.trans n.bl))).2.2.2.1, fun n => (AC.ver (HG9.out.keep (HWZ.out.trans n.bl))).2.2.2.2.1, fun n => (AC.ver (HG9.out.keep (HWZ.out.trans n.bl))).2.2.2.2.2.1, fun n => (AC.ver (HG9.out.keep (HWZ.out.trans n.bl))).2.2.2.2.2.2.1, fun n => (AC.ver (HG9.out.keep (HWZ.out.trans n.bl))).2.2.2.2.2.2.2⟩
          repeat (refine wpS_step (fun K hK => ?_); go_simp; refine hK _ ?_; clear hK K)
          refine wpS_nil ?_
          intro q1
          have HW10 := Lib.hid (HWZ.out.trans q1.bl)
          have HWA := Lib.hid (HDR.out.trans q1.bl)
          clear HWZ HDR p0 p1 p2 p3 p4 p5 p6 p7 t0 t1 t2 t3 t4 t5 t6 t7 
          generalize ExtC.at q1 = X10 at *
          have HFIN := Lib.hid (show RX key seen w1 X10 gx l k (VC.mk y.key ja jn jc (joinL y.at_ U.at_) y.origin y.tx ⟨rk, rx, rn, rs⟩) from ⟨by have := HO1.out.hi; omega, HIS.out, HRO.out, HO1.out.kk, HO1.out.og, HF9.out.keep HW10.out, HN.out, HG9.out.keep HW10.out, Bl.trans HW9.out HW10.out, HO1.out.lo⟩)
          go_wp2_with fail
          go_roundw
          case rel => exact ⟨k, (k : Int) - 1, _, HFIN.out, rfl, rfl⟩
          case measure => simp [intOf]
end Go.Proofs.YtfjjnffifnohkaaGreat
end
