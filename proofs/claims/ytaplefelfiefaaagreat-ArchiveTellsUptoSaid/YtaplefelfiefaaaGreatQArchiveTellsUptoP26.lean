import Derived.Test.YtaplefelfiefaaaGreatQArchiveTellsUptoP9
import Derived.Test.YtaplefelfiefaaaGreatQArchiveTellsUptoP21
import Derived.Test.YtaplefelfiefaaaGreatQArchiveTellsUptoP24
import Derived.Test.YtaplefelfiefaaaGreatQArchiveTellsUptoP23
import Derived.Test.YtaplefelfiefaaaGreatQArchiveTellsUptoP18
import Derived.Test.YtaplefelfiefaaaGreatQArchiveTellsUptoP25

/- bedrockref1.Sum. By an AI agent. -/
section
set_option linter.unusedVariables false
set_option linter.unusedSimpArgs false
namespace Go.Proofs.YtaplefelfiefaaaGreat
open Go.RowKit

theorem xor_halfI (y : Nat) (h : y < 4294967296) : bits .xor .i64 ((y : Int) / 2) 2197175160 = ((y / 2 ^^^ 2197175160 : Nat) : Int) := by
  rw [show ((y : Int) / 2) = ((y / 2 : Nat) : Int) by omega]
  exact xor_i64 (y / 2) 2197175160 (by omega) (by decide)
theorem xor_halfT (y : Nat) (h : y < 4294967296) : bits .xor .i64 ((y : Int).tdiv 2) 2197175160 = ((y / 2 ^^^ 2197175160 : Nat) : Int) := by
  rw [Int.tdiv_eq_ediv_of_nonneg (by omega)]
  exact xor_halfI y h
theorem half_i64 (y : Nat) : (y : Int).tdiv 2 = ((y / 2 : Nat) : Int) := by rw [Int.tdiv_eq_ediv_of_nonneg (by omega)]; omega
theorem odd_i64 (y : Nat) : (y : Int).tmod 2 = ((y % 2 : Nat) : Int) := by rw [Int.tmod_eq_emod_of_nonneg (by omega)]; omega
theorem sum_endI (x : Nat) (h : x < 4294967296) : bits .xor .i64 (x : Int) 4294967295 = ((x ^^^ 4294967295 : Nat) : Int) := xor_i64 x 4294967295 h (by decide)
set_option maxHeartbeats 800000 in
set_option maxRecDepth 100000 in
theorem refSum_any (s : ByteArray) (w : World) (hs : s.size ≤ 140737488351232) :
    Calls Tryz.prog 26 #[.string s] w fun e w' => e = .returned (.int .i64 (sumL s.data.toList)) ∧ w = w' := by
  go_enter Tryz.func26, Tryz.ntmps26
  go_wp2
  go_loop [3, 4] (fun x i => ∃ k : Nat, k ≤ s.size ∧ i = .int .i64 k ∧ x = .int .i64 (crcL (s.data.toList.take k) : Nat)) (fun _ i => s.size - (intOf i).toNat)
  case atStart => exact ⟨0, Nat.zero_le _, rfl, rfl⟩
  case round =>
    obtain ⟨k, hk, rfl, rfl⟩ := hrel
    have hc := crcL_lt (s.data.toList.take k)
    by_cases hlt : k < s.size
    · have hT := Lib.hid (crcL_take hlt)
      have hb := byte32 s[k]
      have hx := xor_i64 (crcL (s.data.toList.take k)) s[k].toNat hc hb
      have hx2 := xor32 hc hb
      have hb8 := UInt8.toNat_lt s[k]
      generalize crcL (s.data.toList.take k) = c at *
      have HB := Lib.hid (crcN_full c s[k])
      clear hb
      generalize c ^^^ s[k].toNat = c0 at *
      go_wp2
      go_loop [3, 5] (fun x i => ∃ j : Nat, j ≤ 8 ∧ i = .int .i64 j ∧ x = .int .i64 (crcN j c0 : Nat)) (fun _ i => 8 - (intOf i).toNat)
      case atStart => exact ⟨0, Nat.zero_le _, rfl, rfl⟩
      case round =>
        obtain ⟨j, hj, rfl, rfl⟩ := hrel
        have hcj := crcN_lt hx2 j
        by_cases hj8 : j < 8
        · have hS : crcN (j + 1) c0 = crcStep (crcN j c0) := rfl
          have HS := Lib.hid hS
          clear hS
          generalize crcN j c0 = y at *
          have ho := odd_i64 y
          have hd := half_i64 y
          by_cases hodd : y % 2 = 1
          · rw [hodd] at ho
            have hxo := xor_halfI y hcj
            have hxo2 := xor_halfT y hcj
            have HE := Lib.hid (crc_odd hodd)
            clear hodd
            go_wp2
            go_round
            case rel => exact ⟨j + 1, by omega, by go_num, by rw [HS.out, HE.out]⟩
            case measure => simp [intOf]; omega
          · have he : y % 2 = 0 := by omega
            rw [he] at ho
            have HE := Lib.hid (crc_even he)
            clear hodd he
            go_wp2
            go_round
            case rel => exact ⟨j + 1, by omega, by go_num, by rw [HS.out, HE.out]; exact congrArg (Value.int .i64) (by omega)⟩
            case measure => simp [intOf]; omega
        · have e8 : j = 8 := by omega
          subst e8
          have HE := Lib.hid (hT.out.trans HB.out.symm)
          generalize crcN 8 c0 = y at *
          go_wp2
          go_round
          case rel => exact ⟨k + 1, by omega, by go_num, by rw [HE.out]⟩
          case measure => simp [intOf]; omega
    · have e : s.data.toList.take k = s.data.toList := List.take_of_length_le (by simp; omega)
      have he := sum_endI _ hc
      have hr := sumL_lt s.data.toList
      rw [e] at hc he ⊢
      change bits .xor .i64 _ _ = ((sumL s.data.toList : Nat) : Int) at he
      go_wp2
      go_ret
      exact ⟨ret_int rfl, rfl⟩
end Go.Proofs.YtaplefelfiefaaaGreat
end

/- bedrockref3.Put of a valid vector. By an AI agent. -/
section
set_option linter.unusedVariables false
set_option linter.unusedSimpArgs false
namespace Go.Proofs.YtaplefelfiefaaaGreat
open Go.RowKit

theorem refPut6 (x : Int) (w : World) (h0 : 0 ≤ x) (h1 : x < 281474976710656) :
    Calls Tryz.prog 24 #[.int .i64 x, .int .i64 6] w fun e w' => e = .returned (.tuple #[.string (strL (bytesN (putN x 6 6))), .int .i64 0]) ∧ Bl w w' := by
  obtain ⟨v, rfl⟩ := Int.eq_ofNat_of_zero_le h0
  have := refPut_any v 6 w (by decide) (by decide) (by omega) (Nat.div_eq_of_lt (by have : (2 : Nat) ^ (8 * 6) = 281474976710656 := by decide
                                                                                    omega))
  exact this
set_option maxHeartbeats 1600000 in
set_option maxRecDepth 100000 in
theorem rput3_yes (a : Option Addr) (n ca : Nat) (xs : List Int) (w : World) (hx : IA w a n xs) (hv : validL xs = true) :
    Calls Tryz.prog 23 #[.slice a n ca] w fun e w' => e = .returned (.tuple #[.string (strL (putL xs)), .int .i64 0]) ∧ Bl w w' := by
  have hpt := valid_parts hv
  have h1 : 1 ≤ n := by rw [← hx.len]; exact hpt.1
  have h8 : n ≤ 8 := by rw [← hx.len]; exact hpt.2.1
  have HP := Lib.hid hpt.2.2; clear hpt
  have HX := Lib.hid hx.len
  have HV := Lib.hid hv; clear hv
  have hw8 : IntKind.u8.wrap (n : Int) = n := by rw [IntKind.wrap_u8]; omega
  go_enter Tryz.func23, Tryz.ntmps23
  go_wp2_with fail
  refine (rvalid_any a n ca xs _ hx).mono ?_
  rintro e w' ⟨rfl, rfl⟩
  rw [HV.out]
  have hcv : (convert 75 9 (.slice (some ⟨w.heap.size, 0, none⟩) 1 1)).run Tryz.prog (w.alloc (.cells #[.int .u8 n] 5)) = .ok (.string (strOfNums [(n : Int)])) (w.alloc (.cells #[.int .u8 n] 5)) :=
    AR.string (xs := [(n : Int)]) ⟨_, heap_alloc_new w _⟩ 0 1 1 rfl
  have hbl := (Bl.refl w).alloc (.cells #[.int .u8 n] 5)
  go_wp2_with fail
  go_loopw [4, 5] (fun s i wr => ∃ (k : Nat) (l : List UInt8), k ≤ n ∧ i = .int .i64 k ∧ s = .string (strL l) ∧ Bl w wr ∧ l = UInt8.ofNat n :: putBodyL (xs.take k)) (fun _ i _ => n - (intOf i).toNat)
  case atStart => exact ⟨0, _, Nat.zero_le _, rfl, rfl, hbl, rfl⟩
  case round =>
    clear hbl hcv
    obtain ⟨k, l, hk, rfl, rfl, hb, hl⟩ := hrel
    have hll : l.length ≤ 49 := by rw [hl, List.length_cons, putBodyL_len, List.length_take]; omega
    have HL := Lib.hid hl; clear hl
    have zl := strL_size l
    by_cases hlt : k < n
    · obtain ⟨ba, oa, rfl, hca⟩ := hx.cells k hlt
      have ha := hb.cell (hca k hlt)
      clear hca
      have hpk := HP.out k (by rw [HX.out]; exact hlt)
      have HG := Lib.hid (fun w => refPut6 (nth xs k) w hpk.1 hpk.2)
      have zq : (strL (bytesN (putN (nth xs k) 6 6))).size = 6 := by rw [strL_size, bytesN_len, putN_len]
      have HA := Lib.hid (strL_app l (bytesN (putN (nth xs k) 6 6)))
      generalize strL (bytesN (putN (nth xs k) 6 6)) = q at *
      generalize strL l = sl at *
      have hsum : (9223372036854775807 < sl.size + q.size) = False := eq_false (by omega)
      go_wp2_with fail
      refine (HG.out _).mono ?_
      rintro e w2 ⟨rfl, hb2⟩
      go_wp2_with fail
      go_roundw
      case rel => exact ⟨k + 1, _, by omega, by go_num, congrArg Value.string HA.out, hb.trans hb2, by rw [HL.out, take_nth (by rw [HX.out]; exact hlt), putBodyL_snoc]; rfl⟩
      case measure => simp [intOf]; omega
    · have hfin : l = putL xs := by
        rw [HL.out, putL, HX.out, List.take_of_length_le (by rw [HX.out]; omega)]
      have HF := Lib.hid hfin; clear hfin
      go_wp2_with fail
      go_ret2
      exact ⟨congrArg (fun l : List UInt8 => Ending.returned (.tuple #[.string (strL l), .int .i64 0])) HF.out, hb⟩
end Go.Proofs.YtaplefelfiefaaaGreat
end

/- bedrockref24.Write of an archive. By an AI agent. -/
section
set_option linter.unusedVariables false
set_option linter.unusedSimpArgs false
namespace Go.Proofs.YtaplefelfiefaaaGreat
open Go.RowKit
attribute [local go_sem] eOp eOper eUpon

theorem OB.two {B : Nat} (w : World) (c d : Int) (hB : B ≤ w.heap.size) : OB B (w.alloc (.cells #[.int .u8 c, .int .u8 d] 5)) (.slice (some ⟨w.heap.size, 0, none⟩) 2 2) [c, d] :=
  ⟨by simp, .inr ⟨w.heap.size, 2, #[.int .u8 c, .int .u8 d], rfl, hB, heap_alloc_new w _, Nat.le_refl _, by simp [maxLen], rfl, rfl⟩⟩
theorem numB_one {n : Nat} (h : n < 256) : numB (n : Int) 1 = [UInt8.ofNat n] := by
  rw [show (1 : Nat) = 0 + 1 from rfl, numB_succ]
  rw [show numB ((n : Int) / 256) 0 = [] from rfl, List.nil_append]
  congr 2
  omega
theorem src_num (w : World) (n : Nat) (h : n < 256) : Src Tryz.prog 1 75 (.slice (some ⟨w.heap.size, 0, none⟩) 1 1) (numB (n : Int) 1).length (cellsB (numB (n : Int) 1)) (w.alloc (.cells #[.int .u8 (n : Int)] 5)) := by
  rw [numB_one h]
  have := src_byte w (UInt8.ofNat n)
  rw [show (UInt8.ofNat n).toNat = n from by rw [UInt8.toNat_ofNat']; omega] at this
  exact this
/-- the texts of a pair -/
structure PairTx (key b q2 p1 p3 : ByteArray) : Prop where
  e1 : key ++ q2 = p1
  e2 : p1 ++ b = p3
  yq : q2.size ≤ 2000
  yk : key.size ≤ 2000
  yb : b.size ≤ 2000
  z1 : p1.size ≤ 4000
theorem pair_tx {key : ByteArray} {v : ValL} {a : ActL} (ha : actOf key v = a) (h : pairB (key, v) = true) :
    PairTx key (strL (putA a)) (strL (numB ((putA a).length : Int) 2)) (strL (key.data.toList ++ numB ((putA a).length : Int) 2)) (strL (key.data.toList ++ (numB ((putA a).length : Int) 2 ++ putA a))) := by
  have hf := (pairB_parts h).1
  have h1 := key_size (fits_key hf).1
  have h2 := putA_len (fits_key hf).2
  dsimp only at hf h1 h2
  rw [ha] at h2
  have h3 := size_nil key
  refine ⟨?_, ?_, ?_, ?_, ?_, ?_⟩
  · conv => lhs; rw [← strL_data key]
    exact strL_app _ _
  · rw [strL_app]
    simp only [List.append_assoc]
  all_goals ((try rw [strL_size]); (try simp only [List.length_append, numB_len]); omega)
/-- the head's texts -/
structure HeadTx (t1 q3 q4 p1 p2 p3 : ByteArray) : Prop where
  e1 : (⟨#[66, 69, 68, 82, 79, 67, 75, 49]⟩ : ByteArray) ++ t1 = p1
  e2 : p1 ++ q3 = p2
  e3 : p2 ++ q4 = p3
  y1 : t1.size ≤ 100
  z1 : p1.size ≤ 100
  y3 : q3.size ≤ 100
  z2 : p2.size ≤ 200
  y4 : q4.size ≤ 100
  z3 : p3.size ≤ 300
set_option maxHeartbeats 12800000 in
set_option maxRecDepth 100000 in
theorem r24Write_yes (n parts : Int) (ad : Option Addr) (an ac : Nat) (xs : List Int) (pd : Option Addr) (pn pc : Nat) (ps : List (ByteArray × ValL)) (w : World) (hx : Hid (IA w ad an xs)) (hp : Hid (PA w pd pn ps))
    (hok : Hid (∀ p ∈ ps, p.1.size ≤ 140737488351232 ∧ p.2.Ok)) (hpb : Hid (∀ p ∈ ps, pairB p = true)) (hv : Hid (validArc ⟨n, parts, xs, ps⟩ = true)) (q3 q4 t1 p1 p2 p3 : ByteArray) (ht1 : t1 = strOfNums [n, parts]) (N : Hid (HeadTx t1 q3 q4 p1 p2 p3)) (lf : List UInt8) (hlf : Hid (p3.data.toList = lf))
    (C3 : Hid (∀ w, IA w ad an xs → Calls Tryz.prog 23 #[.slice ad an ac] w fun e w' => e = .returned (.tuple #[.string q3, .int .i64 0]) ∧ Bl w w'))
    (C4 : Hid (∀ w, Calls Tryz.prog 24 #[.int .i64 (pn : Int), .int .i64 4] w fun e w' => e = .returned (.tuple #[.string q4, .int .i64 0]) ∧ Bl w w'))
    (L : List UInt8) (hL : Hid (lf ++ ps.flatMap putPairC = L)) (hLl : L.length ≤ 20000000) :
    Calls Tryz.prog 6 #[.agg #[.int .i64 n, .int .i64 parts, .slice ad an ac, .slice pd pn pc]] w fun e w' => e = .returned (.tuple #[.string (strL (outL L)), .int .i64 (outC L)]) ∧ Bl w w' := by
  have hsf := store_float
  have hpn := hp.out.cap
  have hb := (Bl.refl w).alloc (.cells (arcCs n parts ad an ac pd pn pc).toArray 52)
  have hg := AC.new w _ rfl (arcCs n parts ad an ac pd pn pc) 52
  obtain ⟨c0, c1, c2, c3⟩ := AC.arc hg
  unfold arcCs at hg hb c0 c1 c2 c3
  go_enter Tryz.func6, Tryz.ntmps6
  go_wp2_with fail
  generalize w.alloc _ = W at *
  refine (r24Valid_hid n parts ad an ac xs pd pn pc ps _ (hx.out.keep hb) (hp.out.keep hb) true hv hok).mono ?_
  rintro e W1 ⟨rfl, hb1⟩
  have HB := Lib.hid (hb.trans hb1)
  have HG := Lib.hid (hg.keep hb1)
  clear hb hb1 hg c0 c1 c2 c3
  have c2 := (AC.arc HG.out).2.2.1
  go_wp2_with fail
  refine (C3.out _ (hx.out.keep HB.out)).mono ?_
  rintro e W2 ⟨rfl, hb2⟩
  clear c2
  have c3 := (AC.arc (HG.out.keep hb2)).2.2.2
  go_wp2_with fail
  refine (C4.out _).mono ?_
  rintro e W3 ⟨rfl, hb3⟩
  clear c3
  have HB3 := Lib.hid (HB.out.trans (hb2.trans hb3))
  have HG3 := Lib.hid (HG.out.keep (hb2.trans hb3))
  clear hb2 hb3 HB HG
  obtain ⟨c0, c1, -, -⟩ := AC.arc HG3.out
  have hpt := validArc_parts hv.out
  have hn := hpt.n
  have hq := hpt.parts
  dsimp only at hn hq
  have u1 : IntKind.u8.wrap n = n := by rw [IntKind.wrap_u8]; omega
  have u2 : IntKind.u8.wrap parts = parts := by rw [IntKind.wrap_u8]; omega
  have hst := OB.string (OB.two W3 n parts (Nat.le_refl _)) rfl
  rw [← ht1] at hst
  have HT1 := Lib.hid ht1
  clear ht1 hpt hn hq
  obtain ⟨m1, m2, m3, m4, m5, m6, m7, m8, m9⟩ := N.out
  obtain ⟨v8, w8, hcv, hby, hb8⟩ := BY.conv (W3.alloc (.cells #[.int .u8 n, .int .u8 parts] 5)) p3
  have s1_ : (9223372036854775807 < 8 + t1.size) = False := eq_false (by omega)
  have s2_ : (9223372036854775807 < p1.size + q3.size) = False := eq_false (by omega)
  have s3_ : (9223372036854775807 < p2.size + q4.size) = False := eq_false (by omega)
  have HY8 := Lib.hid (hby.mono (show W3.heap.size ≤ _ by simp))
  have HB8 := Lib.hid (((Bl.refl W3).alloc (.cells #[.int .u8 n, .int .u8 parts] 5)).trans hb8)
  have HG8 := Lib.hid (HG3.out.keep HB8.out)
  clear hby hb8
  have c3 := (AC.arc HG8.out).2.2.2
  obtain ⟨g8, k8, e8⟩ := HY8.out.form
  rw [hlf.out] at HY8 e8
  subst e8
  go_wp2_with fail
  clear hst hcv c0 c1 c3 s1_ s2_ s3_ u1 u2 m1 m2 m3 m4 m5 m6 m7 m8 m9
  have HL0 := Lib.hid hL.out
  go_loopw [8, 9] (fun v i wr => ∃ (k : Nat) (l : List UInt8), k ≤ pn ∧ i = .int .i64 k ∧ BY W3.heap.size wr v l ∧ Bl W3 wr ∧ l = lf ++ (ps.take k).flatMap putPairC) (fun _ i _ => pn - (intOf i).toNat)
  case atStart => exact ⟨0, lf, Nat.zero_le _, rfl, HY8.out, HB8.out, by simp⟩
  case round =>
    obtain ⟨k, l, hk, rfl, hby, hbl, hl⟩ := hrel
    have hll : l.length ≤ 20000000 := by
      have h1 := flatC_take_len ps k
      have h2 := congrArg List.length hL.out
      rw [List.length_append] at h2
      rw [hl, List.length_append]; omega
    have HLN := Lib.hid hl
    have HY := Lib.hid hby
    have HBL := Lib.hid hbl
    clear hl hby hbl HY8 HB8 HG8
    obtain ⟨gv, kv, ev⟩ := HY.out.form
    subst ev
    have c3 := (AC.arc (HG3.out.keep HBL.out)).2.2.2
    by_cases hlt : k < pn
    · have hkl : k < ps.length := by rw [hp.out.len]; exact hlt
      obtain ⟨ba, oa, rfl, _⟩ := hp.out.cells k hlt
      have HPK := Lib.hid (fun (W : World) (hb : Bl w W) => hp.out.get hb hlt)
      have HOK := Lib.hid (hok.out _ (nthQ_mem hkl))
      have HPB := Lib.hid (hpb.out _ (nthQ_mem hkl))
      have HTK := Lib.hid (flatC_take_succ ps hkl)
      have hl2 : (l ++ putPairC (nthQ ps k)).length ≤ 20000000 := by
        have h1 := flatC_take_len ps (k + 1)
        have h2 := congrArg List.length hL.out
        rw [List.length_append] at h2
        rw [HLN.out, List.append_assoc, ← HTK.out, List.length_append]; omega
      have HL2 := Lib.hid hl2
      clear hl2 hkl
      generalize nthQ ps k = p at *
      obtain ⟨key, ⟨pt, px, pm, pz⟩⟩ := p
      obtain ⟨⟨ak, ax, an2, az⟩, hA⟩ : ∃ A : ActL, actOf key ⟨pt, px, pm, pz⟩ = A := ⟨_, rfl⟩
      have HA := Lib.hid hA
      have HT := Lib.hid (pair_tx hA HPB.out)
      have hr : rightB ⟨ak, ax, an2, az⟩ = true := by rw [← hA]; exact (fits_key (pairB_parts HPB.out).1).2
      have HPT : Hid (SB (strL (putA ⟨ak, ax, an2, az⟩)) (putS ⟨ak, ax, an2, az⟩) ∧ putC ⟨ak, ax, an2, az⟩ = 0) := Lib.hid (by
        rw [(putS_right hr).1]
        exact ⟨rfl, (putS_right hr).2⟩)
      have HAO := Lib.hid (show (⟨ak, ax, an2, az⟩ : ActL).Ok from hA ▸ actOf_ok key HOK.out.2)
      have hk64 : key.size ≤ 64 := key_size (fits_key (pairB_parts HPB.out).1).1
      have ha26 := putA_len hr
      have hbz := strL_size (putA ⟨ak, ax, an2, az⟩)
      have HK2 : Hid (∀ w, Calls Tryz.prog 24 #[.int .i64 ((strL (putA ⟨ak, ax, an2, az⟩)).size : Int), .int .i64 2] w fun e w' => e = .returned (.tuple #[.string (strL (numB ((putA ⟨ak, ax, an2, az⟩).length : Int) 2)), .int .i64 0]) ∧ Bl w w') := Lib.hid (fun w => by
        rw [hbz]
        exact rput2 (putA ⟨ak, ax, an2, az⟩).length w (by omega))
      have HPP : Hid (putPairC (key, ⟨pt, px, pm, pz⟩) = numB (key.size : Int) 1 ++ (key.data.toList ++ (numB ((putA ⟨ak, ax, an2, az⟩).length : Int) 2 ++ putA ⟨ak, ax, an2, az⟩))) := Lib.hid (by rw [← hA]; rfl)
      have hu3z : (strL (key.data.toList ++ (numB ((putA ⟨ak, ax, an2, az⟩).length : Int) 2 ++ putA ⟨ak, ax, an2, az⟩))).data.toList = key.data.toList ++ (numB ((putA ⟨ak, ax, an2, az⟩).length : Int) 2 ++ putA ⟨ak, ax, an2, az⟩) := rfl
      rw [← hu3z] at HPP
      clear hA hr ha26 hbz hu3z
      generalize strL (key.data.toList ++ (numB ((putA ⟨ak, ax, an2, az⟩).length : Int) 2 ++ putA ⟨ak, ax, an2, az⟩)) = u3 at *
      generalize strL (key.data.toList ++ numB ((putA ⟨ak, ax, an2, az⟩).length : Int) 2) = u1 at *
      generalize strL (numB ((putA ⟨ak, ax, an2, az⟩).length : Int) 2) = t2 at *
      generalize strL (putA ⟨ak, ax, an2, az⟩) = tb at *
      go_upto_region 9 with fail
      clear c3
      have HBZ := Lib.hid HBL.out.drew
      have HYZ : Hid (BY W3.heap.size wr.drew (.slice (some ⟨gv, 0, none⟩) l.length kv) l) := Lib.hid (HY.out.keep (Bl.refl wr).drew)
      clear HBL HY
      refine wp_region_allS (by kernel_rfl) (by kernel_rfl) ?_
      generalize wr.drew = Z at *
      have H1 := Lib.hid (fun m : Ext Z => r24Act_agg key pt px pm pz ak ax an2 az m.at HOK.out.1 HA)
      have H2 := Lib.hid (fun m : Ext Z => refPut_agg ak ax an2 az tb 0 m.at HAO HPT)
      have c3 : ∀ m : Ext Z, _ := fun m => (AC.arc (HG3.out.keep (HBZ.out.trans m.bl))).2.2.2
      have q0 : ∀ m : Ext Z, _ := fun m => (HPK.out m.at (HB3.out.trans (HBZ.out.trans m.bl))).c0
      have q1 : ∀ m : Ext Z, _ := fun m => (HPK.out m.at (HB3.out.trans (HBZ.out.trans m.bl))).c1
      have q2 : ∀ m : Ext Z, _ := fun m => (HPK.out m.at (HB3.out.trans (HBZ.out.trans m.bl))).c2
      have q3_ : ∀ m : Ext Z, _ := fun m => (HPK.out m.at (HB3.out.trans (HBZ.out.trans m.bl))).c3
      have q4_ : ∀ m : Ext Z, _ := fun m => (HPK.out m.at (HB3.out.trans (HBZ.out.trans m.bl))).c4
      dsimp only at q0 q1 q2 q3_ q4_
      repeat (refine wpS_step (fun K hK => ?_); go_simp; first | (refine hK _ ?_; clear hK K) | (apply Exists.intro; refine ⟨fun m => ?_, hK _ ?_⟩; (first | with_reducible exact H1.out m | with_reducible exact H2.out m); clear hK K))
      refine wpS_nil ?_
      intro q5
      replace HBZ := Lib.hid (HBZ.out.trans q5.bl)
      replace HYZ := Lib.hid (HYZ.out.keep q5.bl)
      clear c3 q0 q1 q2 q3_ q4_ H1 H2
      generalize ExtC.at q5 = Z2 at *
      go_wp2_with fail
      refine (HK2.out _).mono ?_
      rintro e Z3 ⟨rfl, hb⟩
      replace HBZ := Lib.hid (HBZ.out.trans hb)
      replace HYZ := Lib.hid (HYZ.out.keep hb)
      clear hb HK2 q5
      have c3 := (AC.arc (HG3.out.keep HBZ.out)).2.2.2
      have c0 := (HPK.out _ (HB3.out.trans HBZ.out)).c0
      dsimp only at c0
      have wk : IntKind.u8.wrap (key.size : Int) = (key.size : Int) := by rw [IntKind.wrap_u8]; omega
      have hzz := HBZ.out.size
      have hz1 : l.length + (numB (key.size : Int) 1).length ≤ 40000000 := by rw [numB_len]; omega
      go_wp2_with (at_builtin; refine wpList_appBY rfl _ _ _ rfl W3.heap.size _ l rfl (HYZ.out.keep ((Bl.refl Z3).alloc _)) ?cB _ (numB (key.size : Int) 1) rfl (src_num Z3 key.size (by omega)) hz1 ?_)
      case cB => simp; omega
      intro v9 W9 hy9 hg9
      have hb9 := (HYZ.out.keep ((Bl.refl Z3).alloc (.cells #[.int .u8 (key.size : Int)] 5))).grow (HBZ.out.alloc (.cells #[.int .u8 (key.size : Int)] 5)) (Nat.le_refl _) hg9
      have HB9 := Lib.hid hb9
      have HY9 := Lib.hid hy9
      clear hy9 hg9 hb9 HYZ HBZ c3 c0 wk hzz hz1
      obtain ⟨g9, k9, e9⟩ := HY9.out.form
      subst e9
      have c3 := (AC.arc (HG3.out.keep HB9.out)).2.2.2
      have c0 := (HPK.out _ (HB3.out.trans HB9.out)).c0
      dsimp only at c0
      have e1 := HT.out.e1
      have e2 := HT.out.e2
      have s1_ : (9223372036854775807 < key.size + t2.size) = False := eq_false (by have := HT.out.yk; have := HT.out.yq; omega)
      have s2_ : (9223372036854775807 < u1.size + tb.size) = False := eq_false (by have := HT.out.yb; have := HT.out.z1; omega)
      have hzz := HB9.out.size
      have hz1 : (l ++ numB (key.size : Int) 1).length + u3.data.toList.length ≤ 40000000 := by
        have h2 := HL2.out
        rw [HPP.out, ← List.append_assoc, List.length_append] at h2
        omega
      go_wp2_with (at_builtin; refine wpList_appBY rfl _ _ _ rfl W3.heap.size _ (l ++ numB (key.size : Int) 1) rfl HY9.out hzz _ u3.data.toList rfl (src_str _ u3) hz1 ?_)
      intro v7 W7 hy7 hg7
      have hb7 := HY9.out.grow HB9.out (Nat.le_refl _) hg7
      rw [← HPP.out] at hy7
      have HB7 := Lib.hid hb7
      have HY7 := Lib.hid hy7
      clear hy7 hg7 hb7 HY9 HB9 c3 c0 e1 e2 s1_ s2_ hzz hz1
      go_wp2_with fail
      go_roundw
      case rel => exact ⟨k + 1, _, by omega, by go_num, HY7.out, HB7.out, by rw [HTK.out, HLN.out, List.append_assoc]⟩
      case measure => simp [intOf]; omega
    · have hkp : k = pn := by omega
      subst hkp
      have hfin : l = L := by rw [HLN.out, List.take_of_length_le (by rw [hp.out.len]; exact Nat.le_refl _)]; exact hL.out
      subst hfin
      have HSM := Lib.hid (fun w => refSum_any (strL l) w (by rw [strL_size]; omega))
      rw [show (strL l).data.toList = l from rfl] at HSM
      have hsl := sumL_lt l
      have HN4 := Lib.hid (fun w => rput4 (sumL l) w (by omega))
      have HOUT : Hid ((l.length + 4 ≤ 524288 → outL l = sealL l ∧ outC l = 0) ∧ (¬ l.length + 4 ≤ 524288 → outL l = [] ∧ outC l = 2)) := Lib.hid (by
        unfold outL outC
        exact ⟨fun h => by rw [if_pos h, if_pos h]; exact ⟨rfl, rfl⟩, fun h => by rw [if_neg h, if_neg h]; exact ⟨rfl, rfl⟩⟩)
      obtain ⟨z, hz⟩ : ∃ z, l.length + 4 = z := ⟨_, rfl⟩
      have wz : IntKind.i64.wrap ((l.length : Int) + 4) = (z : Int) := by rw [IntKind.wrap_i64]; omega
      rw [hz] at HOUT
      have hcv := HY.out.str
      have e5 : strL l ++ strL (numB (sumL l : Int) 4) = strL (sealL l) := strL_app _ _
      have s5_ : (9223372036854775807 < (strL l).size + (strL (numB (sumL l : Int) 4)).size) = False := eq_false (by rw [strL_size, strL_size, numB_len]; omega)
      by_cases hz5 : z ≤ 524288
      · have q1_ : decide ((524288 : Int) < (z : Int)) = false := decide_eq_false (by omega)
        have q2_ : decide (524288 < z) = false := decide_eq_false (by omega)
        have HO := Lib.hid (HOUT.out.1 hz5)
        clear hz5 hz
        generalize hso : strL (sealL l) = so at *
        have HSO := Lib.hid hso
        clear hso
        generalize strL (numB (sumL l : Int) 4) = t5 at *
        generalize hsle : strL l = sl at *
        have HSLE := Lib.hid hsle
        clear hsle
        go_wp2_with fail
        refine (HSM.out _).mono ?_
        rintro e W4 ⟨rfl, rfl⟩
        go_wp2_with fail
        refine (HN4.out _).mono ?_
        rintro e W5 ⟨rfl, hb5⟩
        have hcv2 := (HY.out.keep hb5).str
        rw [HSLE.out] at hcv2
        go_wp2_with fail
        go_ret2
        rw [HO.out.1, HO.out.2, HSO.out]
        exact ⟨rfl, HB3.out.trans (HBL.out.trans hb5)⟩
      · have q1_ : decide ((524288 : Int) < (z : Int)) = true := decide_eq_true (by omega)
        have q2_ : decide (524288 < z) = true := decide_eq_true (by omega)
        have HO := Lib.hid (HOUT.out.2 hz5)
        clear hz5 hz
        go_wp2_with fail
        go_ret2
        rw [HO.out.1, HO.out.2]
        exact ⟨rfl, HB3.out.trans HBL.out⟩
/-- bedrockref24.Write is archive.Write -/
theorem r24Write_any (a : ArcL) (ad : Option Addr) (an ac : Nat) (pd : Option Addr) (pn pc : Nat) (w : World) (hx : IA w ad an a.at_) (hp : PA w pd pn a.pairs) (ok : ArcOk a) :
    Calls Tryz.prog 6 #[.agg #[.int .i64 a.n, .int .i64 a.parts, .slice ad an ac, .slice pd pn pc]] w fun e w' => e = .returned (.tuple #[.string (strL (wrL a)), .int .i64 (wrC a)]) ∧ Bl w w' := by
  cases hv : validArc a
  · have e1 : wrL a = [] := by unfold wrL; rw [hv]; rfl
    have e2 : wrC a = 1 := by unfold wrC; rw [hv]; rfl
    rw [e1, e2]
    exact r24Write_no a.n a.parts ad an ac a.at_ pd pn pc a.pairs w hx hp (Lib.hid ok) (Lib.hid hv)
  · have e1 : wrL a = outL (bodyArc a) := by unfold wrL; rw [hv]; rfl
    have e2 : wrC a = outC (bodyArc a) := by unfold wrC; rw [hv]; rfl
    rw [e1, e2]
    have h := validArc_parts hv
    have hn := h.n
    have hpt := h.parts
    have hfew := h.few
    have hpl := hp.len
    have hax := putL_small h.at_
    have hb8 : beginL.length = 8 := rfl
    have h64 := (headArc_len h).1
    have hfl := flatC_len a.pairs (fun p hp => h.pair hp)
    have e3 : numB (a.pairs.length : Int) 4 = numB (pn : Int) 4 := by rw [hpl]
    have e0 : strOfNums [a.n, a.parts] = strL (numB a.n 1 ++ numB a.parts 1) := by
      obtain ⟨n, parts, xs, ps⟩ := a
      dsimp only at hn hpt ⊢
      obtain ⟨n, rfl⟩ := Int.eq_ofNat_of_zero_le (show 0 ≤ n by omega)
      obtain ⟨q, rfl⟩ := Int.eq_ofNat_of_zero_le (show 0 ≤ parts by omega)
      rw [numB_one (by omega), numB_one (by omega)]
      rfl
    refine r24Write_yes a.n a.parts ad an ac a.at_ pd pn pc a.pairs w (Lib.hid hx) (Lib.hid hp) (Lib.hid ok) (Lib.hid fun p hp => h.pair hp) (Lib.hid hv)
      (strL (putL a.at_)) (strL (numB (pn : Int) 4)) (strL (numB a.n 1 ++ numB a.parts 1)) (strL (beginL ++ (numB a.n 1 ++ numB a.parts 1))) (strL ((beginL ++ (numB a.n 1 ++ numB a.parts 1)) ++ putL a.at_)) (strL (headArc a))
      e0.symm (Lib.hid ?_) (headArc a) (Lib.hid rfl) (Lib.hid fun w hx => rput3_yes ad an ac a.at_ w hx h.at_) (Lib.hid fun w => rput4 pn w (by omega)) (bodyArc a) (Lib.hid rfl) ?_
    · constructor
      all_goals first | exact strL_app beginL _ | exact strL_app _ _ | (rw [strL_app]; unfold headArc; rw [e3]; simp only [List.append_assoc]; done) | (rw [strL_size]; (try simp only [List.length_append, numB_len]); omega)
    · unfold bodyArc
      rw [List.length_append]; omega
end Go.Proofs.YtaplefelfiefaaaGreat
end
