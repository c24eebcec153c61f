import Derived.Test.YtkgpkkdcadkpmaaGreatDoorQRGet0
import Derived.Test.YtkgpkkdcadkpmaaGreatDoorQR5Put
import Derived.Test.YtkgpkkdcadkpmaaGreatDoorQIkeyTellsUptoP16

/- bedrockref5.Get (printed by a program). By an AI agent. -/
section
set_option linter.unusedVariables false
set_option linter.unusedSimpArgs false
namespace Go.Proofs.YtkgpkkdcadkpmaaGreatDoor
open Go.RowKit

theorem r5get_results {tmps : Array Value} {W : World} {g : Nat} {c0 c1 c2 c3 c4 c5 c6 c7 : Value} {v1 : Int} (h : tmps.getD 2 undef = .pointer (some ⟨g, 0, none⟩)) (h3 : tmps.getD 3 undef = .int .i64 v1) (hc : AC W g [c0, c1, c2, c3, c4, c5, c6, c7]) :
    (results Tryz.f9 tmps).run Tryz.prog W = .ok (.tuple #[.agg #[c0, c1, c2, c3, c4, c5, c6, c7], .int .i64 v1]) W := by
  have d0 := hc.cell 0 _ rfl
  have d1 := hc.cell 1 _ rfl
  have d2 := hc.cell 2 _ rfl
  have d3 := hc.cell 3 _ rfl
  have d4 := hc.cell 4 _ rfl
  have d5 := hc.cell 5 _ rfl
  have d6 := hc.cell 6 _ rfl
  have d7 := hc.cell 7 _ rfl
  rw [Array.getD_eq_getD_getElem?] at h h3
  simp [results, Tryz.results9, go_sem, h, h3, d0, d1, d2, d3, d4, d5, d6, d7]
theorem OB.str {B : Nat} {w : World} {v : Value} {xs : List UInt8} (h : OB B w v (numK xs)) : (convert 66 9 v).run Tryz.prog w = .ok (.string ⟨xs.toArray⟩) w := by
  obtain ⟨h1, ⟨h2, h3⟩ | ⟨g, cap, cur, hv, hgB, hh, hcap, hmx, hcs, htk⟩⟩ := h
  · subst h2
    have hxs : xs = [] := List.length_eq_zero_iff.1 (by rw [← numK_len]; exact h3)
    subst hxs
    exact run_convert_bytes_nil (P := Tryz.prog) (w := w) 66 5 Tryz.underlying66 Tryz.underlying5 0 0 9 Tryz.underlying9
  · subst hv
    have ho3 : OB B w (.slice (some ⟨g, 0, none⟩) (numK xs).length cap) (numK xs) := ⟨h1, .inr ⟨g, cap, cur, rfl, hgB, hh, hcap, hmx, hcs, htk⟩⟩
    have := OB.string ho3 rfl
    rw [str_numK] at this
    exact this
theorem getN_one (l : List UInt8) : 0 ≤ getN (l.take 1) ∧ getN (l.take 1) ≤ 255 := by
  have h := getN_bound (l.take 1)
  have h1 : (l.take 1).length ≤ 1 := by rw [List.length_take]; omega
  have p0 : (256 : Int) ^ 0 = 1 := rfl
  have p1 : (256 : Int) ^ 1 = 256 := rfl
  rcases (show (l.take 1).length = 0 ∨ (l.take 1).length = 1 by omega) with e | e
  · rw [e] at h; omega
  · rw [e] at h; omega

set_option maxHeartbeats 3200000 in
set_option maxRecDepth 100000 in
theorem r5get_any (s : ByteArray) (l : List UInt8) (w : World) (hs : SB s l) (hz : l.length ≤ 1000000) :
    Calls Tryz.prog 9 #[.string s] w (KGPost w l) := by
  obtain ⟨i0, hi, hz0, hz1, hz2⟩ := info_parts info_byte
  have hsf := store_float
  have hsl : s.size = l.length := hs.size
  have HS := Lib.hid hs
  have G0 := Lib.hid (AC.new w _ rfl [.string ⟨#[]⟩, .slice none 0 0, .int .i64 0, .int .i64 0, .int .i64 0, .float .f64 0, .int .i64 0, .string ⟨#[]⟩] 28)
  have hb0 := (Bl.refl w).alloc (.cells #[.string ⟨#[]⟩, .slice none 0 0, .int .i64 0, .int .i64 0, .int .i64 0, .float .f64 0, .int .i64 0, .string ⟨#[]⟩] 28)
  have hgl : w.heap.size < (w.alloc (.cells #[.string ⟨#[]⟩, .slice none 0 0, .int .i64 0, .int .i64 0, .int .i64 0, .float .f64 0, .int .i64 0, .string ⟨#[]⟩] 28)).heap.size := by simp
  clear hs
  go_enter Tryz.func9, Tryz.ntmps9
  go_wp2_with fail
  have HB0 := Lib.hid hb0
  clear hb0
  generalize hgg : w.heap.size = g at *
  have HGG := Lib.hid hgg
  clear hgg
  generalize w.alloc (.cells #[.string ⟨#[]⟩, .slice none 0 0, .int .i64 0, .int .i64 0, .int .i64 0, .float .f64 0, .int .i64 0, .string ⟨#[]⟩] 28) = W0 at *
  go_loopw [4, 5] (fun v i wr => ∃ (k : Nat) (xs : List UInt8), k ≤ l.length ∧ i = .int .i64 k ∧ Bl W0 wr ∧ OB W0.heap.size wr v (numK xs) ∧ xs.length ≤ k ∧ preK xs (lenK (l.drop k)) = lenK l) (fun _ i _ => l.length - (intOf i).toNat)
  case atStart => exact ⟨0, [], Nat.zero_le _, rfl, Bl.refl _, OB.nil _ _, Nat.le_refl _, rfl⟩
  case round =>
    obtain ⟨k, xs, hkl, rfl, hbl, hown, hxk, hp⟩ := hrel
    have hsz := hbl.size
    have HP := Lib.hid hp
    clear hp
    have hxl : (numK xs).length ≤ 1000000 := by rw [numK_len]; omega
    by_cases hA : k + 1 < l.length
    · have hAs : k + 1 < s.size := by omega
      have ek : s[k]'(by omega) = l[k]'(by omega) := HS.out.get k (by omega) (by omega)
      have ek1 : s[k + 1]'hAs = l[k + 1]'hA := HS.out.get (k + 1) hAs hA
      have ED := Lib.hid (show l.drop k = l[k]'(by omega) :: l[k + 1]'hA :: l.drop (k + 2) by rw [List.drop_eq_getElem_cons (by omega), List.drop_eq_getElem_cons hA])
      by_cases hc : (l[k]'(by omega)) = 0
      · have q0 : ((s[k]'(by omega)).toNat : Int) = 0 := by rw [ek, hc]; rfl
        by_cases hd : (l[k + 1]'hA) = 1
        · have q1 : ((s[k + 1]'hAs).toNat : Int) = 1 := by rw [ek1, hd]; rfl
          have HE : Hid (lenK l = (xs, l.drop k)) := Lib.hid (by rw [← HP.out, ED.out, hc, hd, preK_end])
          clear ek ek1 hc hd HP ED
          have HO := Lib.hid hown
          have HBT := Lib.hid hbl
          clear hown hbl
          by_cases h15 : k + 15 ≤ l.length
          · have h15s : k + 15 ≤ s.size := by omega
            have hx1 : s.extract (k + 8) (k + 9) = strL ((l.drop (k + 8)).take 1) := by rw [strL_of HS.out, strL_ext]; congr 2; omega
            have hx2 : s.extract (k + 9) (k + 15) = strL ((l.drop (k + 9)).take 6) := by rw [strL_of HS.out, strL_ext]; congr 2; omega
            have hx3 : s.extract (k + 15) l.length = strL (l.drop (k + 15)) := by rw [← hsl, strL_of HS.out, strL_drop]
            have z1 : ((l.drop (k + 8)).take 1).length = 1 := by rw [List.length_take, List.length_drop]; omega
            have z2 : ((l.drop (k + 9)).take 6).length = 6 := by rw [List.length_take, List.length_drop]; omega
            have G1 := Lib.hid (fun w => refGet_any (strL ((l.drop (k + 8)).take 1)) w (by rw [strL_size, z1]; omega) (by rw [strL_size, z1]; omega))
            have G2 := Lib.hid (fun w => refGet_any (strL ((l.drop (k + 9)).take 6)) w (by rw [strL_size, z2]; omega) (by rw [strL_size, z2]; omega))
            have G3 := Lib.hid (fun w => rget3_c (l.drop (k + 15)) w (by rw [List.length_drop]; omega))
            rw [show (strL ((l.drop (k + 8)).take 1)).data.toList = (l.drop (k + 8)).take 1 from rfl] at G1
            rw [show (strL ((l.drop (k + 9)).take 6)).data.toList = (l.drop (k + 9)).take 6 from rfl] at G2
            have b1 := getN_one (l.drop (k + 8))
            have b2 := get6_bound (l.drop (k + 9))
            obtain ⟨o1, ho1⟩ : ∃ o, getN ((l.drop (k + 8)).take 1) = o := ⟨_, rfl⟩
            obtain ⟨x1, hx1'⟩ : ∃ o, getN ((l.drop (k + 9)).take 6) = o := ⟨_, rfl⟩
            rw [ho1] at G1 b1
            rw [hx1'] at G2 b2
            have HO1 := Lib.hid ho1
            have HX1 := Lib.hid hx1'
            clear ho1 hx1' z1 z2
            generalize strL ((l.drop (k + 8)).take 1) = u1 at *
            generalize strL ((l.drop (k + 9)).take 6) = u2 at *
            generalize strL (l.drop (k + 15)) = u3 at *
            go_wp2_with fail
            refine (G1.out _).mono ?_
            rintro e Wa ⟨rfl, rfl⟩
            go_wp2_with fail
            refine (G2.out _).mono ?_
            rintro e Wb ⟨rfl, rfl⟩
            go_wp2_with fail
            refine (G3.out _).mono ?_
            rintro e W3 (⟨at_, m, v3, hr, rfl, hf, hb3⟩ | ⟨hr, rfl, hb3⟩)
            · have HR3 := Lib.hid hr
              have hln := rdV_len hr
              rw [List.length_drop] at hln
              obtain ⟨a3, n3, c3, rfl, _⟩ := hf.si
              have hat : at_.length ≤ 1000000 := by omega
              have HF3 : Hid (FarO wr.heap.size W3 a3 n3 c3 at_) := Lib.hid hf
              have HB3 := Lib.hid (HBT.out.trans hb3)
              have hst := (HO.out.keep hb3).str
              clear hr hf hln hb3
              obtain ⟨c, hcc⟩ : ∃ c, kputC ⟨⟨xs.toArray⟩, at_, 255 - o1, 281474976710655 - x1, ⟨0, 0, 0, ⟨#[]⟩⟩⟩ = c := ⟨_, rfl⟩
              obtain ⟨r, hrr⟩ : ∃ r, strL (kputS ⟨⟨xs.toArray⟩, at_, 255 - o1, 281474976710655 - x1, ⟨0, 0, 0, ⟨#[]⟩⟩⟩) = r := ⟨_, rfl⟩
              have HRC : Hid (SB r (kputS ⟨⟨xs.toArray⟩, at_, 255 - o1, 281474976710655 - x1, ⟨0, 0, 0, ⟨#[]⟩⟩⟩) ∧ kputC ⟨⟨xs.toArray⟩, at_, 255 - o1, 281474976710655 - x1, ⟨0, 0, 0, ⟨#[]⟩⟩⟩ = c) := Lib.hid ⟨by rw [← hrr]; exact strL_SB _, hcc⟩
              clear hrr hcc
              have hks : (⟨xs.toArray⟩ : ByteArray).size ≤ 1000000 := by rw [(SB.mk xs).size]; omega
              obtain ⟨key, hkey⟩ : ∃ key : ByteArray, ⟨xs.toArray⟩ = key := ⟨_, rfl⟩
              have HKEY := Lib.hid hkey
              rw [hkey] at hst HRC hks
              clear hkey
              obtain ⟨o2, ho2⟩ : ∃ o, 255 - o1 = o := ⟨_, rfl⟩
              obtain ⟨x2, hx2'⟩ : ∃ o, 281474976710655 - x1 = o := ⟨_, rfl⟩
              have HO2 := Lib.hid ho2
              have HX2 := Lib.hid hx2'
              have w1 : IntKind.i64.wrap (255 - o1) = o2 := by rw [IntKind.wrap_i64]; omega
              have w2 : IntKind.i64.wrap (281474976710655 - x1) = x2 := by rw [IntKind.wrap_i64]; omega
              rw [ho2, hx2'] at HRC
              have cb := ver_box W3 key a3 n3 c3 o2 x2 0 0 0 ⟨#[]⟩
              have HBv := Lib.hid (HB3.out.alloc (.cells #[.string key, .slice a3 n3 c3, .int .i64 o2, .int .i64 x2, .int .i64 0, .float .f64 0, .int .i64 0, .string ⟨#[]⟩] 28))
              have HFv := Lib.hid (HF3.out.keep ((Bl.refl W3).alloc (.cells #[.string key, .slice a3 n3 c3, .int .i64 o2, .int .i64 x2, .int .i64 0, .float .f64 0, .int .i64 0, .string ⟨#[]⟩] 28)))
              obtain ⟨k0, k1, k2, k3, k4, k5, k6, k7⟩ := cb.ver
              obtain ⟨N, hN⟩ : ∃ N, 1 + 6 * at_.length = N := ⟨_, rfl⟩
              rw [hN]
              have HN := Lib.hid hN
              have hNb : N ≤ 6000001 := by omega
              clear hN
              go_wp2_with fail
              refine (r5put_any key a3 n3 c3 at_ o2 x2 0 0 0 ⟨#[]⟩ r c _ (by omega) HFv.out.far.1 HRC).mono ?_
              rintro e W5 ⟨rfl, hb5⟩
              have cb5 := cb.keep hb5
              have H5 := Lib.hid (HBv.out.trans hb5)
              have HF5 := Lib.hid (HFv.out.keep hb5)
              clear hb5 cb k0 k1 k2 k3 k4 k5 k6 k7 hst w1 w2
              obtain ⟨k0, k1, k2, k3, k4, k5, k6, k7⟩ := cb5.ver
              by_cases hn : k + 15 + N = l.length
              · have n1 : (k : Int) + 15 + (N : Int) = (l.length : Int) := by omega
                by_cases hc0 : c = 0
                · subst hc0
                  by_cases hrs : r = s
                  · subst hrs
                    have hvk : validK ⟨key, at_, o2, x2, ⟨0, 0, 0, ⟨#[]⟩⟩⟩ = true := by
                      have h2 := HRC.out.2
                      unfold kputC at h2
                      cases hv : validK ⟨key, at_, o2, x2, ⟨0, 0, 0, ⟨#[]⟩⟩⟩
                      · rw [hv] at h2; cases h2
                      · rfl
                    have hpk : putK ⟨key, at_, o2, x2, ⟨0, 0, 0, ⟨#[]⟩⟩⟩ = l := by
                      have h2 := HRC.out.1
                      unfold kputS at h2
                      rw [hvk, if_pos rfl] at h2
                      exact h2.symm.trans HS.out
                    have HVK := Lib.hid ((validK_iff _).1 hvk)
                    have HPK := Lib.hid hpk
                    clear hvk hpk
                    have e4 := (G0.out.keep H5.out).frozen
                    have g0 := (G0.out.keep H5.out).cell 0 _ rfl
                    have g1 := (G0.out.keep H5.out).cell 1 _ rfl
                    have g2 := (G0.out.keep H5.out).cell 2 _ rfl
                    have g3 := (G0.out.keep H5.out).cell 3 _ rfl
                    have g4 := (G0.out.keep H5.out).cell 4 _ rfl
                    have g5 := (G0.out.keep H5.out).cell 5 _ rfl
                    have g6 := (G0.out.keep H5.out).cell 6 _ rfl
                    have g7 := (G0.out.keep H5.out).cell 7 _ rfl
                    have H9 := Lib.hid ((G0.out.keep H5.out).set8 (.string key) (.slice a3 n3 c3) (.int .i64 o2) (.int .i64 x2) (.int .i64 0) (.float .f64 0) (.int .i64 0) (.string ⟨#[]⟩))
                    have HF9 := Lib.hid ((HF5.out.set8 (g := g) (by omega) (.string key) (.slice a3 n3 c3) (.int .i64 o2) (.int .i64 x2) (.int .i64 0) (.float .f64 0) (.int .i64 0) (.string ⟨#[]⟩)).mono (show w.heap.size ≤ wr.heap.size by rw [HGG.out]; omega))
                    go_wp2_with fail
                    refine bodyPost_ret (r5get_results rfl rfl H9.out) rfl (.inl ⟨key, a3, n3, c3, at_, o2, x2, rfl, HF9.out, (HB0.out.trans H5.out).store8 (Nat.le_of_eq HGG.out) _ _ _ _ _ _ _ _, HVK.out, HPK.out⟩)
                  · have r1 : (r.toList == s.toList) = false := by rw [beq_eq_false_iff_ne]; exact fun e => hrs (toList_inj e)
                    have HRS := Lib.hid hrs
                    clear hrs
                    have e4 := (G0.out.keep H5.out).frozen
                    have g0 := (G0.out.keep H5.out).cell 0 _ rfl
                    have g1 := (G0.out.keep H5.out).cell 1 _ rfl
                    have g2 := (G0.out.keep H5.out).cell 2 _ rfl
                    have g3 := (G0.out.keep H5.out).cell 3 _ rfl
                    have g4 := (G0.out.keep H5.out).cell 4 _ rfl
                    have g5 := (G0.out.keep H5.out).cell 5 _ rfl
                    have g6 := (G0.out.keep H5.out).cell 6 _ rfl
                    have g7 := (G0.out.keep H5.out).cell 7 _ rfl
                    have H9 := Lib.hid ((G0.out.keep H5.out).set8 (.string ⟨#[]⟩) (.slice none 0 0) (.int .i64 0) (.int .i64 0) (.int .i64 0) (.float .f64 0) (.int .i64 0) (.string ⟨#[]⟩))
                    go_wp2_with fail
                    refine bodyPost_ret (r5get_results rfl rfl H9.out) rfl (.inr ⟨rfl, (HB0.out.trans H5.out).store8 (Nat.le_of_eq HGG.out) _ _ _ _ _ _ _ _, ?_⟩)
                    refine get_no HE.out hkl HR3.out (fun h => HRS.out ?_)
                    rw [HO1.out, HX1.out, HKEY.out, HO2.out, HX2.out] at h
                    have h2 := HRC.out.1
                    unfold kputS at h2
                    rw [h.2.1, if_pos rfl, h.2.2] at h2
                    exact SB.eq h2 HS.out
                · have c1 : (c == 0) = false := by rw [beq_eq_false_iff_ne]; exact hc0
                  have HCC := Lib.hid hc0
                  clear hc0
                  have e4 := (G0.out.keep H5.out).frozen
                  have g0 := (G0.out.keep H5.out).cell 0 _ rfl
                  have g1 := (G0.out.keep H5.out).cell 1 _ rfl
                  have g2 := (G0.out.keep H5.out).cell 2 _ rfl
                  have g3 := (G0.out.keep H5.out).cell 3 _ rfl
                  have g4 := (G0.out.keep H5.out).cell 4 _ rfl
                  have g5 := (G0.out.keep H5.out).cell 5 _ rfl
                  have g6 := (G0.out.keep H5.out).cell 6 _ rfl
                  have g7 := (G0.out.keep H5.out).cell 7 _ rfl
                  have H9 := Lib.hid ((G0.out.keep H5.out).set8 (.string ⟨#[]⟩) (.slice none 0 0) (.int .i64 0) (.int .i64 0) (.int .i64 0) (.float .f64 0) (.int .i64 0) (.string ⟨#[]⟩))
                  go_wp2_with fail
                  refine bodyPost_ret (r5get_results rfl rfl H9.out) rfl (.inr ⟨rfl, (HB0.out.trans H5.out).store8 (Nat.le_of_eq HGG.out) _ _ _ _ _ _ _ _, ?_⟩)
                  refine get_no HE.out hkl HR3.out (fun h => HCC.out ?_)
                  rw [HO1.out, HX1.out, HKEY.out, HO2.out, HX2.out] at h
                  have h2 := HRC.out.2
                  unfold kputC at h2
                  rw [h.2.1, if_pos rfl] at h2
                  exact h2.symm
              · have n1 : ((k : Int) + 15 + (N : Int) == (l.length : Int)) = false := by rw [beq_eq_false_iff_ne]; omega
                have e4 := (G0.out.keep H5.out).frozen
                have g0 := (G0.out.keep H5.out).cell 0 _ rfl
                have g1 := (G0.out.keep H5.out).cell 1 _ rfl
                have g2 := (G0.out.keep H5.out).cell 2 _ rfl
                have g3 := (G0.out.keep H5.out).cell 3 _ rfl
                have g4 := (G0.out.keep H5.out).cell 4 _ rfl
                have g5 := (G0.out.keep H5.out).cell 5 _ rfl
                have g6 := (G0.out.keep H5.out).cell 6 _ rfl
                have g7 := (G0.out.keep H5.out).cell 7 _ rfl
                have H9 := Lib.hid ((G0.out.keep H5.out).set8 (.string ⟨#[]⟩) (.slice none 0 0) (.int .i64 0) (.int .i64 0) (.int .i64 0) (.float .f64 0) (.int .i64 0) (.string ⟨#[]⟩))
                go_wp2_with fail
                refine bodyPost_ret (r5get_results rfl rfl H9.out) rfl (.inr ⟨rfl, (HB0.out.trans H5.out).store8 (Nat.le_of_eq HGG.out) _ _ _ _ _ _ _ _, ?_⟩)
                refine get_no HE.out hkl HR3.out (fun h => hn ?_)
                rw [← HN.out]
                exact h.1
            · have HR3 := Lib.hid hr
              have HB3 := Lib.hid (HBT.out.trans hb3)
              have hst := (HO.out.keep hb3).str
              have hcd := codeV_is (l.drop (k + 15))
              generalize codeV (l.drop (k + 15)) = cd at *
              have hcd0 : (cd == 0) = false := by rw [beq_eq_false_iff_ne]; omega
              have hcd1 : (cd != 0) = true := by rw [bne, hcd0]; rfl
              have hcd2 : ¬ cd = 0 := by omega
              clear hr hb3 hcd
              obtain ⟨c, hcc⟩ : ∃ c, kputC ⟨⟨xs.toArray⟩, [], 255 - o1, 281474976710655 - x1, ⟨0, 0, 0, ⟨#[]⟩⟩⟩ = c := ⟨_, rfl⟩
              obtain ⟨r, hrr⟩ : ∃ r, strL (kputS ⟨⟨xs.toArray⟩, [], 255 - o1, 281474976710655 - x1, ⟨0, 0, 0, ⟨#[]⟩⟩⟩) = r := ⟨_, rfl⟩
              have HRC : Hid (SB r (kputS ⟨⟨xs.toArray⟩, [], 255 - o1, 281474976710655 - x1, ⟨0, 0, 0, ⟨#[]⟩⟩⟩) ∧ kputC ⟨⟨xs.toArray⟩, [], 255 - o1, 281474976710655 - x1, ⟨0, 0, 0, ⟨#[]⟩⟩⟩ = c) := Lib.hid ⟨by rw [← hrr]; exact strL_SB _, hcc⟩
              clear hrr hcc
              have hks : (⟨xs.toArray⟩ : ByteArray).size ≤ 1000000 := by rw [(SB.mk xs).size]; omega
              generalize (⟨xs.toArray⟩ : ByteArray) = key at *
              obtain ⟨o2, ho2⟩ : ∃ o, 255 - o1 = o := ⟨_, rfl⟩
              obtain ⟨x2, hx2'⟩ : ∃ o, 281474976710655 - x1 = o := ⟨_, rfl⟩
              have w1 : IntKind.i64.wrap (255 - o1) = o2 := by rw [IntKind.wrap_i64]; omega
              have w2 : IntKind.i64.wrap (281474976710655 - x1) = x2 := by rw [IntKind.wrap_i64]; omega
              rw [ho2, hx2'] at HRC
              clear ho2 hx2'
              have cb := ver_box W3 key none 0 0 o2 x2 0 0 0 ⟨#[]⟩
              have HBv := Lib.hid (HB3.out.alloc (.cells #[.string key, .slice none 0 0, .int .i64 o2, .int .i64 x2, .int .i64 0, .float .f64 0, .int .i64 0, .string ⟨#[]⟩] 28))
              obtain ⟨k0, k1, k2, k3, k4, k5, k6, k7⟩ := cb.ver
              go_wp2_with fail
              refine (r5put_any key none 0 0 [] o2 x2 0 0 0 ⟨#[]⟩ r c _ (by omega) (IA.nil _ _) HRC).mono ?_
              rintro e W5 ⟨rfl, hb5⟩
              have H5 := Lib.hid (HBv.out.trans hb5)
              clear hb5 cb k0 k1 k2 k3 k4 k5 k6 k7 hst w1 w2
              have e4 := (G0.out.keep H5.out).frozen
              have g0 := (G0.out.keep H5.out).cell 0 _ rfl
              have g1 := (G0.out.keep H5.out).cell 1 _ rfl
              have g2 := (G0.out.keep H5.out).cell 2 _ rfl
              have g3 := (G0.out.keep H5.out).cell 3 _ rfl
              have g4 := (G0.out.keep H5.out).cell 4 _ rfl
              have g5 := (G0.out.keep H5.out).cell 5 _ rfl
              have g6 := (G0.out.keep H5.out).cell 6 _ rfl
              have g7 := (G0.out.keep H5.out).cell 7 _ rfl
              have H9 := Lib.hid ((G0.out.keep H5.out).set8 (.string ⟨#[]⟩) (.slice none 0 0) (.int .i64 0) (.int .i64 0) (.int .i64 0) (.float .f64 0) (.int .i64 0) (.string ⟨#[]⟩))
              go_wp2_with fail
              refine bodyPost_ret (r5get_results rfl rfl H9.out) rfl (.inr ⟨rfl, (HB0.out.trans H5.out).store8 (Nat.le_of_eq HGG.out) _ _ _ _ _ _ _ _, ?_⟩)
              intro V hv h
              have := (lenK_fit hv h HE.out hkl).1
              rw [HR3.out] at this
              cases this
          · have h15s : ¬ (k + 15 ≤ s.size) := by omega
            have h15i : (l.length : Int) < (k : Int) + 15 := by omega
            have e4 := (G0.out.keep (HBT.out)).frozen
            have g0 := (G0.out.keep (HBT.out)).cell 0 _ rfl
            have g1 := (G0.out.keep (HBT.out)).cell 1 _ rfl
            have g2 := (G0.out.keep (HBT.out)).cell 2 _ rfl
            have g3 := (G0.out.keep (HBT.out)).cell 3 _ rfl
            have g4 := (G0.out.keep (HBT.out)).cell 4 _ rfl
            have g5 := (G0.out.keep (HBT.out)).cell 5 _ rfl
            have g6 := (G0.out.keep (HBT.out)).cell 6 _ rfl
            have g7 := (G0.out.keep (HBT.out)).cell 7 _ rfl
            have H9 := (G0.out.keep (HBT.out)).set8 (.string ⟨#[]⟩) (.slice none 0 0) (.int .i64 0) (.int .i64 0) (.int .i64 0) (.float .f64 0) (.int .i64 0) (.string ⟨#[]⟩)
            go_wp2_with fail
            refine bodyPost_ret (r5get_results rfl rfl H9) rfl (.inr ⟨rfl, (HB0.out.trans (HBT.out)).store8 (Nat.le_of_eq HGG.out) _ _ _ _ _ _ _ _, ?_⟩)
            intro V hv h
            have := (lenK_at hv h HE.out hkl).2.1
            omega
        · have q1 : (((s[k + 1]'hAs).toNat : Int) == 1) = false := by
            rw [beq_eq_false_iff_ne]
            intro e
            exact hd (by rw [← ek1]; exact UInt8.toNat_inj.1 (by show _ = 1; omega))
          have HN : Hid (preK (xs ++ [0]) (lenK (l.drop (k + 2))) = lenK l) := Lib.hid (by rw [← HP.out, ED.out, hc, preK_zero hd])
          clear ek ek1 hc hd HP ED
          go_wp2_with (at_builtin; refine wpList_append_own _ rfl _ _ 66 rfl (W0.heap.size) 5 i0 (.int .u8 0) 1 1 Tryz.underlying66 hi hz0 hz1 hz2 rfl (by decide) _ _ _ rfl (World.ownsRow.alloc hown _) ⟨wr.heap.size, 0, none⟩ 1 1 (([(0 : Int)] : List Int).map (Value.int .u8)) rfl rfl ?c1 ?c2 ?c3 ?c4 ?c5 ?_)
          case c1 => exact World.news_of_block (heap_alloc_new _ _)
          case c2 => intro u hu; simp at hu; rcases hu with rfl <;> rfl
          case c3 => unfold maxLen; omega
          case c4 => omega
          case c5 => simp; omega
          intro v' w3 hown' hgrow _
          obtain ⟨R1, R2⟩ := OB.pushL (ys := [(0 : Int)]) hbl hsz hown hown' hgrow
          clear hown hown' hgrow
          go_wp2_with fail
          go_roundw
          case rel => exact ⟨k + 2, xs ++ [0], by omega, by go_num, R2, by rw [numK_push]; exact R1, by simp; omega, HN.out⟩
          case measure => simp [intOf]; omega
      · have q0 : (((s[k]'(by omega)).toNat : Int) == 0) = false := by
          rw [beq_eq_false_iff_ne]
          intro e
          exact hc (by rw [← ek]; exact UInt8.toNat_inj.1 (by show _ = 0; omega))
        have HN : Hid (preK (xs ++ [l[k]'(by omega)]) (lenK (l.drop (k + 1))) = lenK l) := Lib.hid (by rw [← HP.out, ED.out, List.drop_eq_getElem_cons hA, preK_cons hc])
        have HC : Hid (numK (xs ++ [l[k]'(by omega)]) = numK xs ++ [((s[k]'(by omega)).toNat : Int)]) := Lib.hid (by rw [numK_push, ek])
        clear ek ek1 hc HP ED
        go_wp2_with (at_builtin; refine wpList_append_own _ rfl _ _ 66 rfl (W0.heap.size) 5 i0 (.int .u8 0) 1 1 Tryz.underlying66 hi hz0 hz1 hz2 rfl (by decide) _ _ _ rfl (World.ownsRow.alloc hown _) ⟨wr.heap.size, 0, none⟩ 1 1 (([((s[k]'(by omega)).toNat : Int)] : List Int).map (Value.int .u8)) rfl rfl ?c1 ?c2 ?c3 ?c4 ?c5 ?_)
        case c1 => exact World.news_of_block (heap_alloc_new _ _)
        case c2 => intro u hu; simp at hu; rcases hu with rfl <;> rfl
        case c3 => unfold maxLen; omega
        case c4 => omega
        case c5 => simp; omega
        intro v' w3 hown' hgrow _
        obtain ⟨R1, R2⟩ := OB.pushL (ys := [((s[k]'(by omega)).toNat : Int)]) hbl hsz hown hown' hgrow
        clear hown hown' hgrow
        go_wp2_with fail
        go_roundw
        case rel => exact ⟨k + 1, xs ++ [l[k]'(by omega)], by omega, by go_num, R2, by rw [HC.out]; exact R1, by simp; omega, HN.out⟩
        case measure => simp [intOf]; omega
    · have HE : Hid (lenK l = (xs, l.drop k)) := Lib.hid (by rw [← HP.out, preK_short (by rw [List.length_drop]; omega)])
      have hAs : ¬ (k + 1 < s.size) := by omega
      clear HP
      have HO := Lib.hid hown
      have HBT := Lib.hid hbl
      clear hown hbl
      have h15 : ¬ (k + 15 ≤ l.length) := by omega
      have h15s : ¬ (k + 15 ≤ s.size) := by omega
      have h15i : (l.length : Int) < (k : Int) + 15 := by omega
      have e4 := (G0.out.keep (HBT.out)).frozen
      have g0 := (G0.out.keep (HBT.out)).cell 0 _ rfl
      have g1 := (G0.out.keep (HBT.out)).cell 1 _ rfl
      have g2 := (G0.out.keep (HBT.out)).cell 2 _ rfl
      have g3 := (G0.out.keep (HBT.out)).cell 3 _ rfl
      have g4 := (G0.out.keep (HBT.out)).cell 4 _ rfl
      have g5 := (G0.out.keep (HBT.out)).cell 5 _ rfl
      have g6 := (G0.out.keep (HBT.out)).cell 6 _ rfl
      have g7 := (G0.out.keep (HBT.out)).cell 7 _ rfl
      have H9 := (G0.out.keep (HBT.out)).set8 (.string ⟨#[]⟩) (.slice none 0 0) (.int .i64 0) (.int .i64 0) (.int .i64 0) (.float .f64 0) (.int .i64 0) (.string ⟨#[]⟩)
      go_wp2_with fail
      refine bodyPost_ret (r5get_results rfl rfl H9) rfl (.inr ⟨rfl, (HB0.out.trans (HBT.out)).store8 (Nat.le_of_eq HGG.out) _ _ _ _ _ _ _ _, ?_⟩)
      intro V hv h
      have := (lenK_at hv h HE.out hkl).2.1
      omega
end Go.Proofs.YtkgpkkdcadkpmaaGreatDoor
end
