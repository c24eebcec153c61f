/- the walk of ProtoPieces. By an AI agent. -/
import Derived.Test.YtechiehbigmjbaaPieces0
set_option linter.unusedVariables false
set_option linter.unusedSimpArgs false
namespace Go.Proofs.Ytechiehbigmjbaa
open Go.RowKit

set_option maxHeartbeats 3200000 in
set_option maxRecDepth 100000 in
theorem protoPieces_early (a b : Option Addr) (n m ca cb : Nat) (ts : List ByteArray) (xs : List Int) (w : World) (ht : TA w a n ts) (hx : IA w b m xs) (h : 20 < n ∨ 60 < m) :
    Calls Try.prog 5 #[.slice a n ca, .slice b m cb] w fun e w' => e = .returned (.bool true) ∧ Bl w w' := by
  have hc := ht.cap
  have hc2 := hx.cap
  by_cases h1 : 20 < n
  · clear h
    go_enter Try.func5, Try.ntmps5
    go_wp2_with fail
    refine (alive25_any _).mono ?_
    rintro e w2 ⟨rfl, hb2⟩
    go_wp2_with fail
    go_ret
    exact ⟨rfl, hb2⟩
  · have h2 : 60 < m := by omega
    clear h
    go_enter Try.func5, Try.ntmps5
    go_wp2_with fail
    refine (alive25_any _).mono ?_
    rintro e w2 ⟨rfl, hb2⟩
    go_wp2_with fail
    go_ret
    exact ⟨rfl, hb2⟩
set_option maxHeartbeats 6400000 in
set_option maxRecDepth 100000 in
theorem protoPieces_main (a b : Option Addr) (n m ca cb : Nat) (ts : List ByteArray) (xs : List Int) (w : World) (ht : TA w a n ts) (hx : IA w b m xs) (h1 : n ≤ 20) (h2 : m ≤ 60) :
    Calls Try.prog 5 #[.slice a n ca, .slice b m cb] w fun e w' => e = .returned (.bool true) ∧ Bl w w' := by
  have HT := Lib.hid ht
  have HX := Lib.hid hx
  clear ht hx
  have q3 : decide (20 < (n : Int)) = false := by rw [decide_eq_false_iff_not]; omega
  have q4 : decide (60 < (m : Int)) = false := by rw [decide_eq_false_iff_not]; omega
  go_enter Try.func5, Try.ntmps5
  go_wp2_with fail
  go_loopw [5, 6] (fun s i wr => ∃ k : Nat, k ≤ n ∧ i = .int .i64 k ∧ s = .string (strL (framesL ((bytesT ts).take k))) ∧ Bl w wr ∧ Hid (∀ t ∈ (bytesT ts).take k, t.length ≤ 500)) (fun _ i _ => n - (intOf i).toNat)
  case atStart => exact ⟨0, Nat.zero_le _, rfl, rfl, Bl.refl _, Lib.hid (fun t h => by simp at h)⟩
  case round =>
    obtain ⟨k, hk, rfl, rfl, hb, HS⟩ := hrel
    have HB := Lib.hid hb
    clear hb
    by_cases hlt : k < n
    · obtain ⟨ba, oa, rfl, hc⟩ := HT.out.cells k hlt
      have ck := HB.out.cell (hc k hlt)
      have hsz := HT.out.sz k
      have HTK := Lib.hid (bytesT_take (ts := ts) (k := k) (by rw [HT.out.len]; exact hlt))
      clear hc
      obtain ⟨d, hd⟩ : ∃ d, nthT ts k = d := ⟨_, rfl⟩
      rw [hd] at ck hsz HTK
      have HD := Lib.hid hd
      clear hd
      have zd : d.data.toList.length = d.size := by simp
      have hfl := framesL_len HS.out
      have htl : ((bytesT ts).take k).length ≤ 20 := by rw [List.length_take]; omega
      by_cases h5 : 500 < d.size
      · have HF : Hid (∃ f c, (∀ w, Calls Try.prog 27 #[.string d] w fun e w' => e = .returned (.tuple #[.string f, .int .i64 c]) ∧ Bl w w')) := Lib.hid (by
          by_cases h6 : d.size ≤ 65536
          · exact ⟨_, _, fun w => frame_yes d.data.toList w (by omega)⟩
          · exact ⟨_, _, fun w => frame_no d.data.toList w (by omega)⟩)
        obtain ⟨f, c, F⟩ := HF.out
        have HF2 := Lib.hid F
        clear F HF
        by_cases hc0 : c = 0
        · subst hc0
          go_wp2_with fail
          refine (HF2.out _).mono ?_
          rintro e w1 ⟨rfl, hb1⟩
          have ck1 := hb1.cell ck
          go_wp2_with fail
          refine (alive25_any _).mono ?_
          rintro e w2 ⟨rfl, hb2⟩
          go_wp2_with fail
          go_ret
          exact ⟨rfl, (HB.out.trans hb1).trans hb2⟩
        · have qc : ((c : Int) == 0) = false := by rw [beq_eq_false_iff_ne]; exact hc0
          go_wp2_with fail
          refine (HF2.out _).mono ?_
          rintro e w1 ⟨rfl, hb1⟩
          have ck1 := hb1.cell ck
          go_wp2_with fail
          refine (alive25_any _).mono ?_
          rintro e w2 ⟨rfl, hb2⟩
          have ck2 := hb2.cell ck1
          have q5 : decide (500 < (d.size : Int)) = true := by rw [decide_eq_true_iff]; omega
          go_wp2_with fail
          go_ret
          exact ⟨rfl, (HB.out.trans hb1).trans hb2⟩
      · have HF := Lib.hid (fun w => frame_yes d.data.toList w (by omega))
        have HSD : Hid (strL d.data.toList = d) := Lib.hid rfl
        rw [HSD.out] at HF
        have q5 : decide (500 < (d.size : Int)) = false := by rw [decide_eq_false_iff_not]; omega
        have zf := strL_size (frameL d.data.toList)
        rw [frameL_len] at zf
        have zs := strL_size (framesL ((bytesT ts).take k))
        have HA := Lib.hid (strL_app (framesL ((bytesT ts).take k)) (frameL d.data.toList))
        have hz1 : (strL (framesL ((bytesT ts).take k))).size ≤ 20000 := by omega
        have hz2 : (strL (frameL d.data.toList)).size ≤ 600 := by omega
        clear zf zs hfl htl
        obtain ⟨f, hf⟩ : ∃ f, strL (frameL d.data.toList) = f := ⟨_, rfl⟩
        obtain ⟨g, hg⟩ : ∃ g, strL (framesL ((bytesT ts).take k)) = g := ⟨_, rfl⟩
        rw [hf] at HF HA hz2
        rw [hg] at HA hz1 ⊢
        clear hf hg
        go_wp2_with fail
        refine (HF.out _).mono ?_
        rintro e w1 ⟨rfl, hb1⟩
        have ck1 := hb1.cell ck
        have HB2 := Lib.hid (HB.out.trans hb1)
        clear hb1 ck
        go_wp2_with fail
        go_roundw
        case rel => exact ⟨k + 1, by omega, by go_num, by rw [HA.out, HTK.out, framesL_snoc], HB2.out, Lib.hid (by
          rw [HTK.out]
          intro t h
          rcases List.mem_append.1 h with h | h
          · exact HS.out t h
          · obtain rfl : t = d.data.toList := by simpa using h
            omega)⟩
        case measure => simp [intOf]; omega
    · have e : k = n := by omega
      subst e
      have hall : (bytesT ts).take k = bytesT ts := List.take_of_length_le (by rw [bytesT_len, HT.out.len]; exact Nat.le_refl _)
      rw [hall] at HS ⊢
      have hFl := framesL_len HS.out
      rw [bytesT_len, HT.out.len] at hFl
      obtain ⟨F, hF⟩ : ∃ F, F = framesL (bytesT ts) := ⟨_, rfl⟩
      rw [← hF] at hFl ⊢
      have HF := Lib.hid hF
      have z := strL_size F
      have HE := Lib.hid (fun A T => strL_ext F A T)
      obtain ⟨s, hs⟩ : ∃ s, s = strL F := ⟨_, rfl⟩
      rw [← hs] at z HE ⊢
      clear hs hF hall hlt hk
      have hR : RB2 (wr.alloc (.cells #[.string ⟨#[]⟩, .bool false] 48)) wr.heap.size [] false := AC.new wr _ rfl [.string ⟨#[]⟩, .bool false] _
      have hB := HB.out.alloc (.cells #[.string ⟨#[]⟩, .bool false] 48)
      have hg := HB.out.size
      have hFl2 : F.length ≤ 20000 := by omega
      clear hFl HB
      go_wp2_with fail
      generalize wr.heap.size = g at *
      generalize wr.alloc _ = W0 at *
      have HG := Lib.hid hg
      clear hg
      go_loopw [10, 11, 12] (fun at_ kk i W => ∃ (A K I : Nat) (rest : List UInt8), at_ = .int .i64 A ∧ kk = .int .i64 K ∧ i = .int .i64 I ∧ I ≤ m + 1 ∧ A ≤ F.length ∧ K ≤ k ∧ RB2 W g rest false ∧ Hid (headF rest = 0) ∧ Hid (rest ++ F.drop A = framesL ((bytesT ts).drop K)) ∧ Hid (I = m + 1 → A = F.length) ∧ Bl w W) (fun _ _ i _ => m + 1 - (intOf i).toNat)
      case atStart => exact ⟨0, 0, 0, [], rfl, rfl, rfl, by omega, Nat.zero_le _, Nat.zero_le _, hR, Lib.hid rfl, Lib.hid (by rw [List.drop_zero, List.drop_zero]; exact HF.out), Lib.hid (fun h => by omega), hB⟩
      case round =>
        clear hR hB
        obtain ⟨A, K, I, rest, rfl, rfl, rfl, hI, hA, hK, hR, H0, HP, HI, hB⟩ := hrel
        have HR := Lib.hid hR
        have HB := Lib.hid hB
        clear hR hB
        by_cases hlt : I ≤ m
        · go_upto_if 78 with fail
          go_cut [13] (fun s13 W' => ∃ T : Nat, s13 = .int .i64 T ∧ A ≤ T ∧ T ≤ F.length ∧ (I = m → T = F.length) ∧ wr = W')
          case first =>
            by_cases hIm : I < m
            · obtain ⟨bb, ob, rfl, hc⟩ := (HX.out.keep HB.out).cells I hIm
              have cx := hc I hIm
              clear hc
              obtain ⟨m0, m1⟩ := and_63 (nth xs I)
              obtain ⟨M, hM⟩ : ∃ M, bits .and .i64 (nth xs I) 63 = M := ⟨_, rfl⟩
              rw [hM] at m0 m1
              obtain ⟨T, hT⟩ : ∃ T : Nat, min ((A : Int) + M) (F.length : Int) = (T : Int) := ⟨(min ((A : Int) + M) (F.length : Int)).toNat, by omega⟩
              have hT1 : A ≤ T ∧ T ≤ F.length := by omega
              have HTT := Lib.hid hT1
              clear hT1
              go_wp2_with fail
              go_meet
              case rel => exact ⟨T, rfl, HTT.out.1, HTT.out.2, fun h => by omega, rfl⟩
            · go_wp2_with fail
              go_meet
              case rel => exact ⟨F.length, rfl, hA, Nat.le_refl _, fun _ => rfl, rfl⟩
          case rest =>
            obtain ⟨T, rfl, hT1, hT2, hT3, rfl⟩ := hcut
            have HT3 := Lib.hid hT3
            clear hT3
            have hq := HE.out A T
            have hP2 : (rest ++ (F.drop A).take (T - A)) ++ F.drop T = framesL ((bytesT ts).drop K) := by
              rw [← HP.out, List.append_assoc]
              congr 1
              rw [show F.drop T = (F.drop A).drop (T - A) by rw [List.drop_drop]; congr 1; omega, List.take_append_drop]
            have hrl : rest.length ≤ 20000 := by
              have := congrArg List.length HP.out
              rw [List.length_append] at this
              have h3 := framesL_len (ts := (bytesT ts).drop K) (fun t h => HS.out t (List.mem_of_mem_drop h))
              rw [List.length_drop, bytesT_len, HT.out.len] at h3
              omega
            have hr2 : (rest ++ (F.drop A).take (T - A)).length ≤ 50000 := by rw [List.length_append, List.length_take, List.length_drop]; omega
            have HP2 := Lib.hid hP2
            have HFe := Lib.hid (feed_any g ((F.drop A).take (T - A)) rest wr HR.out (by rw [List.length_append] at hr2; omega))
            obtain ⟨pc, hpc⟩ : ∃ pc, (F.drop A).take (T - A) = pc := ⟨_, rfl⟩
            rw [hpc] at HFe hr2 HP2 hq
            clear hP2 hpc HP
            go_wp2_with fail
            refine HFe.out.mono ?_
            rintro e w3 ⟨rfl, rfl⟩
            have hR3 := HR.out.fed (rest ++ pc)
            have hB3 : Bl w (wr.setCell ⟨g, 0, none⟩ (.string (strL (rest ++ pc)))) := HB.out.setCell (p := ⟨g, 0, none⟩) HG.out _
            clear HFe HR HB hq
            generalize rest ++ pc = r2 at *
            generalize wr.setCell ⟨g, 0, none⟩ (.string (strL r2)) = W3 at *
            go_wp2_with fail
            go_loopw [11] (fun kk W => ∃ (K2 : Nat) (r : List UInt8), kk = .int .i64 K2 ∧ K2 ≤ k ∧ RB2 W g r false ∧ Hid (r ++ F.drop T = framesL ((bytesT ts).drop K2)) ∧ Bl w W ∧ r.length ≤ 50000) (fun _ W => cellLen W g)
            case atStart => exact ⟨K, r2, rfl, hK, hR3, HP2, hB3, hr2⟩
            case round =>
              clear hR3 hB3 hr2 HP2
              obtain ⟨K2, r, rfl, hK2, hR, HP, hB, hr⟩ := hrel
              have HR := Lib.hid hR
              have HB := Lib.hid hB
              clear hR hB
              rcases pieces_step HP.out (fun t h => HS.out t (List.mem_of_mem_drop h)) with h0 | ⟨t, tl, htl, h0, hbd, hrs, hls⟩
              · have HN := Lib.hid (next0 g r wr HR.out (by omega) h0)
                have H0' := Lib.hid h0
                clear h0
                go_wp2_with fail
                refine HN.out.mono ?_
                rintro e w4 ⟨rfl, rfl⟩
                clear HN
                go_wp2_with fail
                go_roundw
                case rel => exact ⟨T, K2, I + 1, r, rfl, rfl, by go_num, by omega, hT2, hK2, HR.out, H0', HP, Lib.hid (fun h => HT3.out (by omega)), HB.out⟩
                case measure => simp [intOf]; omega
              · have HN := Lib.hid (next1 g r wr HR.out (by omega) h0)
                have hK3 : K2 < k := by
                  have := congrArg List.length htl
                  rw [List.length_drop, bytesT_len, HT.out.len] at this
                  simp only [List.length_cons] at this
                  omega
                have hcons := bytesT_drop (ts := ts) (k := K2) (by rw [HT.out.len]; exact hK3)
                rw [htl] at hcons
                simp only [List.cons.injEq] at hcons
                obtain ⟨e1, e2⟩ := hcons
                have HST : Hid (strL (bodyF r) = nthT ts K2) := Lib.hid (by rw [hbd, e1]; rfl)
                have HRS : Hid (restF r ++ F.drop T = framesL ((bytesT ts).drop (K2 + 1))) := Lib.hid (by rw [hrs, e2])
                have HLS := Lib.hid hls
                clear h0 htl hbd hrs hls e1 e2
                rw [HST.out] at HN
                have hrl2 : (restF r).length ≤ 50000 := by have := HLS.out; omega
                obtain ⟨ba, oa, rfl, -⟩ := HT.out.cells K2 hK3
                obtain ⟨d, hd⟩ : ∃ d, nthT ts K2 = d := ⟨_, rfl⟩
                rw [hd] at HN
                have HD := Lib.hid hd
                clear hd HST
                have qd : (d.toList == d.toList) = true := by simp
                go_wp2_with fail
                refine HN.out.mono ?_
                rintro e w4 ⟨rfl, hb4⟩
                have hR4 := (HR.out.fed (restF r)).keep hb4
                have hB4 : Bl w w4 := (show Bl w (wr.setCell ⟨g, 0, none⟩ (.string (strL (restF r)))) from HB.out.setCell (p := ⟨g, 0, none⟩) HG.out _).trans hb4
                have ck := HT.out.get hB4 hK3
                rw [HD.out] at ck
                have HM : Hid (cellLen w4 g < cellLen wr g) := Lib.hid (by rw [cellLen_ac hR4, cellLen_ac HR.out]; exact HLS.out)
                have HR4 := Lib.hid hR4
                have HB4 := Lib.hid hB4
                clear hR4 hB4 hb4 HN HR HB HLS
                generalize restF r = r3 at *
                go_wp2_with fail
                go_roundw
                case rel => exact ⟨K2 + 1, r3, by go_num, by omega, HR4.out, HRS, HB4.out, hrl2⟩
                case measure => exact HM.out
        · have e1 : I = m + 1 := by omega
          have e2 := HI.out e1
          have hpe := HP.out
          rw [e2, List.drop_length, List.append_nil] at hpe
          obtain ⟨e3, e4⟩ := pieces_end hpe (fun t h => HS.out t (List.mem_of_mem_drop h)) H0.out
          have e5 : K = k := by
            have := congrArg List.length e3
            rw [List.length_drop, bytesT_len, HT.out.len] at this
            simp only [List.length_nil] at this
            omega
          subst e5
          subst e4
          clear e3 hpe e2 HP H0 hlt
          subst e1
          go_wp2_with fail
          refine (alive25_any _).mono ?_
          rintro e w3 ⟨rfl, hb3⟩
          have HR2 := Lib.hid (HR.out.keep hb3)
          have HB2 := Lib.hid (HB.out.trans hb3)
          clear HR HB hb3
          go_wp2_with fail
          refine (badR_any g [] false _ HR2.out).mono ?_
          rintro e w8 ⟨rfl, rfl⟩
          go_wp2_with fail
          refine (left_any g [] false _ HR2.out (by decide)).mono ?_
          rintro e w8 ⟨rfl, rfl⟩
          go_wp2_with fail
          go_ret
          exact ⟨rfl, HB2.out⟩
theorem protoPieces_walk (a : Option Addr) (n ca : Nat) (ts : List ByteArray) (b : Option Addr) (m cb : Nat) (xs : List Int) (w : World) (ht : TA w a n ts) (hx : IA w b m xs) :
    Calls Try.prog 5 #[.slice a n ca, .slice b m cb] w fun e w' => e = .returned (.bool true) ∧ Bl w w' := by
  by_cases h : 20 < n ∨ 60 < m
  · exact protoPieces_early a b n m ca cb ts xs w ht hx h
  · exact protoPieces_main a b n m ca cb ts xs w ht hx (by omega) (by omega)
end Go.Proofs.Ytechiehbigmjbaa
