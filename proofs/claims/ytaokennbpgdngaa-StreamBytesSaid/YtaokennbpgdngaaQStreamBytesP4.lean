import Derived.Test.YtaokennbpgdngaaQStreamBytesP3
import Derived.Test.YtaokennbpgdngaaCore12
import Derived.Test.YtaokennbpgdngaaQStreamBytesP1
import Derived.Test.YtaokennbpgdngaaCore22
import Derived.Test.YtaokennbpgdngaaCore1
import Derived.Test.YtaokennbpgdngaaCore3

/- bedrockref3.Put of a valid vector. By an AI agent. -/
section
set_option linter.unusedVariables false
set_option linter.unusedSimpArgs false
namespace Go.Proofs.Ytaokennbpgdngaa
open Go.RowKit

theorem refPut6 (x : Int) (w : World) (h0 : 0 ≤ x) (h1 : x < 281474976710656) :
    Calls Try.prog 56 #[.int .i64 x, .int .i64 6] w fun e w' => e = .returned (.tuple #[.string (strL (bytesN (putN x 6 6))), .int .i64 0]) ∧ Bl w w' := by
  obtain ⟨v, rfl⟩ := Int.eq_ofNat_of_zero_le h0
  have := refPut_any v 6 w (by decide) (by decide) (by omega) (Nat.div_eq_of_lt (by have : (2 : Nat) ^ (8 * 6) = 281474976710656 := by decide
                                                                                    omega))
  exact this
set_option maxHeartbeats 1600000 in
set_option maxRecDepth 100000 in
theorem rput3_yes (a : Option Addr) (n ca : Nat) (xs : List Int) (w : World) (hx : IA w a n xs) (hv : validL xs = true) :
    Calls Try.prog 51 #[.slice a n ca] w fun e w' => e = .returned (.tuple #[.string (strL (putL xs)), .int .i64 0]) ∧ Bl w w' := by
  have hpt := valid_parts hv
  have h1 : 1 ≤ n := by rw [← hx.len]; exact hpt.1
  have h8 : n ≤ 8 := by rw [← hx.len]; exact hpt.2.1
  have HP := Lib.hid hpt.2.2; clear hpt
  have HX := Lib.hid hx.len
  have HV := Lib.hid hv; clear hv
  have hw8 : IntKind.u8.wrap (n : Int) = n := by rw [IntKind.wrap_u8]; omega
  go_enter Try.func51, Try.ntmps51
  go_wp2_with fail
  refine (rvalid_any a n ca xs _ hx).mono ?_
  rintro e w' ⟨rfl, rfl⟩
  rw [HV.out]
  have hcv : (convert 43 9 (.slice (some ⟨w.heap.size, 0, none⟩) 1 1)).run Try.prog (w.alloc (.cells #[.int .u8 n] 5)) = .ok (.string (strOfNums [(n : Int)])) (w.alloc (.cells #[.int .u8 n] 5)) :=
    AR.string (xs := [(n : Int)]) ⟨_, heap_alloc_new w _⟩ 0 1 1 rfl
  have hbl := (Bl.refl w).alloc (.cells #[.int .u8 n] 5)
  go_wp2_with fail
  go_loopw [4, 5] (fun s i wr => ∃ (k : Nat) (l : List UInt8), k ≤ n ∧ i = .int .i64 k ∧ s = .string (strL l) ∧ Bl w wr ∧ l = UInt8.ofNat n :: putBodyL (xs.take k)) (fun _ i _ => n - (intOf i).toNat)
  case atStart => exact ⟨0, _, Nat.zero_le _, rfl, rfl, hbl, rfl⟩
  case round =>
    clear hbl hcv
    obtain ⟨k, l, hk, rfl, rfl, hb, hl⟩ := hrel
    have hll : l.length ≤ 49 := by rw [hl, List.length_cons, putBodyL_len, List.length_take]; omega
    have HL := Lib.hid hl; clear hl
    have zl := strL_size l
    by_cases hlt : k < n
    · obtain ⟨ba, oa, rfl, hca⟩ := hx.cells k hlt
      have ha := hb.cell (hca k hlt)
      clear hca
      have hpk := HP.out k (by rw [HX.out]; exact hlt)
      have HG := Lib.hid (fun w => refPut6 (nth xs k) w hpk.1 hpk.2)
      have zq : (strL (bytesN (putN (nth xs k) 6 6))).size = 6 := by rw [strL_size, bytesN_len, putN_len]
      have HA := Lib.hid (strL_app l (bytesN (putN (nth xs k) 6 6)))
      generalize strL (bytesN (putN (nth xs k) 6 6)) = q at *
      generalize strL l = sl at *
      have hsum : (9223372036854775807 < sl.size + q.size) = False := eq_false (by omega)
      go_wp2_with fail
      refine (HG.out _).mono ?_
      rintro e w2 ⟨rfl, hb2⟩
      go_wp2_with fail
      go_roundw
      case rel => exact ⟨k + 1, _, by omega, by go_num, congrArg Value.string HA.out, hb.trans hb2, by rw [HL.out, take_nth (by rw [HX.out]; exact hlt), putBodyL_snoc]; rfl⟩
      case measure => simp [intOf]; omega
    · have hfin : l = putL xs := by
        rw [HL.out, putL, HX.out, List.take_of_length_le (by rw [HX.out]; omega)]
      have HF := Lib.hid hfin; clear hfin
      go_wp2_with fail
      go_ret2
      exact ⟨congrArg (fun l : List UInt8 => Ending.returned (.tuple #[.string (strL l), .int .i64 0])) HF.out, hb⟩
end Go.Proofs.Ytaokennbpgdngaa
end

/- stream.PutTxn, bedrockref21.Row. By an AI agent. -/
section
set_option linter.unusedVariables false
set_option linter.unusedSimpArgs false
namespace Go.Proofs.Ytaokennbpgdngaa
open Go.RowKit

/-- what PutTxn tells -/
def msgT (t : TxnL) : List UInt8 := if ptC t = 0 then 84 :: ptL t else []
set_option maxHeartbeats 1600000 in
set_option maxRecDepth 100000 in
theorem putTxn_any (t : TxnL) (s : TxAt) (w : World) (h : TX w s t) : Calls Try.prog 15 #[txV t s] w fun e w' => e = .returned (.tuple #[.string (strL (msgT t)), .int .i64 (ptC t)]) ∧ Bl w w' := by
  have hg := AC.new w _ rfl (txCs t s) 29
  have hb := (Bl.refl w).alloc (.cells (txCs t s).toArray 29)
  have HPUT := Lib.hid (txPut_any t s _ (h.keep hb))
  obtain ⟨C, hC⟩ : ∃ C, ptC t = C := ⟨_, rfl⟩
  have hpl : C = 0 → (ptL t).length ≤ 65000 := fun h0 => by obtain ⟨_, h2, h3⟩ := ptC_zero (hC.trans h0); rw [h2]; exact h3
  have HM : Hid (C = 0 → msgT t = 84 :: ptL t) := Lib.hid (fun h0 => by unfold msgT; rw [hC, h0]; rfl)
  have HN : Hid (C ≠ 0 → msgT t = []) := Lib.hid (fun h0 => by unfold msgT; rw [hC, if_neg h0])
  rw [hC] at HPUT ⊢
  clear h hC
  obtain ⟨M, hM⟩ : ∃ M, msgT t = M := ⟨_, rfl⟩
  rw [hM] at HM HN ⊢
  clear hM
  unfold txV at HPUT ⊢
  unfold txCs at hg hb HPUT
  obtain ⟨da, dn, dc, aa, an, ac, wa, wn, wc⟩ := s
  obtain ⟨F, hF⟩ : ∃ F, ptL t = F := ⟨_, rfl⟩
  rw [hF] at HPUT hpl HM
  clear hF
  obtain ⟨o, num, prev, ds, xs, ws⟩ := t
  dsimp only at hg hb HPUT ⊢
  have c0 := hg.cell 0 _ rfl
  have c1 := hg.cell 1 _ rfl
  have c2 := hg.cell 2 _ rfl
  have c3 := hg.cell 3 _ rfl
  have c4 := hg.cell 4 _ rfl
  have c5 := hg.cell 5 _ rfl
  by_cases h0 : C = 0
  · subst h0
    have e1 : (⟨#[84]⟩ : ByteArray) ++ strL F = strL (84 :: F) := strL_app [84] F
    have z1 : (strL F).size ≤ 65000 := by rw [strL_size]; exact hpl rfl
    rw [HM.out rfl]
    generalize strL (84 :: F) = s2 at *
    generalize strL F = s1 at *
    go_enter Try.func15, Try.ntmps15
    go_wp2_with fail
    refine HPUT.out.mono ?_
    rintro e w2 ⟨rfl, hb2⟩
    have hb3 := (hb.trans hb2).alloc (.cells #[.int .u8 84] 5)
    have hob : OB w2.heap.size (w2.alloc (.cells #[.int .u8 84] 5)) (.slice (some ⟨w2.heap.size, 0, none⟩) 1 1) [84] := ⟨by simp, .inr ⟨w2.heap.size, 1, #[.int .u8 84], rfl, Nat.le_refl _, heap_alloc_new w2 _, Nat.le_refl _, by decide, by simp, by simp⟩⟩
    have hcv := hob.string rfl
    rw [show strOfNums [84] = (⟨#[84]⟩ : ByteArray) from rfl] at hcv
    have s_1 : (9223372036854775807 < 1 + s1.size) = False := eq_false (by omega)
    clear c0 c1 c2 c3 c4 c5
    go_wp2_with fail
    go_ret2
    exact ⟨rfl, hb3⟩
  · have q0 : (C != 0) = true := by rw [bne_iff_ne]; exact h0
    have HE := Lib.hid (HN.out h0)
    clear h0
    go_enter Try.func15, Try.ntmps15
    go_wp2_with fail
    refine HPUT.out.mono ?_
    rintro e w2 ⟨rfl, hb2⟩
    go_wp2_with fail
    go_ret2
    rw [HE.out]
    exact ⟨rfl, hb.trans hb2⟩
set_option maxHeartbeats 1600000 in
set_option maxRecDepth 100000 in
theorem refRow_any (from_ : Int) (a : Option Addr) (n c : Nat) (row : List Int) (w : World) (hx : IA w a n row) :
    Calls Try.prog 19 #[.int .i64 from_, .slice a n c] w fun e w' => e = .returned (.tuple #[.string (strL (rowL from_ row)), .int .i64 (rowC from_ row)]) ∧ Bl w w' := by
  have HL := Lib.hid hx.len
  have hcap := hx.cap
  have HX := Lib.hid hx
  by_cases h0 : from_ < 0
  · have HF : Hid (rowL from_ row = [] ∧ rowC from_ row = 1) := Lib.hid (by unfold rowL rowC; rw [if_neg (by omega), if_neg (by omega)]; exact ⟨rfl, rfl⟩)
    have d1 : decide (from_ < 0) = true := decide_eq_true h0
    clear hx
    go_enter Try.func19, Try.ntmps19
    go_wp2_with fail
    go_ret2
    rw [HF.out.1, HF.out.2]
    exact ⟨rfl, Bl.refl _⟩
  obtain ⟨fi, rfl⟩ := Int.eq_ofNat_of_zero_le (show 0 ≤ from_ by omega)
  have d1 : decide ((fi : Int) < 0) = false := decide_eq_false h0
  by_cases h1 : n ≤ fi
  · have HF : Hid (rowL (fi : Int) row = [] ∧ rowC (fi : Int) row = 1) := Lib.hid (by have := HL.out; unfold rowL rowC; rw [if_neg (by omega), if_neg (by omega)]; exact ⟨rfl, rfl⟩)
    have d2 : decide ((n : Int) ≤ (fi : Int)) = true := decide_eq_true (by omega)
    have d3 : decide (n ≤ fi) = true := decide_eq_true h1
    clear hx
    go_enter Try.func19, Try.ntmps19
    go_wp2_with fail
    go_ret2
    rw [HF.out.1, HF.out.2]
    exact ⟨rfl, Bl.refl _⟩
  have d2 : decide ((n : Int) ≤ (fi : Int)) = false := decide_eq_false (by omega)
  have d3 : decide (n ≤ fi) = false := decide_eq_false h1
  cases hv : validL row
  · have HF : Hid (rowL (fi : Int) row = [] ∧ rowC (fi : Int) row = 1) := Lib.hid (by unfold rowL rowC; rw [hv]; simp)
    have HV := Lib.hid hv
    clear hv hx
    go_enter Try.func19, Try.ntmps19
    go_wp2_with fail
    refine (rvalid_any a n c row _ HX.out).mono ?_
    rintro e w' ⟨rfl, rfl⟩
    rw [HV.out]
    go_wp2_with fail
    go_ret2
    rw [HF.out.1, HF.out.2]
    exact ⟨rfl, Bl.refl _⟩
  have HV := Lib.hid hv
  have hn8 : n ≤ 8 := by rw [← HL.out]; exact (valid_parts hv).2.1
  have HF : Hid (rowL (fi : Int) row = 82 :: (numB (fi : Int) 1 ++ putL row) ∧ rowC (fi : Int) row = 0) := Lib.hid (by have := HL.out; unfold rowL rowC; rw [if_pos ⟨hv, by omega, by omega⟩, if_pos ⟨hv, by omega, by omega⟩]; exact ⟨rfl, rfl⟩)
  have e1 : (⟨#[82]⟩ : ByteArray) ++ strL (numB (fi : Int) 1) = strL (82 :: numB (fi : Int) 1) := strL_app [82] (numB (fi : Int) 1)
  have e2 : strL (82 :: numB (fi : Int) 1) ++ strL (putL row) = strL (82 :: (numB (fi : Int) 1 ++ putL row)) := strL_app _ _
  have z1 : (strL (numB (fi : Int) 1)).size = 1 := by rw [strL_size, numB_len]
  have z2 : (strL (putL row)).size ≤ 49 := by rw [strL_size]; exact putL_small hv
  have z3 : (strL (82 :: numB (fi : Int) 1)).size = 2 := by rw [strL_size, List.length_cons, numB_len]
  have hpe : (⟨(putL row).toArray⟩ : ByteArray) = strL (putL row) := rfl
  have HPE := Lib.hid hpe
  have hso : strOfNums [(fi : Int)] = strL (numB (fi : Int) 1) := by
    rw [← strL_nums]
    rw [show putN (fi : Int) 1 1 = [(fi : Int) % 256] by simp [putN, byteAt], show (fi : Int) % 256 = (fi : Int) by omega]
  have hu8 : IntKind.u8.wrap (fi : Int) = (fi : Int) := by rw [IntKind.wrap_u8]; omega
  have hm8 : (fi : Int) % 256 = (fi : Int) := by omega
  rw [HF.out.1, HF.out.2]
  clear hv hx hpe
  generalize strL (82 :: (numB (fi : Int) 1 ++ putL row)) = s3 at *
  generalize strL (82 :: numB (fi : Int) 1) = s2 at *
  generalize hs1 : strL (putL row) = s1 at *
  have HS1 := Lib.hid hs1
  clear hs1
  generalize strL (numB (fi : Int) 1) = s0 at *
  go_enter Try.func19, Try.ntmps19
  go_wp2_with fail
  refine (rvalid_any a n c row _ HX.out).mono ?_
  rintro e w' ⟨rfl, rfl⟩
  rw [HV.out]
  go_wp2_with fail
  refine (rput3_yes a n c row _ HX.out HV.out).mono ?_
  rintro e w2 ⟨rfl, hb⟩
  rw [HS1.out]
  have hb3 := hb.alloc (.cells #[.int .u8 (fi : Int)] 5)
  have hob : OB w2.heap.size (w2.alloc (.cells #[.int .u8 (fi : Int)] 5)) (.slice (some ⟨w2.heap.size, 0, none⟩) 1 1) [(fi : Int)] := ⟨by simp, .inr ⟨w2.heap.size, 1, #[.int .u8 (fi : Int)], rfl, Nat.le_refl _, heap_alloc_new w2 _, Nat.le_refl _, by decide, by simp, by simp⟩⟩
  have hcv := hob.string rfl
  rw [hso] at hcv
  have s_1 : (9223372036854775807 < 1 + s0.size) = False := eq_false (by omega)
  have s_2 : (9223372036854775807 < s2.size + s1.size) = False := eq_false (by omega)
  go_wp2_with fail
  go_ret2
  exact ⟨rfl, hb3⟩
end Go.Proofs.Ytaokennbpgdngaa
end

/- append to a row of one's own, behind which the old slice still reads as it did. By an AI agent. -/
section
namespace Go.Proofs.Ytaokennbpgdngaa
open Go.RowKit

theorem run_appK {w : World} {B : Nat} {T E : TypeId} {size bytes : Nat} (hT : EL T E size bytes) (ty : TypeId) (v : Value) (n : Nat) (xs : List Value) (hown : w.ownsRow B E size v n xs) (ad : Option Addr) (m c : Nat) (news : List Value) (hs : SG w size ad m news)
    (h63 : n + m ≤ maxLen) (hbytes : (n + m) * bytes ≤ 140737488355328) (hB : B ≤ w.heap.size) :
    ∃ v' w', (Builtin.append_ #[T, T] ty #[v, .slice ad m c]).run Try.prog w = .ok v' w' ∧ w'.ownsRow B E size v' (n + m) (xs ++ news) ∧ w.grownBy w' v.ownBlock ∧ w'.ownsRow B E size v n xs ∧ (∀ b, v'.ownBlock = some b → v.ownBlock = some b ∨ w.heap.size ≤ b) := by
  obtain ⟨i, z, hi, hz, h1, h2, h3⟩ := hT.info
  cases ad with
  | none =>
    have hm := hs.nil rfl
    subst hm
    have e : news = [] := List.eq_nil_of_length_eq_zero (by rw [hs.len, Nat.zero_mul])
    subst e
    rw [List.append_nil, Nat.add_zero]
    have hown' := hown
    obtain ⟨hl, ⟨rfl, hn⟩ | ⟨g, cap, cur, rfl, hBg, hg, hn, r⟩⟩ := hown
    · subst hn
      exact ⟨_, w, by simp [Builtin.append_, run_underlying hT.ty, sizeOf, typeInfo, hi, Builtin.lenOf, Builtin.firstCells], ⟨hl, .inl ⟨rfl, rfl⟩⟩, ⟨rfl, rfl, rfl, Nat.le_refl _, fun _ _ _ => rfl⟩, hown', fun b h => .inl h⟩
    · have := run_append_room_src (P := Try.prog) w T T ty E i hT.ty hi g 0 n cap (.slice none 0 c) 0 [] (Src.ofNil w hT.ty c) (by omega) (fun k hk => by simp at hk) (fun k hk => by simp at hk)
      exact ⟨_, w, by simpa [World.setCells] using this, ⟨hl, .inr ⟨g, cap, cur, rfl, hBg, hg, hn, r⟩⟩, ⟨rfl, rfl, rfl, Nat.le_refl _, fun _ _ _ => rfl⟩, hown', fun b h => .inl h⟩
  | some ad =>
    have hsz := hT.pos
    obtain ⟨v', w', e1, e2, e3, _⟩ := run_append_own (P := Try.prog) w B T ty E i z size bytes hT.ty hi hz h1 h2 h3 hT.pos v n xs hown ad m c news hs.len (hs.at_ ad rfl) hs.one h63 hbytes hB
    refine ⟨v', w', e1, e2, e3, ?_⟩
    have e1' := e1
    subst h1
    subst h2
    rcases hown.2 with ⟨rfl, rfl⟩ | ⟨g, cap, cur, rfl, hbg, hg, hnc, hcm, hcs, htake⟩
    · refine ⟨⟨hown.1, .inl ⟨rfl, rfl⟩⟩, fun b hb => .inr ?_⟩
      obtain ⟨v2, w2, d1, d2, _⟩ := run_append_own (P := Try.prog) w w.heap.size T ty E i z i.size i.bytes hT.ty hi hz rfl rfl h3 hT.pos (.slice none 0 0) 0 xs ⟨hown.1, .inl ⟨rfl, rfl⟩⟩ ad m c news hs.len (hs.at_ ad rfl) hs.one h63 hbytes (Nat.le_refl _)
      rw [d1] at e1'
      cases e1'
      exact (World.ownsRow.lt d2 b hb).1
    · by_cases hroom : n + m ≤ cap
      · have hfit : n * i.size + news.length ≤ cur.size := by rw [hs.len, hcs, ← Nat.add_mul]; exact Nat.mul_le_mul_right _ hroom
        have hr := run_append_room (P := Try.prog) w T ty E i hT.ty hi g n cap cur hg ad m c news hs.len (hs.at_ ad rfl) hs.one hroom hfit
        rw [hr] at e1
        cases e1
        have hx1 := hown.1
        refine ⟨⟨hown.1, .inr ⟨g, cap, _, rfl, hbg, setRow_heap w g cur _ E _ hg, hnc, hcm, ?_, ?_⟩⟩, fun b hb => .inl hb⟩
        · simp only [List.size_toArray, List.length_append, List.length_take, List.length_drop, Array.length_toList]
          omega
        · rw [htake, List.append_assoc, ← hx1]
          exact List.take_left
      · have holds : ∀ j u, xs[j]? = some u → w.cell? ((⟨g, 0, none⟩ : Addr).add j) = some u := hown.cells (g := g) rfl
        have hr := run_append_grow (P := Try.prog) w T ty E i z hT.ty hi hz ⟨g, 0, none⟩ n cap xs hown.1 holds ad m c news hs.len (hs.at_ ad rfl) (by omega) (by simp only [maxLen] at h63; omega) (growslice_fits (by omega) hbytes)
        rw [hr] at e1
        cases e1
        refine ⟨⟨hown.1, .inr ⟨g, cap, cur, rfl, hbg, ?_, hnc, hcm, hcs, htake⟩⟩, fun b hb => .inr (by simp [Value.ownBlock] at hb; omega)⟩
        rw [heap_alloc_old w.drew _ (lt_of_heap hg)]
        exact hg
section
variable {ops : Array Oper}
theorem wpList_appK {rest : List Oper} {o : Oper} {a : Act} {w : World} {Q : Exit → Act → World → Prop} (hgd : o.guard = none) (s x : Operand) (T : TypeId)
    (ho : o.op = .call { callee := .builtin .append, args := #[s, x], argTypes := #[T, T] }) {E : TypeId} {size bytes : Nat} (hT : EL T E size bytes) (B : Nat) (v : Value) (n : Nat) (xs : List Value) (hs : a.eval s = v) (hown : w.ownsRow B E size v n xs) (hB : B ≤ w.heap.size)
    (ad : Option Addr) (m c : Nat) (news : List Value) (hx : a.eval x = .slice ad m c) (hsc : SG w size ad m news) (h63 : n + m ≤ maxLen) (hbytes : (n + m) * bytes ≤ 140737488355328)
    (h : ∀ v' w', w'.ownsRow B E size v' (n + m) (xs ++ news) → w.grownBy w' v.ownBlock → w'.ownsRow B E size v n xs → (∀ b, v'.ownBlock = some b → v.ownBlock = some b ∨ w.heap.size ≤ b) → wpList Try.prog ops Q rest (a.put o.dst v') w') : wpList Try.prog ops Q (o :: rest) a w := by
  obtain ⟨v', w', hr, h2, h3, h4, h5⟩ := run_appK hT o.type v n xs hown ad m c news hsc h63 hbytes hB
  refine wpList_plain hgd fun _ hK => ?_
  unfold Oper.wp execOp
  simp only [ho, resolve, invoke, builtin, Sem.run_bind, Sem.run_pure, Result.andThen_ok, List.map_toArray, List.map_cons, List.map_nil, hs, hx, hr]
  exact hK _ _ (h v' w' h2 h3 h4 h5)
end
end Go.Proofs.Ytaokennbpgdngaa
end
