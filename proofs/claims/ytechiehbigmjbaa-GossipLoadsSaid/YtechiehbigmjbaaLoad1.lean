/- gossip.want, gossip.read. By an AI agent. -/
import Derived.Test.YtechiehbigmjbaaLoad0
import Derived.Test.YtechiehbigmjbaaProt6
import Derived.Test.YtechiehbigmjbaaApp
set_option linter.unusedVariables false
set_option linter.unusedSimpArgs false
namespace Go.Proofs.Ytechiehbigmjbaa
open Go.RowKit

theorem gwant_yes (w : World) : Calls Try.prog 140 #[.bool true] w fun e w' => e = .returned (.tuple #[]) ∧ w = w' := by
  go_enter Try.func140, Try.ntmps140
  go_wp2_with fail
  go_end0
  exact ⟨rfl, rfl⟩
theorem gwant_no (w : World) : Calls Try.prog 140 #[.bool false] w fun e w' => e = panE ∧ w = w' := by
  go_enter Try.func140, Try.ntmps140
  go_wp2_with fail
  exact ⟨rfl, rfl, rfl⟩
theorem el_row : EL 35 23 1 24 := el_of Try.underlying35 (by kernel_rfl) (by decide)
/-- what reading rows comes to -/
def ReadPost (w : World) (l : List UInt8) (e : Ending) (w' : World) : Prop :=
  (∃ rows, rdRows l = some rows ∧ e = .returned (.pointer (some ⟨w.heap.size, 0, none⟩)) ∧ RG w.heap.size w' w.heap.size rows ∧ Bl w w') ∨
  (rdRows l = none ∧ e = panE ∧ Bl w w')
theorem gread_nil (w : World) : Calls Try.prog 68 #[.string ⟨#[]⟩] w (ReadPost w []) := by
  go_enter Try.func68, Try.ntmps68
  go_wp2_with fail
  refine (gwant_no _).mono ?_
  rintro e w1 ⟨rfl, rfl⟩
  unfold panE
  go_wp2_with fail
  exact ⟨rfl, .inr ⟨rfl, rfl, Bl.refl _⟩⟩
theorem gread_form (s : ByteArray) (d : UInt8) (m : List UInt8) (w : World) (hs : s = strL (d :: m)) (hd : d.toNat < 1 ∨ 8 < d.toNat) : Calls Try.prog 68 #[.string s] w (ReadPost w (d :: m)) := by
  have hz : 0 < s.size := by rw [hs, strL_size]; simp
  have h0 : (s[0]'hz).toNat = d.toNat := by subst hs; rfl
  have hq : s.toList.isEmpty = false := by subst hs; exact filled_L (by simp)
  have HR : Hid (rdRows (d :: m) = none) := Lib.hid (by rw [rdRows_cons, if_neg (by omega)])
  generalize d.toNat = dn at *
  clear hs
  rcases hd with h | h
  · go_enter Try.func68, Try.ntmps68
    go_wp2_with fail
    refine (gwant_no _).mono ?_
    rintro e w1 ⟨rfl, rfl⟩
    unfold panE
    go_wp2_with fail
    exact ⟨rfl, .inr ⟨HR.out, rfl, Bl.refl _⟩⟩
  · have q8 : decide ((dn : Int) ≤ 8) = false := decide_eq_false (by omega)
    have q1 : decide ((1 : Int) ≤ (dn : Int)) = true := decide_eq_true (by omega)
    clear h
    go_enter Try.func68, Try.ntmps68
    go_wp2_with fail
    refine (gwant_no _).mono ?_
    rintro e w1 ⟨rfl, rfl⟩
    unfold panE
    go_wp2_with fail
    exact ⟨rfl, .inr ⟨HR.out, rfl, Bl.refl _⟩⟩
set_option maxHeartbeats 3200000 in
set_option maxRecDepth 100000 in
theorem gread_loop (s : ByteArray) (d : UInt8) (m : List UInt8) (w : World) (hs : s = strL (d :: m)) (n : Nat) (hdn : d.toNat = n) (h1 : 1 ≤ n) (h8 : n ≤ 8) (hm : m.length ≤ 900000) : Calls Try.prog 68 #[.string s] w (ReadPost w (d :: m)) := by
  have hz : 0 < s.size := by rw [hs, strL_size]; simp
  have h0 : (s[0]'hz).toNat = n := by subst hs; exact hdn
  have hq : s.toList.isEmpty = false := by subst hs; exact filled_L (by simp)
  have hx : s.extract 1 s.size = strL m := by subst hs; exact strL_drop (d :: m) 1
  have HR : Hid (rdRows (d :: m) = (rdVs n n m).bind fun q => if q.2 = [] then some q.1 else none) := Lib.hid (by rw [rdRows_cons, if_pos (by omega), hdn])
  have q8 : decide ((n : Int) ≤ 8) = true := decide_eq_true (by omega)
  clear hs hdn
  go_enter Try.func68, Try.ntmps68
  go_wp2_with fail
  refine (gwant_yes _).mono ?_
  rintro e w1 ⟨rfl, rfl⟩
  go_wp2_with fail
  clear hz h0 hq hx q8
  have hc0 := C1.new w w.heap.size rfl (.slice none 0 0) 37
  have hb0 := (Bl.refl w).alloc (.cells #[.slice none 0 0] 37)
  have hs0 : w.heap.size + 1 ≤ (w.alloc (.cells #[.slice none 0 0] 37)).heap.size := by simp
  generalize w.alloc _ = W0 at *
  go_loopw [0, 29] (fun sv i wr => ∃ (k : Nat) (lk : List UInt8) (acc : List (List Int)) (v : Value), k ≤ n ∧ sv = .string (strL lk) ∧ i = .int .i64 k ∧ C1 wr w.heap.size v ∧ OR (w.heap.size + 1) wr v acc ∧ Below w.heap.size w wr ∧ w.heap.size + 1 ≤ wr.heap.size ∧ acc.length = k ∧ lk.length ≤ 900000 ∧ rdVs n n m = (rdVs n (n - k) lk).map fun q => (acc ++ q.1, q.2)) (fun _ i _ => n - (intOf i).toNat)
  case atStart => exact ⟨0, m, [], _, Nat.zero_le _, rfl, rfl, hc0, OR.nil _ _, hb0, hs0, rfl, hm, by simp⟩
  case round =>
    clear hc0 hb0 hs0
    obtain ⟨k, lk, acc, v, hk, rfl, rfl, hc, hor, hb, hsz, hal, hlk, hrd⟩ := hrel
    have HC := Lib.hid hc
    have HOR := Lib.hid hor
    have HB := Lib.hid hb
    have HD := Lib.hid hrd
    have HSZ := Lib.hid hsz
    have HAL := Lib.hid hal
    clear hc hor hb hrd hsz hal
    by_cases hlt : k < n
    · obtain ⟨j, hj⟩ : ∃ j, n - k = j + 1 := ⟨n - k - 1, by omega⟩
      rw [hj] at HD
      have HG := Lib.hid (fun w => vget_rd (strL lk) lk w (strL_SB lk) (by omega))
      have zl := strL_size lk
      have HX := Lib.hid (fun q => strL_drop lk q)
      generalize strL lk = sk at *
      go_wp2_with fail
      refine (HG.out _).mono ?_
      rintro e w2 (⟨xs, lm, vv, hv, rfl, hfi, hb2⟩ | ⟨hv, c, hc, rfl, hb2⟩)
      case inr =>
        have HN : Hid (rdRows (d :: m) = none) := Lib.hid (by rw [HR.out, HD.out]; simp [rdVs, hv])
        have HBB := Lib.hid (show Bl w w2 from Below.trans HB.out (Below.mono hb2 (by have := HSZ.out; omega)))
        clear hv hb2
        rcases hc with rfl | rfl
        · go_wp2_with fail
          refine (gwant_no _).mono ?_
          rintro e w3 ⟨rfl, rfl⟩
          unfold panE
          go_wp2_with fail
          exact ⟨rfl, .inr ⟨HN.out, rfl, HBB.out⟩⟩
        · go_wp2_with fail
          refine (gwant_no _).mono ?_
          rintro e w3 ⟨rfl, rfl⟩
          unfold panE
          go_wp2_with fail
          exact ⟨rfl, .inr ⟨HN.out, rfl, HBB.out⟩⟩
      have HBB := Lib.hid (show Bl w w2 from Below.trans HB.out (Below.mono hb2 (by have := HSZ.out; omega)))
      have HFI := Lib.hid hfi
      have HB2 := Lib.hid hb2
      obtain ⟨xa, xn, xc, rfl, hI⟩ := hfi.si
      have hxn : xs.length = xn := hI.len
      have hlen := rdV_len hv
      by_cases hne : xn = n
      case neg =>
        have HN : Hid (rdRows (d :: m) = none) := Lib.hid (by rw [HR.out, HD.out]; simp [rdVs, hv, hxn, hne])
        have qn : decide ((xn : Int) = (n : Int)) = false := decide_eq_false (by omega)
        have qb : ((xn : Int) == (n : Int)) = false := by rw [beq_eq_false_iff_ne]; omega
        clear hv hb2 hI hxn hlen hfi
        go_wp2_with fail
        refine (gwant_no _).mono ?_
        rintro e w3 ⟨rfl, rfl⟩
        unfold panE
        go_wp2_with fail
        exact ⟨rfl, .inr ⟨HN.out, rfl, HBB.out⟩⟩
      subst hne
      have HS : Hid (rdVs xn xn m = (rdVs xn j lm).map fun q => ((acc ++ [xs]) ++ q.1, q.2)) := Lib.hid (by
        rw [HD.out]
        simp only [rdVs, hv, Option.bind_some, hxn, if_true]
        rw [Option.map_map]
        congr 1
        funext q
        simp)
      have hsl : sk.extract (1 + 6 * xn) sk.size = strL lm := by
        rw [HX.out]
        have e1 := (rdV_back hv).1
        rw [e1, List.drop_left' (by rw [putL_len, hxn])]
      have hle : 1 + 6 * xn ≤ sk.size := by omega
      rw [hxn]
      have hlm : lm.length ≤ 900000 := by omega
      clear hv hb2 hI hlen hfi HD
      go_wp2_with fail
      refine (gwant_yes _).mono ?_
      rintro e w3 ⟨rfl, rfl⟩
      obtain ⟨va, vc, rfl⟩ := HOR.out.slice
      obtain ⟨vs, hown, hvl, hrr⟩ := HOR.out
      have hc2 := HC.out.keep HB2.out
      have hcell := hc2.cell
      have hfz := hc2.frozen
      have hca := fun o => ((hc2.alloc o).cell)
      have hown2 := ownsRow_bl hown HB2.out
      have HOWN := Lib.hid (And.intro hown (And.intro hvl hrr))
      clear hown hvl hrr
      have hsz2 : w.heap.size + 1 ≤ w2.heap.size := by have := HSZ.out; have := HB2.out.size; omega
      have hal2 : acc.length ≤ 8 := by have := HAL.out; omega
      go_wp2_with (at_builtin; refine wpList_appG rfl _ _ _ rfl el_row (w.heap.size + 1) _ acc.length vs rfl (ownsRow_bl hown2 ((Bl.refl w2).alloc _)) ?c1 _ 1 1 [.slice xa xn xc] rfl (SG.lit (heap_alloc_new _ _) rfl (by simp [Value.oneCell'])) ?c2 ?c3 ?_)
      case c1 => simp; omega
      case c2 => unfold maxLen; omega
      case c3 => omega
      intro v' w4 ho4 hg4
      have hd := (hc2.alloc (.cells #[.slice xa xn xc] 23)).grown hg4 (fun e => by have := (OR.row hown2 _ e.symm).1; omega)
      have hdc := hd.cell
      have hdf := hd.frozen
      obtain ⟨f1, f2, f3⟩ := HOWN.out
      have R := Lib.hid (OR.app HB.out (Nat.le_refl _) HSZ.out f1 f2 f3 HB2.out HFI.out ho4 hg4 v')
      have HDS := Lib.hid (hd.set v')
      obtain ⟨pa, pc, rfl⟩ : ∃ pa pc, v' = .slice pa (acc.length + 1) pc := by
        rcases ho4.2 with ⟨_, e⟩ | ⟨g, cap, cur, e, _⟩
        · omega
        · exact ⟨_, _, e⟩
      clear f1 f2 f3 HOWN hown2 hca hcell hfz hd ho4 hg4
      go_wp2_with fail
      go_roundw
      case rel => exact ⟨k + 1, lm, acc ++ [xs], _, by omega, congrArg Value.string (by rw [← zl]; exact hsl), by go_num, HDS.out, R.out.1, R.out.2.1, R.out.2.2, by have := HAL.out; rw [List.length_append]; simp; omega, hlm, by rw [show xn - (k + 1) = j by omega]; exact HS.out⟩
      case measure => simp [intOf]; omega
    · obtain rfl : k = n := by omega
      have HE : Hid (rdRows (d :: m) = if lk = [] then some acc else none) := Lib.hid (by
        rw [HR.out, HD.out, Nat.sub_self]
        simp [rdVs])
      by_cases h0 : lk = []
      · subst h0
        have q : (strL []).toList.isEmpty = true := by rw [ByteArray.toList_eq]; rfl
        go_wp2_with fail
        refine (gwant_yes _).mono ?_
        rintro e w3 ⟨rfl, rfl⟩
        go_wp2_with fail
        go_ret
        exact .inl ⟨acc, by rw [HE.out]; simp, rfl, ⟨_, HC.out, Nat.le_refl _, HOR.out⟩, HB.out⟩
      · have q : (strL lk).toList.isEmpty = false := filled_L h0
        have HN := Lib.hid h0
        clear h0
        go_wp2_with fail
        refine (gwant_no _).mono ?_
        rintro e w3 ⟨rfl, rfl⟩
        unfold panE
        go_wp2_with fail
        exact ⟨rfl, .inr ⟨by rw [HE.out, if_neg HN.out], rfl, HB.out⟩⟩
theorem gread_any (l : List UInt8) (w : World) (hz : l.length ≤ 900000) : Calls Try.prog 68 #[.string (strL l)] w (ReadPost w l) := by
  cases l with
  | nil => exact gread_nil w
  | cons d m =>
    by_cases hd : d.toNat < 1 ∨ 8 < d.toNat
    · exact gread_form _ d m w rfl hd
    · exact gread_loop _ d m w rfl d.toNat rfl (by omega) (by omega) (by rw [List.length_cons] at hz; omega)
end Go.Proofs.Ytechiehbigmjbaa
