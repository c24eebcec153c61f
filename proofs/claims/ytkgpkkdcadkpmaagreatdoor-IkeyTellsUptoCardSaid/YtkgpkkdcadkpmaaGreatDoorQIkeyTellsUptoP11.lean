import Derived.Test.YtkgpkkdcadkpmaaGreatDoorQIkeyTellsUptoP4
import Derived.Test.YtkgpkkdcadkpmaaGreatDoorQIkeyTellsUptoP1

/- bedrockref5.Time. By an AI agent. -/
section
namespace Go.Proofs.YtkgpkkdcadkpmaaGreatDoor
open Go.RowKit

def runL (xs : List Int) (k : Nat) : Int := maxL (xs.take k)
theorem runL_one {xs : List Int} (h : 0 < xs.length) : runL xs 1 = nth xs 0 := by
  cases xs with
  | nil => simp at h
  | cons a l => simp [runL, maxL, nth]
theorem runL_succ {xs : List Int} {k : Nat} (h0 : k ≠ 0) (h : k < xs.length) : runL xs (k + 1) = max (runL xs k) (nth xs k) := by
  unfold runL
  rw [List.take_succ_eq_append_getElem h, ← nth_eq h]
  cases xs with
  | nil => simp at h
  | cons a l =>
    obtain ⟨j, rfl⟩ : ∃ j, k = j + 1 := ⟨k - 1, by omega⟩
    simp [maxL, List.foldl_append]
theorem runL_all (xs : List Int) : runL xs xs.length = maxL xs := by unfold runL; rw [List.take_length]

set_option maxHeartbeats 1600000 in
set_option maxRecDepth 100000 in
theorem rtime_any (V : VerL) (a : Option Addr) (n ca : Nat) (T : Int) (w : World) (hx : IA w a n V.at_) (HT : Hid (timeL V = T)) :
    Calls Tryz.prog 25 #[.agg #[.string V.key, .slice a n ca, .int .i64 V.origin, .int .i64 V.tx, .int .i64 V.act.k, .float .f64 V.act.x, .int .i64 V.act.n, .string V.act.s]] w fun e w' => e = .returned (.int .i64 T) ∧ Bl w w' := by
  obtain ⟨key, xs, o, t, k0, x0, m0, s0⟩ := V
  dsimp only at hx ⊢
  have HX := Lib.hid hx.len
  have hcap := hx.cap
  have hbl := (Bl.refl w).alloc (.cells #[.string key, .slice a n ca, .int .i64 o, .int .i64 t, .int .i64 k0, .float .f64 x0, .int .i64 m0, .string s0] 28)
  have hA := ver_box w key a n ca o t k0 x0 m0 s0
  have hE : (if o = 254 ∧ 0 < n then maxL xs else if 0 ≤ o ∧ o < (n : Int) then nth xs o.toNat else 0) = T := by
    have := HT.out
    unfold timeL at this
    simp only [HX.out] at this
    exact this
  clear HT
  by_cases h1 : o = 254
  · subst h1
    have hE2 : (if n = 0 then 0 else maxL xs) = T := by
      rw [← hE]
      by_cases h0 : n = 0
      · rw [if_pos h0, if_neg (by omega), if_neg (by omega)]
      · rw [if_neg h0, if_pos ⟨rfl, by omega⟩]
    have HE := Lib.hid hE2
    clear hE hE2
    go_enter Tryz.func25, Tryz.ntmps25
    go_wp2_with fail
    go_loopw [3, 4] (fun v i wr => ∃ (k : Nat) (y : Int), k ≤ n ∧ i = .int .i64 k ∧ v = .int .i64 y ∧ Bl w wr ∧ AC wr w.heap.size (verC key a n ca 254 t k0 x0 m0 s0) ∧ Hid (y = if k = 0 then 0 else runL xs k)) (fun _ i _ => n - (intOf i).toNat)
    case atStart => exact ⟨0, 0, Nat.zero_le _, rfl, rfl, hbl, hA, Lib.hid rfl⟩
    case round =>
      clear hbl hA
      obtain ⟨k, y, hk, rfl, rfl, hb, hA, HY⟩ := hrel
      have d1 := hA.ver.2.1
      by_cases hlt : k < n
      · obtain ⟨ba, oa, rfl, hck⟩ := (hx.keep hb).at_k k hlt
        have hk2 : k < xs.length := by rw [HX.out]; exact hlt
        by_cases hz : k = 0
        · subst hz
          have HR := Lib.hid (runL_one hk2)
          rw [Nat.add_zero] at hck
          go_wp2_with fail
          go_roundw
          case rel => exact ⟨1, _, by omega, by go_num, rfl, hb, hA, Lib.hid (by rw [if_neg (by omega), HR.out])⟩
          case measure => simp [intOf]; omega
        · have HR := Lib.hid (runL_succ hz hk2)
          have HY2 : Hid (y = runL xs k) := Lib.hid (by rw [HY.out, if_neg hz])
          have q0 : ((k : Int) == 0) = false := by rw [beq_eq_false_iff_ne]; omega
          by_cases hgt : y < nth xs k
          · go_wp2_with fail
            go_roundw
            case rel => exact ⟨k + 1, _, by omega, by go_num, rfl, hb, hA, Lib.hid (by rw [if_neg (by omega), HR.out, ← HY2.out]; omega)⟩
            case measure => simp [intOf]; omega
          · go_wp2_with fail
            go_roundw
            case rel => exact ⟨k + 1, _, by omega, by go_num, rfl, hb, hA, Lib.hid (by rw [if_neg (by omega), HR.out, ← HY2.out]; omega)⟩
            case measure => simp [intOf]; omega
      · obtain rfl : k = n := by omega
        go_wp2_with fail
        go_ret
        exact ⟨ret_int (by rw [HY.out, ← HE.out]; split; rfl; rw [← runL_all, HX.out]), hb⟩
  · have q : (o == 254) = false := by rw [beq_eq_false_iff_ne]; exact h1
    rw [if_neg (by omega)] at hE
    by_cases h2 : 0 ≤ o ∧ o < (n : Int)
    · rw [if_pos h2] at hE
      subst hE
      obtain ⟨j, rfl⟩ : ∃ j : Nat, o = j := ⟨o.toNat, by omega⟩
      have hj : j < n := by omega
      obtain ⟨ba, oa, rfl, hcj⟩ := (hx.keep hbl).at_k j hj
      have h3 : (j : Int) < (n : Int) := by omega
      clear h1 h2
      go_enter Tryz.func25, Tryz.ntmps25
      go_wp2_with fail
      go_ret
      exact ⟨rfl, hbl⟩
    · rw [if_neg h2] at hE
      subst hE
      by_cases h3 : o < 0
      · clear h1 h2
        go_enter Tryz.func25, Tryz.ntmps25
        go_wp2_with fail
        go_ret
        exact ⟨rfl, hbl⟩
      · have h4 : (n : Int) ≤ o := by omega
        clear h1 h2
        go_enter Tryz.func25, Tryz.ntmps25
        go_wp2_with fail
        go_ret
        exact ⟨rfl, hbl⟩
end Go.Proofs.YtkgpkkdcadkpmaaGreatDoor
end

/- bytes that the call itself has made grow. By an AI agent. -/
section
namespace Go.Proofs.YtkgpkkdcadkpmaaGreatDoor
open Go.RowKit

/-- behind 'append(v, x, y ..)' -/
theorem OB.pushL {B : Nat} {w0 w w1 : World} {v v' : Value} {xs : List Int} {ys : List Int} {o : Obj} (hb : Below B w0 w) (hB : B ≤ w.heap.size) (hown : OB B w v xs)
    (hown' : w1.ownsRow B 5 1 v' (xs.length + ys.length) (xs.map (Value.int .u8) ++ ys.map (Value.int .u8))) (hg : (w.alloc o).grownBy w1 v.ownBlock) : OB B w1 v' (xs ++ ys) ∧ Below B w0 w1 :=
  ⟨by simpa [OB] using hown', (hb.alloc hB o).grown hg (by simp; omega) (fun j hj => (World.ownsRow.lt hown j hj).1)⟩
theorem OB.keep {B : Nat} {w w' : World} {v : Value} {xs : List Int} (h : OB B w v xs) (hb : Bl w w') : OB B w' v xs := ownsRow_bl h hb
/-- bytes as numbers -/
def numsB (l : List UInt8) : List Int := l.map fun b => (b.toNat : Int)
theorem numsB_append (l m : List UInt8) : numsB (l ++ m) = numsB l ++ numsB m := by simp [numsB]
theorem numsB_len (l : List UInt8) : (numsB l).length = l.length := by simp [numsB]
theorem str_numsB (l : List UInt8) : strOfNums (numsB l) = ⟨l.toArray⟩ := by
  apply ByteArray.ext
  apply Array.toList_inj.1
  show ((numsB l).map fun n => UInt8.ofNat n.toNat) = l
  simp [numsB, Function.comp_def]
end Go.Proofs.YtkgpkkdcadkpmaaGreatDoor
end
