import Derived.Test.YtibabgokmacnaaaGreatQProtoAsksUptoP1
import Derived.Test.YtibabgokmacnaaaGreatQProtoAsksUptoP24
import Derived.Deep.DeepCutAuto

/- append to a row of one's own, behind which the old slice still reads as it did. By an AI agent. -/
section
namespace Go.Proofs.YtibabgokmacnaaaGreat
open Go.RowKit

theorem run_appK {w : World} {B : Nat} {T E : TypeId} {size bytes : Nat} (hT : EL T E size bytes) (ty : TypeId) (v : Value) (n : Nat) (xs : List Value) (hown : w.ownsRow B E size v n xs) (ad : Option Addr) (m c : Nat) (news : List Value) (hs : SG w size ad m news)
    (h63 : n + m ≤ maxLen) (hbytes : (n + m) * bytes ≤ 140737488355328) (hB : B ≤ w.heap.size) :
    ∃ v' w', (Builtin.append_ #[T, T] ty #[v, .slice ad m c]).run Tryz.prog w = .ok v' w' ∧ w'.ownsRow B E size v' (n + m) (xs ++ news) ∧ w.grownBy w' v.ownBlock ∧ w'.ownsRow B E size v n xs ∧ (∀ b, v'.ownBlock = some b → v.ownBlock = some b ∨ w.heap.size ≤ b) := by
  obtain ⟨i, z, hi, hz, h1, h2, h3⟩ := hT.info
  cases ad with
  | none =>
    have hm := hs.nil rfl
    subst hm
    have e : news = [] := List.eq_nil_of_length_eq_zero (by rw [hs.len, Nat.zero_mul])
    subst e
    rw [List.append_nil, Nat.add_zero]
    have hown' := hown
    obtain ⟨hl, ⟨rfl, hn⟩ | ⟨g, cap, cur, rfl, hBg, hg, hn, r⟩⟩ := hown
    · subst hn
      exact ⟨_, w, by simp [Builtin.append_, run_underlying hT.ty, sizeOf, typeInfo, hi, Builtin.lenOf, Builtin.firstCells], ⟨hl, .inl ⟨rfl, rfl⟩⟩, ⟨rfl, rfl, rfl, Nat.le_refl _, fun _ _ _ => rfl⟩, hown', fun b h => .inl h⟩
    · have := run_append_room_src (P := Tryz.prog) w T T ty E i hT.ty hi g 0 n cap (.slice none 0 c) 0 [] (Src.ofNil w hT.ty c) (by omega) (fun k hk => by simp at hk) (fun k hk => by simp at hk)
      exact ⟨_, w, by simpa [World.setCells] using this, ⟨hl, .inr ⟨g, cap, cur, rfl, hBg, hg, hn, r⟩⟩, ⟨rfl, rfl, rfl, Nat.le_refl _, fun _ _ _ => rfl⟩, hown', fun b h => .inl h⟩
  | some ad =>
    have hsz := hT.pos
    obtain ⟨v', w', e1, e2, e3, _⟩ := run_append_own (P := Tryz.prog) w B T ty E i z size bytes hT.ty hi hz h1 h2 h3 hT.pos v n xs hown ad m c news hs.len (hs.at_ ad rfl) hs.one h63 hbytes hB
    refine ⟨v', w', e1, e2, e3, ?_⟩
    have e1' := e1
    subst h1
    subst h2
    rcases hown.2 with ⟨rfl, rfl⟩ | ⟨g, cap, cur, rfl, hbg, hg, hnc, hcm, hcs, htake⟩
    · refine ⟨⟨hown.1, .inl ⟨rfl, rfl⟩⟩, fun b hb => .inr ?_⟩
      obtain ⟨v2, w2, d1, d2, _⟩ := run_append_own (P := Tryz.prog) w w.heap.size T ty E i z i.size i.bytes hT.ty hi hz rfl rfl h3 hT.pos (.slice none 0 0) 0 xs ⟨hown.1, .inl ⟨rfl, rfl⟩⟩ ad m c news hs.len (hs.at_ ad rfl) hs.one h63 hbytes (Nat.le_refl _)
      rw [d1] at e1'
      cases e1'
      exact (World.ownsRow.lt d2 b hb).1
    · by_cases hroom : n + m ≤ cap
      · have hfit : n * i.size + news.length ≤ cur.size := by rw [hs.len, hcs, ← Nat.add_mul]; exact Nat.mul_le_mul_right _ hroom
        have hr := run_append_room (P := Tryz.prog) w T ty E i hT.ty hi g n cap cur hg ad m c news hs.len (hs.at_ ad rfl) hs.one hroom hfit
        rw [hr] at e1
        cases e1
        have hx1 := hown.1
        refine ⟨⟨hown.1, .inr ⟨g, cap, _, rfl, hbg, setRow_heap w g cur _ E _ hg, hnc, hcm, ?_, ?_⟩⟩, fun b hb => .inl hb⟩
        · simp only [List.size_toArray, List.length_append, List.length_take, List.length_drop, Array.length_toList]
          omega
        · rw [htake, List.append_assoc, ← hx1]
          exact List.take_left
      · have holds : ∀ j u, xs[j]? = some u → w.cell? ((⟨g, 0, none⟩ : Addr).add j) = some u := hown.cells (g := g) rfl
        have hr := run_append_grow (P := Tryz.prog) w T ty E i z hT.ty hi hz ⟨g, 0, none⟩ n cap xs hown.1 holds ad m c news hs.len (hs.at_ ad rfl) (by omega) (by simp only [maxLen] at h63; omega) (growslice_fits (by omega) hbytes)
        rw [hr] at e1
        cases e1
        refine ⟨⟨hown.1, .inr ⟨g, cap, cur, rfl, hbg, ?_, hnc, hcm, hcs, htake⟩⟩, fun b hb => .inr (by simp [Value.ownBlock] at hb; omega)⟩
        rw [heap_alloc_old w.drew _ (lt_of_heap hg)]
        exact hg
section
variable {ops : Array Oper}
theorem wpList_appK {rest : List Oper} {o : Oper} {a : Act} {w : World} {Q : Exit → Act → World → Prop} (hgd : o.guard = none) (s x : Operand) (T : TypeId)
    (ho : o.op = .call { callee := .builtin .append, args := #[s, x], argTypes := #[T, T] }) {E : TypeId} {size bytes : Nat} (hT : EL T E size bytes) (B : Nat) (v : Value) (n : Nat) (xs : List Value) (hs : a.eval s = v) (hown : w.ownsRow B E size v n xs) (hB : B ≤ w.heap.size)
    (ad : Option Addr) (m c : Nat) (news : List Value) (hx : a.eval x = .slice ad m c) (hsc : SG w size ad m news) (h63 : n + m ≤ maxLen) (hbytes : (n + m) * bytes ≤ 140737488355328)
    (h : ∀ v' w', w'.ownsRow B E size v' (n + m) (xs ++ news) → w.grownBy w' v.ownBlock → w'.ownsRow B E size v n xs → (∀ b, v'.ownBlock = some b → v.ownBlock = some b ∨ w.heap.size ≤ b) → wpList Tryz.prog ops Q rest (a.put o.dst v') w') : wpList Tryz.prog ops Q (o :: rest) a w := by
  obtain ⟨v', w', hr, h2, h3, h4, h5⟩ := run_appK hT o.type v n xs hown ad m c news hsc h63 hbytes hB
  refine wpList_plain hgd fun _ hK => ?_
  unfold Oper.wp execOp
  simp only [ho, resolve, invoke, builtin, Sem.run_bind, Sem.run_pure, Result.andThen_ok, List.map_toArray, List.map_cons, List.map_nil, hs, hx, hr]
  exact hK _ _ (h v' w' h2 h3 h4 h5)
end
end Go.Proofs.YtibabgokmacnaaaGreat
end

/- bedrockbook over vectors that are kept: stillVecs, markedVecs. By an AI agent. -/
section
namespace Go.Proofs.YtibabgokmacnaaaGreat
open Go.RowKit
attribute [local go_sem] eOp eOper eUpon

/-- n values that lie one behind the other -/
def LA (W : World) (a : Option Addr) (n : Nat) (vs : Nat → Value) : Prop := ∀ j, j < n → ∃ b off, a = some ⟨b, off, none⟩ ∧ ∀ j, j < n → W.cell? ⟨b, off + j, none⟩ = some (vs j)
theorem LA.keep {W W' : World} {a : Option Addr} {n : Nat} {vs : Nat → Value} (h : LA W a n vs) (hb : Bl W W') : LA W' a n vs := fun j hj => by
  obtain ⟨b, off, e, hc⟩ := h j hj
  exact ⟨b, off, e, fun j hj => hb.cell (hc j hj)⟩

theorem stillVecs_any (g : Nat) (va ua : Option Addr) (n cv cu : Nat) (vs us : Nat → Value) (xs : Nat → List Int) (w : World) (hn : n ≤ 250) (hc4 : w.cell? ⟨g, 4, none⟩ = some (.slice va n cv)) (hc5 : w.cell? ⟨g, 5, none⟩ = some (.slice ua n cu))
    (hv : LA w va n vs) (hu : LA w ua n us) (h : ∀ j, j < n → SI w (vs j) (xs j) ∧ SI w (us j) (xs j)) :
    Calls Tryz.prog 79 #[.pointer (some ⟨g, 0, none⟩)] w fun e w' => e = .returned (.bool true) ∧ Bl w w' := by
  have HC4 := Lib.hid hc4
  have HC5 := Lib.hid hc5
  have HH := Lib.hid h
  clear hc4 hc5 h
  go_enter Tryz.func79, Tryz.ntmps79
  go_wp2_with fail
  go_loopw [3] (fun i w' => ∃ k : Nat, k ≤ n ∧ i = .int .i64 k ∧ Bl w w') (fun i _ => n - (intOf i).toNat)
  case atStart => exact ⟨0, Nat.zero_le _, rfl, Bl.refl _⟩
  case round =>
    obtain ⟨k, hk, rfl, hbl⟩ := hrel
    have c4 := hbl.cell HC4.out
    by_cases hlt : k < n
    · obtain ⟨b, off, rfl, hcv⟩ := hv k hlt
      obtain ⟨b2, off2, rfl, hcu⟩ := hu k hlt
      obtain ⟨⟨a1, n1, c1, e1, I1⟩, ⟨a2, n2, c2, e2, I2⟩⟩ := HH.out k hlt
      have HV := Lib.hid (hcv k hlt)
      have HU := Lib.hid (hcu k hlt)
      rw [e1] at HV
      rw [e2] at HU
      have HS := Lib.hid (fun (W : World) (hb : Bl w W) => (show Calls Tryz.prog 175 #[.slice a1 n1 c1, .slice a2 n2 c2] W fun e w' => e = .returned (.bool true) ∧ Bl W w' from by
        have := sameVecs_any a1 a2 n1 n2 c1 c2 (xs k) (xs k) W (I1.keep hb) (I2.keep hb)
        rwa [decide_eq_true (rfl : xs k = xs k)] at this))
      clear e1 e2 I1 I2 hcv hcu
      go_upto_region 4 with fail
      refine wp_region_extall (by kernel_rfl) (by kernel_rfl) ?_
      have HBZ := Lib.hid hbl.drew
      generalize World.drew _ = Z at *
      clear c4
      have p0 : ∀ q : Ext Z, _ := fun q => (HBZ.out.trans q.bl).cell HC4.out
      have p1 : ∀ q : Ext Z, _ := fun q => (HBZ.out.trans q.bl).cell HC5.out
      have p2 : ∀ q : Ext Z, _ := fun q => (HBZ.out.trans q.bl).cell HV.out
      have p3 : ∀ q : Ext Z, _ := fun q => (HBZ.out.trans q.bl).cell HU.out
      repeat (refine wpE_step (fun K hK => ?_); go_simp; first | (refine hK _ ?_; clear hK K) | (apply Exists.intro; refine ⟨fun q => ?_, hK _ ?_⟩; (with_reducible exact HS.out _ (HBZ.out.trans q.bl)); clear hK K))
      refine wpE_nil ?_
      intro q9
      have HBX := Lib.hid (HBZ.out.trans q9.bl)
      clear p0 p1 p2 p3 HBZ
      generalize ExtC.at q9 = X at *
      go_wp2_with fail
      go_roundw
      case rel => exact ⟨k + 1, by omega, by go_num, HBX.out⟩
      case measure => simp [intOf]; omega
    · go_wp2_with fail
      go_ret
      exact ⟨rfl, hbl⟩

theorem markedVecs_any (la : Option Addr) (n lc : Nat) (vs : Nat → Value) (ms : Nat → Nat) (w : World) (hn : n ≤ 250) (hv : LA w la n vs) (h : ∀ j, j < n → SI w (vs j) (markL j 0 (ms j)) ∧ ms j ≤ 100000) :
    Calls Tryz.prog 124 #[.slice la n lc] w fun e w' => e = .returned (.bool true) ∧ Bl w w' := by
  have HH := Lib.hid h
  clear h
  go_enter Tryz.func124, Tryz.ntmps124
  go_wp2_with fail
  go_loopw [3] (fun i w' => ∃ k : Nat, k ≤ n ∧ i = .int .i64 k ∧ Bl w w') (fun i _ => n - (intOf i).toNat)
  case atStart => exact ⟨0, Nat.zero_le _, rfl, Bl.refl _⟩
  case round =>
    obtain ⟨k, hk, rfl, hbl⟩ := hrel
    by_cases hlt : k < n
    · obtain ⟨b, off, rfl, hcv⟩ := hv k hlt
      obtain ⟨⟨a1, n1, c1, e1, I1⟩, hm⟩ := HH.out k hlt
      have HV := Lib.hid (hcv k hlt)
      rw [e1] at HV
      have hn1 : ms k = n1 := by have := I1.len; rw [markL_len] at this; exact this
      rw [hn1] at I1 hm
      have HI := Lib.hid I1
      clear e1 I1 hcv hn1
      go_upto_region 4 with fail
      refine wp_region_idx [0, 1, 2, 3, 4, 5, 6, 7, 8, 9] 3 (Bl w) (fun _ _ h k => h.trans k) hbl.drew (by kernel_rfl) rfl (by kernel_rfl) (by kernel_rfl) ?_
      have HBZ := Lib.hid hbl.drew
      generalize World.drew _ = Z at *
      clear hbl
      haveI : Nonempty (ExtC (Bl w)) := ⟨⟨Z, HBZ.out⟩⟩
      have p2 : ∀ q : ExtC (Bl w), _ := fun q => q.ok.cell HV.out
      repeat (refine wpI_step rfl (fun K hK => ?_); go_simp; first | (refine hK _ ?_; clear hK K) | (apply Exists.intro; refine ⟨fun q => ?_, hK _ ?_⟩; fail; clear hK K))
      refine wpI_nil ?_
      clear p2 this
      refine wpAnyE_one (i := 10) (by kernel_rfl) ?_
      intro X1 hx1
      have HB1 := Lib.hid (HBZ.out.trans hx1)
      clear HBZ hx1
      go_simp
      refine (markVecs_any k 0 n1 X1 (by omega) (by omega)).mono ?_
      rintro e X2 ⟨v, rfl, hf, hb2⟩
      have HB2 := Lib.hid (HB1.out.trans hb2)
      obtain ⟨a2, n2, c2, rfl, I2⟩ := hf.si
      have HI2 := Lib.hid I2
      clear HB1 hb2 hf I2
      go_simp
      refine ⟨HB2.out, ?_⟩
      refine wpAnyE_one (i := 11) (by kernel_rfl) ?_
      intro X3 hx3
      have HB3 := Lib.hid (HB2.out.trans hx3)
      go_simp
      have hs := sameVecs_any a1 a2 n1 n2 c1 c2 (markL k 0 n1) (markL k 0 n1) X3 (HI.out.keep HB3.out) (HI2.out.keep hx3)
      rw [decide_eq_true (rfl : markL k 0 n1 = markL k 0 n1)] at hs
      refine hs.mono ?_
      rintro e X4 ⟨rfl, hb4⟩
      have HB4 := Lib.hid (HB3.out.trans hb4)
      clear HB3 HB2 hx3 hb4 hs HI2
      go_simp
      refine ⟨HB4.out, ?_⟩
      refine wpAnyE_one (i := 12) (by kernel_rfl) ?_
      intro X5 hx5
      have HB5 := Lib.hid (HB4.out.trans hx5)
      clear HB4 hx5
      go_simp
      refine ⟨HB5.out, ?_⟩
      refine wpAnyE_done (by kernel_rfl) ?_
      intro X6 hx6
      have HB6 := Lib.hid (HB5.out.trans hx6)
      clear HB5 hx6
      go_wp2_with fail
      go_roundw
      case rel => exact ⟨k + 1, by omega, by go_num, HB6.out⟩
      case measure => simp [intOf]; omega
    · go_wp2_with fail
      go_ret
      exact ⟨rfl, hbl⟩
end Go.Proofs.YtibabgokmacnaaaGreat
end
