import Derived.Test.YtfmabjoindlfeaaGreatQTxnTellsUptoP1
import Derived.Deep.AppendSrc
import Derived.Maps.OwnRows
import Derived.Deep.QuietTactic
import Derived.BigQuiet

/- append to what a call has made, of elements of any type, of whatever slice (nil too). By an AI agent. -/
section
namespace Go.Proofs.YtfmabjoindlfeaaGreat
open Go.RowKit
attribute [local go_sem] eOp eOper eUpon

/-- the cells of a slice of n elements of so many cells each -/
structure SG (w : World) (size : Nat) (a : Option Addr) (n : Nat) (cs : List Value) : Prop where
  len : cs.length = n * size
  at_ : ∀ ad, a = some ad → ∀ j u, cs[j]? = some u → w.cell? (ad.add j) = some u
  nil : a = none → n = 0
  one : ∀ u ∈ cs, u.oneCell' = true
theorem SG.keep {w w' : World} {size : Nat} {a : Option Addr} {n : Nat} {cs : List Value} (h : SG w size a n cs) (hb : Bl w w') : SG w' size a n cs :=
  ⟨h.len, fun ad e j u hu => hb.cell (h.at_ ad e j u hu), h.nil, h.one⟩
/-- what is asked of the types -/
structure EL (T E : TypeId) (size bytes : Nat) : Prop where
  ty : Tryz.prog.underlying T = some (.slice E)
  info : ∃ i z, Tryz.prog.info? E = some i ∧ i.zero = some z ∧ i.size = size ∧ i.bytes = bytes ∧ z.cells.size = size
  pos : 0 < size
theorem el_of {T E : TypeId} {size bytes : Nat} (h1 : Tryz.prog.underlying T = some (.slice E)) (h2 : (Tryz.prog.info? E).map (fun i => (i.zero.map (fun z => z.cells.size), i.size, i.bytes)) = some (some size, size, bytes)) (h3 : 0 < size) : EL T E size bytes := by
  refine ⟨h1, ?_, h3⟩
  cases hi : Tryz.prog.info? E with
  | none => rw [hi] at h2; cases h2
  | some i =>
    rw [hi] at h2
    simp only [Option.map_some, Option.some.injEq, Prod.mk.injEq] at h2
    obtain ⟨g1, g2, g3⟩ := h2
    cases hz : i.zero with
    | none => rw [hz] at g1; cases g1
    | some z =>
      rw [hz] at g1
      simp only [Option.map_some, Option.some.injEq] at g1
      exact ⟨i, z, rfl, hz, g2, g3, g1⟩
theorem run_appG {w : World} {B : Nat} {T E : TypeId} {size bytes : Nat} (hT : EL T E size bytes) (ty : TypeId) (v : Value) (n : Nat) (xs : List Value) (hown : w.ownsRow B E size v n xs) (ad : Option Addr) (m c : Nat) (news : List Value) (hs : SG w size ad m news)
    (h63 : n + m ≤ maxLen) (hbytes : (n + m) * bytes ≤ 140737488355328) (hB : B ≤ w.heap.size) :
    ∃ v' w', (Builtin.append_ #[T, T] ty #[v, .slice ad m c]).run Tryz.prog w = .ok v' w' ∧ w'.ownsRow B E size v' (n + m) (xs ++ news) ∧ w.grownBy w' v.ownBlock := by
  obtain ⟨i, z, hi, hz, h1, h2, h3⟩ := hT.info
  cases ad with
  | none =>
    have hm := hs.nil rfl
    subst hm
    have e : news = [] := List.eq_nil_of_length_eq_zero (by rw [hs.len, Nat.zero_mul])
    subst e
    rw [List.append_nil, Nat.add_zero]
    obtain ⟨hl, ⟨rfl, hn⟩ | ⟨g, cap, cur, rfl, hBg, hg, hn, r⟩⟩ := hown
    · subst hn
      exact ⟨_, w, by simp [Builtin.append_, run_underlying hT.ty, sizeOf, typeInfo, hi, Builtin.lenOf, Builtin.firstCells], ⟨hl, .inl ⟨rfl, rfl⟩⟩, ⟨rfl, rfl, rfl, Nat.le_refl _, fun _ _ _ => rfl⟩⟩
    · have := run_append_room_src (P := Tryz.prog) w T T ty E i hT.ty hi g 0 n cap (.slice none 0 c) 0 [] (Src.ofNil w hT.ty c) (by omega) (fun k hk => by simp at hk) (fun k hk => by simp at hk)
      exact ⟨_, w, by simpa [World.setCells] using this, ⟨hl, .inr ⟨g, cap, cur, rfl, hBg, hg, hn, r⟩⟩, ⟨rfl, rfl, rfl, Nat.le_refl _, fun _ _ _ => rfl⟩⟩
  | some ad =>
    obtain ⟨v', w', e1, e2, e3, _⟩ := run_append_own (P := Tryz.prog) w B T ty E i z size bytes hT.ty hi hz h1 h2 h3 hT.pos v n xs hown ad m c news hs.len (hs.at_ ad rfl) hs.one h63 hbytes hB
    exact ⟨v', w', e1, e2, e3⟩
section
variable {ops : Array Oper}
theorem wpList_appG {rest : List Oper} {o : Oper} {a : Act} {w : World} {Q : Exit → Act → World → Prop} (hgd : o.guard = none) (s x : Operand) (T : TypeId)
    (ho : o.op = .call { callee := .builtin .append, args := #[s, x], argTypes := #[T, T] }) {E : TypeId} {size bytes : Nat} (hT : EL T E size bytes) (B : Nat) (v : Value) (n : Nat) (xs : List Value) (hs : a.eval s = v) (hown : w.ownsRow B E size v n xs) (hB : B ≤ w.heap.size)
    (ad : Option Addr) (m c : Nat) (news : List Value) (hx : a.eval x = .slice ad m c) (hsc : SG w size ad m news) (h63 : n + m ≤ maxLen) (hbytes : (n + m) * bytes ≤ 140737488355328)
    (h : ∀ v' w', w'.ownsRow B E size v' (n + m) (xs ++ news) → w.grownBy w' v.ownBlock → wpList Tryz.prog ops Q rest (a.put o.dst v') w') : wpList Tryz.prog ops Q (o :: rest) a w := by
  obtain ⟨v', w', hr, h2, h3⟩ := run_appG hT o.type v n xs hown ad m c news hsc h63 hbytes hB
  refine wpList_plain hgd fun _ hK => ?_
  unfold Oper.wp execOp
  simp only [ho, resolve, invoke, builtin, Sem.run_bind, Sem.run_pure, Result.andThen_ok, List.map_toArray, List.map_cons, List.map_nil, hs, hx, hr]
  exact hK _ _ (h v' w' h2 h3)
theorem eOp_appG {i : Nat} {o : Oper} {a : Act} {w : World} {K : Act → World → Prop} (ho' : ops[i]? = some o) (hgd : o.guard = none) (s x : Operand) (T : TypeId)
    (ho : o.op = .call { callee := .builtin .append, args := #[s, x], argTypes := #[T, T] }) {E : TypeId} {size bytes : Nat} (hT : EL T E size bytes) (B : Nat) (v : Value) (n : Nat) (xs : List Value) (hs : a.eval s = v) (hown : w.ownsRow B E size v n xs) (hB : B ≤ w.heap.size)
    (ad : Option Addr) (m c : Nat) (news : List Value) (hx : a.eval x = .slice ad m c) (hsc : SG w size ad m news) (h63 : n + m ≤ maxLen) (hbytes : (n + m) * bytes ≤ 140737488355328)
    (h : ∀ v' w', w'.ownsRow B E size v' (n + m) (xs ++ news) → w.grownBy w' v.ownBlock → K (a.put o.dst v') w') : eOp Tryz.prog ops i K a w := by
  obtain ⟨v', w', hr, h2, h3⟩ := run_appG hT o.type v n xs hown ad m c news hsc h63 hbytes hB
  unfold eOp
  simp only [ho']
  rw [if_pos (by simp [Region.wanted, hgd])]
  unfold eOper execOp
  simp only [ho, resolve, invoke, builtin, Sem.run_bind, Sem.run_pure, Result.andThen_ok, List.map_toArray, List.map_cons, List.map_nil, hs, hx, hr, eUpon]
  exact h v' w' h2 h3
end
/-- a row that the call makes holds nothing that was there -/
theorem Bl.ownRow {B : Nat} {E : TypeId} {size : Nat} {w0 w w' : World} {v : Value} {n : Nat} {cs : List Value} (hb : Bl w0 w) (ho : w.ownsRow B E size v n cs) (hB : w0.heap.size ≤ B) (hg : w.grownBy w' v.ownBlock) : Bl w0 w' :=
  Below.grown hb hg hb.size (fun k hk => Nat.le_trans hB (World.ownsRow.lt ho k hk).1)
/-- the block that holds so many cells, in its own right -/
theorem SG.lit {w : World} {g size : Nat} {E : TypeId} {cs : List Value} (h : w.heap[g]? = some (.cells cs.toArray E (0, 0))) (hl : cs.length = 1 * size) (h1 : ∀ u ∈ cs, u.oneCell' = true) : SG w size (some ⟨g, 0, none⟩) 1 cs := by
  refine ⟨hl, fun ad e j u hu => ?_, fun e => (by cases e), h1⟩
  obtain rfl := Option.some.inj e
  rw [Addr.add_lit, Nat.zero_add, cell_of_row w g j _ E (0, 0) h]
  simpa using hu
theorem sg_ints {w : World} {a : Option Addr} {n : Nat} {xs : List Int} (h : IA w a n xs) : SG w 1 a n (xs.map (Value.int .i64)) := by
  refine ⟨by simp [h.len], fun ad e j u hu => ?_, fun e => ?_, fun u hu => by simp at hu; obtain ⟨x, _, rfl⟩ := hu; rfl⟩
  · have hjl : j < n := by
      have := (List.getElem?_eq_some_iff.1 hu).1
      simpa [h.len] using this
    obtain ⟨b, off, e', hc⟩ := h.cells j hjl
    rw [e] at e'
    obtain rfl := Option.some.inj e'
    have hjx : j < xs.length := by rw [h.len]; exact hjl
    simp [hjx] at hu
    rw [Addr.add_lit, hc j hjl, nth_eq hjx, hu]
  · subst e
    by_cases hn : 0 < n
    · obtain ⟨b, off, e', _⟩ := h.cells 0 hn
      cases e'
    · omega
end Go.Proofs.YtfmabjoindlfeaaGreat
end

/- bedrockbook over vectors: SameVecs, markVecs, copyVecs. By an AI agent. -/
section
namespace Go.Proofs.YtfmabjoindlfeaaGreat
open Go.RowKit

theorem sameVecs_any (a b : Option Addr) (n m ca cb : Nat) (xs ys : List Int) (w : World) (hx : IA w a n xs) (hy : IA w b m ys) :
    Calls Tryz.prog 145 #[.slice a n ca, .slice b m cb] w fun e w' => e = .returned (.bool (decide (xs = ys))) ∧ Bl w w' := by
  have hx1 := hx.cap
  have hy1 := hy.cap
  by_cases hl : n = m
  · subst hl
    have HLL := Lib.hid (hx.len.trans hy.len.symm)
    have HX := Lib.hid hx.len
    have h2 : ((n : Int) != (n : Int)) = false := by simp
    go_enter Tryz.func145, Tryz.ntmps145
    go_wp2
    go_loopw [5] (fun i w' => ∃ k : Nat, k ≤ n ∧ i = .int .i64 k ∧ Bl w w' ∧ ∀ j, j < k → nth xs j = nth ys j) (fun i _ => n - (intOf i).toNat)
    case atStart => exact ⟨0, Nat.zero_le _, rfl, Bl.refl _, fun j h => by omega⟩
    case round =>
      obtain ⟨k, hk, rfl, hbl, hle⟩ := hrel
      have HLE := Lib.hid hle; clear hle
      by_cases hlt : k < n
      · obtain ⟨ba, oa, rfl, hca⟩ := hx.cells k hlt
        obtain ⟨bb, ob, rfl, hcb⟩ := hy.cells k hlt
        have ha := hbl.cell (hca k hlt)
        have hb := hbl.cell (hcb k hlt)
        clear hca hcb
        by_cases hgt : nth xs k = nth ys k
        · have hbo : (nth xs k == nth ys k) = true := by simp [hgt]
          have HE := Lib.hid hgt; clear hgt
          go_wp2
          go_quiet (fail)
          go_wp2
          go_roundw
          case rel => exact ⟨k + 1, by omega, by go_num, hbl.drewN _, fun j hj => by
            by_cases e : j = k
            · subst e; exact HE.out
            · exact HLE.out j (by omega)⟩
          case measure => simp [intOf]; omega
        · have hbo : (nth xs k == nth ys k) = false := by simp [hgt]
          have HR := Lib.hid (show decide (xs = ys) = false from decide_eq_false (fun e => hgt (by rw [e])))
          clear hgt
          go_wp2
          go_quiet (fail)
          go_wp2
          go_ret
          exact ⟨ret_bool HR.out.symm, hbl.drewN _⟩
      · have HR := Lib.hid (show decide (xs = ys) = true from decide_eq_true (getD_ext HLL.out (fun j hj => HLE.out j (by rw [HX.out] at hj; omega))))
        go_wp2
        go_ret
        exact ⟨ret_bool HR.out.symm, hbl⟩
  · have h2 : ((n : Int) != (m : Int)) = true := by simp; omega
    have HR := Lib.hid (show decide (xs = ys) = false from decide_eq_false (fun e => hl (by rw [← hx.len, ← hy.len, e])))
    go_enter Tryz.func145, Tryz.ntmps145
    go_wp2
    go_ret
    exact ⟨ret_bool HR.out.symm, Bl.refl _⟩

/-- the marks of the i-th list, from the place on -/
def markL (i from_ n : Nat) : List Int := (List.range n).map fun k => -1000000 * (i : Int) - ((from_ + k : Nat) : Int) - 9
theorem markL_len (i f n : Nat) : (markL i f n).length = n := by simp [markL]
theorem markL_succ (i f n : Nat) : markL i f (n + 1) = markL i f n ++ [-1000000 * (i : Int) - ((f + n : Nat) : Int) - 9] := by simp [markL, List.range_succ]
theorem markL_add (i f n m : Nat) : markL i f n ++ markL i (f + n) m = markL i f (n + m) := by
  induction m with
  | zero => simp [markL]
  | succ m ih => rw [markL_succ, ← List.append_assoc, ih, ← Nat.add_assoc, markL_succ, Nat.add_assoc]
theorem markL_wf {i f n : Nat} (hi : i < 250) (hf : f + n ≤ 100000) : ∀ x ∈ markL i f n, -9223372036854775808 ≤ x ∧ x ≤ 9223372036854775807 := by
  intro x hx
  simp only [markL, List.mem_map, List.mem_range] at hx
  obtain ⟨k, hk, rfl⟩ := hx
  omega

theorem markVecs_any (i f n : Nat) (w : World) (hi250 : i < 250) (hf : f + n ≤ 100000) :
    Calls Tryz.prog 164 #[.int .i64 i, .int .i64 f, .int .i64 n] w fun e w' => ∃ v, e = .returned v ∧ FI w.heap.size w' v (markL i f n) ∧ Bl w w' := by
  obtain ⟨i0, hi, hz0, hz1, hz2⟩ := info_parts info_int
  have hfi : (f : Int) + (n : Int) ≤ 100000 := by omega
  have hii : (i : Int) < 250 := by omega
  obtain ⟨M, hM⟩ : ∃ M : Int, -1000000 * (i : Int) = M := ⟨_, rfl⟩
  have hM0 : -250000000 ≤ M := by omega
  have hM1 : M ≤ 0 := by omega
  have HM := Lib.hid hM
  go_enter Tryz.func164, Tryz.ntmps164
  go_wp2
  go_loopw [7, 8] (fun v c wr => ∃ k : Nat, k ≤ n ∧ c = .int .i64 ((f + k : Nat) : Int) ∧ Bl w wr ∧ OI w.heap.size wr v (markL i f k)) (fun _ c _ => f + n - (intOf c).toNat)
  case atStart => exact ⟨0, Nat.zero_le _, rfl, Bl.refl _, OI.nil _ _⟩
  case round =>
    obtain ⟨k, hk, rfl, hbl, hown⟩ := hrel
    have hbs := hbl.size
    have hlen : (markL i f k).length = k := markL_len i f k
    obtain ⟨c, hc⟩ : ∃ c, f + k = c := ⟨_, rfl⟩
    rw [hc]
    by_cases hlt : k < n
    · have hlt2 : (c : Int) < (f : Int) + (n : Int) := by omega
      have hlt3 : c < f + n := by omega
      have HC := Lib.hid hc
      clear hc
      go_wp2_with (at_builtin; refine wpList_append_own _ rfl _ _ 22 rfl (w.heap.size) 3 i0 (.int .i64 0) 1 8 Tryz.underlying22 hi hz0 hz1 hz2 rfl (by decide) _ _ _ rfl (World.ownsRow.alloc hown _) ⟨wr.heap.size, 0, none⟩ 1 1 [.int .i64 (M - c - 9)] rfl rfl ?c1 ?c2 ?c3 ?c4 ?c5 ?_)
      case c1 =>
        intro j u hj
        match j, hj with
        | 0, hj => simp at hj; subst hj; simp [Addr.add]
      case c2 => intro u hu; simp at hu; subst hu; rfl
      case c3 => unfold maxLen; omega
      case c4 => omega
      case c5 => simp; omega
      intro v' w1 hown' hgrow _
      have R := OI.push hbl hbs hown (by rw [hlen]; exact hown') hgrow
      clear hown hown' hgrow
      go_wp2
      go_roundw
      case rel => exact ⟨k + 1, by omega, by have := HC.out; go_num, R.2, by rw [markL_succ, HC.out, HM.out]; exact R.1⟩
      case measure => simp [intOf]; omega
    · have hge : ¬ ((c : Int) < (f : Int) + (n : Int)) := by omega
      have e1 : k = n := by omega
      subst e1
      go_wp2
      go_ret
      exact ⟨_, rfl, ⟨hown, by rw [markL_len]; omega, markL_wf hi250 hf⟩, hbl⟩
end Go.Proofs.YtfmabjoindlfeaaGreat
end

/- append to a row of one's own, behind which the old slice still reads as it did. By an AI agent. -/
section
namespace Go.Proofs.YtfmabjoindlfeaaGreat
open Go.RowKit

theorem run_appK {w : World} {B : Nat} {T E : TypeId} {size bytes : Nat} (hT : EL T E size bytes) (ty : TypeId) (v : Value) (n : Nat) (xs : List Value) (hown : w.ownsRow B E size v n xs) (ad : Option Addr) (m c : Nat) (news : List Value) (hs : SG w size ad m news)
    (h63 : n + m ≤ maxLen) (hbytes : (n + m) * bytes ≤ 140737488355328) (hB : B ≤ w.heap.size) :
    ∃ v' w', (Builtin.append_ #[T, T] ty #[v, .slice ad m c]).run Tryz.prog w = .ok v' w' ∧ w'.ownsRow B E size v' (n + m) (xs ++ news) ∧ w.grownBy w' v.ownBlock ∧ w'.ownsRow B E size v n xs ∧ (∀ b, v'.ownBlock = some b → v.ownBlock = some b ∨ w.heap.size ≤ b) := by
  obtain ⟨i, z, hi, hz, h1, h2, h3⟩ := hT.info
  cases ad with
  | none =>
    have hm := hs.nil rfl
    subst hm
    have e : news = [] := List.eq_nil_of_length_eq_zero (by rw [hs.len, Nat.zero_mul])
    subst e
    rw [List.append_nil, Nat.add_zero]
    have hown' := hown
    obtain ⟨hl, ⟨rfl, hn⟩ | ⟨g, cap, cur, rfl, hBg, hg, hn, r⟩⟩ := hown
    · subst hn
      exact ⟨_, w, by simp [Builtin.append_, run_underlying hT.ty, sizeOf, typeInfo, hi, Builtin.lenOf, Builtin.firstCells], ⟨hl, .inl ⟨rfl, rfl⟩⟩, ⟨rfl, rfl, rfl, Nat.le_refl _, fun _ _ _ => rfl⟩, hown', fun b h => .inl h⟩
    · have := run_append_room_src (P := Tryz.prog) w T T ty E i hT.ty hi g 0 n cap (.slice none 0 c) 0 [] (Src.ofNil w hT.ty c) (by omega) (fun k hk => by simp at hk) (fun k hk => by simp at hk)
      exact ⟨_, w, by simpa [World.setCells] using this, ⟨hl, .inr ⟨g, cap, cur, rfl, hBg, hg, hn, r⟩⟩, ⟨rfl, rfl, rfl, Nat.le_refl _, fun _ _ _ => rfl⟩, hown', fun b h => .inl h⟩
  | some ad =>
    have hsz := hT.pos
    obtain ⟨v', w', e1, e2, e3, _⟩ := run_append_own (P := Tryz.prog) w B T ty E i z size bytes hT.ty hi hz h1 h2 h3 hT.pos v n xs hown ad m c news hs.len (hs.at_ ad rfl) hs.one h63 hbytes hB
    refine ⟨v', w', e1, e2, e3, ?_⟩
    have e1' := e1
    subst h1
    subst h2
    rcases hown.2 with ⟨rfl, rfl⟩ | ⟨g, cap, cur, rfl, hbg, hg, hnc, hcm, hcs, htake⟩
    · refine ⟨⟨hown.1, .inl ⟨rfl, rfl⟩⟩, fun b hb => .inr ?_⟩
      obtain ⟨v2, w2, d1, d2, _⟩ := run_append_own (P := Tryz.prog) w w.heap.size T ty E i z i.size i.bytes hT.ty hi hz rfl rfl h3 hT.pos (.slice none 0 0) 0 xs ⟨hown.1, .inl ⟨rfl, rfl⟩⟩ ad m c news hs.len (hs.at_ ad rfl) hs.one h63 hbytes (Nat.le_refl _)
      rw [d1] at e1'
      cases e1'
      exact (World.ownsRow.lt d2 b hb).1
    · by_cases hroom : n + m ≤ cap
      · have hfit : n * i.size + news.length ≤ cur.size := by rw [hs.len, hcs, ← Nat.add_mul]; exact Nat.mul_le_mul_right _ hroom
        have hr := run_append_room (P := Tryz.prog) w T ty E i hT.ty hi g n cap cur hg ad m c news hs.len (hs.at_ ad rfl) hs.one hroom hfit
        rw [hr] at e1
        cases e1
        have hx1 := hown.1
        refine ⟨⟨hown.1, .inr ⟨g, cap, _, rfl, hbg, setRow_heap w g cur _ E _ hg, hnc, hcm, ?_, ?_⟩⟩, fun b hb => .inl hb⟩
        · simp only [List.size_toArray, List.length_append, List.length_take, List.length_drop, Array.length_toList]
          omega
        · rw [htake, List.append_assoc, ← hx1]
          exact List.take_left
      · have holds : ∀ j u, xs[j]? = some u → w.cell? ((⟨g, 0, none⟩ : Addr).add j) = some u := hown.cells (g := g) rfl
        have hr := run_append_grow (P := Tryz.prog) w T ty E i z hT.ty hi hz ⟨g, 0, none⟩ n cap xs hown.1 holds ad m c news hs.len (hs.at_ ad rfl) (by omega) (by simp only [maxLen] at h63; omega) (growslice_fits (by omega) hbytes)
        rw [hr] at e1
        cases e1
        refine ⟨⟨hown.1, .inr ⟨g, cap, cur, rfl, hbg, ?_, hnc, hcm, hcs, htake⟩⟩, fun b hb => .inr (by simp [Value.ownBlock] at hb; omega)⟩
        rw [heap_alloc_old w.drew _ (lt_of_heap hg)]
        exact hg
section
variable {ops : Array Oper}
theorem wpList_appK {rest : List Oper} {o : Oper} {a : Act} {w : World} {Q : Exit → Act → World → Prop} (hgd : o.guard = none) (s x : Operand) (T : TypeId)
    (ho : o.op = .call { callee := .builtin .append, args := #[s, x], argTypes := #[T, T] }) {E : TypeId} {size bytes : Nat} (hT : EL T E size bytes) (B : Nat) (v : Value) (n : Nat) (xs : List Value) (hs : a.eval s = v) (hown : w.ownsRow B E size v n xs) (hB : B ≤ w.heap.size)
    (ad : Option Addr) (m c : Nat) (news : List Value) (hx : a.eval x = .slice ad m c) (hsc : SG w size ad m news) (h63 : n + m ≤ maxLen) (hbytes : (n + m) * bytes ≤ 140737488355328)
    (h : ∀ v' w', w'.ownsRow B E size v' (n + m) (xs ++ news) → w.grownBy w' v.ownBlock → w'.ownsRow B E size v n xs → (∀ b, v'.ownBlock = some b → v.ownBlock = some b ∨ w.heap.size ≤ b) → wpList Tryz.prog ops Q rest (a.put o.dst v') w') : wpList Tryz.prog ops Q (o :: rest) a w := by
  obtain ⟨v', w', hr, h2, h3, h4, h5⟩ := run_appK hT o.type v n xs hown ad m c news hsc h63 hbytes hB
  refine wpList_plain hgd fun _ hK => ?_
  unfold Oper.wp execOp
  simp only [ho, resolve, invoke, builtin, Sem.run_bind, Sem.run_pure, Result.andThen_ok, List.map_toArray, List.map_cons, List.map_nil, hs, hx, hr]
  exact hK _ _ (h v' w' h2 h3 h4 h5)
end
end Go.Proofs.YtfmabjoindlfeaaGreat
end
