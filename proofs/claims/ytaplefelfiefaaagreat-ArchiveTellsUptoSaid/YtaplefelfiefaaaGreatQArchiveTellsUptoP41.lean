import Derived.Test.YtaplefelfiefaaaGreatQArchiveTellsUptoP39
import Derived.Lib.SmallJoins
import Derived.Test.YtaplefelfiefaaaGreatQArchiveTellsX
import Derived.Test.YtaplefelfiefaaaGreatQArchiveTellsUptoP1

/- Arguments of the types api.Act and api.Value opened. By an AI agent. -/
section
namespace Go.Proofs.YtaplefelfiefaaaGreat
open Go.ChangeShapes Go.WideShapes Go.ChangeAt Go.RowKit Go.Joins

section
variable {H : Type} {enc : TypeId × Value → H}
theorem rd_of_cell {W : World} {t : TypeId} {c : Value} {y : DataW H × List MemPlace} {n : Nat} (h : DataW.trod enc Tryz.prog W 0 (fun _ => true) true n t [c] = some y) : Rd (enc := enc) W t [c] y.1 := ⟨n, y.2, h⟩

set_option maxRecDepth 100000 in
theorem open_val {W : World} {base : Nat} {v : Value} {d : DataW H} {p : List MemPlace} (hval : Value.okWide Tryz.prog W .any base 29 v) (h : DataW.Trod enc Tryz.prog W 0 (fun _ => true) true 29 v d p)
    (hw : Wt 29 d) : ∃ a : ValL, v = .agg #[.bool a.there, .float .f64 a.x, .int .i64 a.n, .string a.s] ∧ a.Ok := by
  obtain ⟨c0, c1, c2, c3, y0, y1, y2, y3, n, rfl, rfl, rfl, h0, h1, h2, h3⟩ := open_agg4 Tryz.underlying29 (by kernel_rfl) cells_val hval h
  have w3 : Wt 9 y3.1 := wt_part Tryz.underlying29 hw (j := 3) rfl rfl
  obtain ⟨k, e0⟩ := rd_bool Tryz.underlying4 (rd_of_cell h0)
  obtain ⟨x, e1, b1⟩ := rd_float Tryz.underlying27 (rd_of_cell h1)
  obtain ⟨m, e2, b2⟩ := rd_int Tryz.underlying3 (rd_of_cell h2)
  obtain ⟨s, e3, b3⟩ := rd_string Tryz.underlying9 (rd_of_cell h3) w3
  simp only [List.cons.injEq, and_true] at e0 e1 e2 e3
  subst e0; subst e1; subst e2; subst e3
  exact ⟨⟨k, x, m, s⟩, rfl, b1, b2, b3⟩
end
end Go.Proofs.YtaplefelfiefaaaGreat
end

/- the walk of ArchiveTells for what the arguments give. By an AI agent. -/
section
namespace Go.Proofs.YtaplefelfiefaaaGreat
open Go.RowKit Go.Shelf

set_option maxRecDepth 100000 in
theorem archiveTells_walk (A : ArcL) (ad : Option Addr) (an ac : Nat) (pd : Option Addr) (pn pc : Nat) (b key : ByteArray) (v : ValL) (w : World)
    (hx : IA w ad an A.at_) (hp : PW w pd pn A.pairs) (hb : b.size ≤ 1048576) (hk : key.size ≤ 1048576) (hv : v.Ok) :
    Calls Tryz.prog 3 #[arcV A.n A.parts ad an ac pd pn pc, .string b, .string key, .agg #[.bool v.there, .float .f64 v.x, .int .i64 v.n, .string v.s]] w
      fun e w' => e = .returned (.bool true) ∧ Bl w w' := by
  obtain ⟨n1, p1, xs1, ps1⟩ := A
  obtain ⟨vb, vx, vn, vs⟩ := v
  have h := archiveTells_gen n1 p1 ad an ac xs1 pd pn pc ps1 b.data.toList key vb vx vn vs w hx hp (by omega) hv (by have e : b.data.toList.length = b.size := rfl; omega)
  rw [strL_data b] at h
  exact h
end Go.Proofs.YtaplefelfiefaaaGreat
end

/- what the bound on bulk says of a string among the arguments. By an AI agent. -/
section
namespace Go.Proofs.YtaplefelfiefaaaGreat

theorem bulk_part {H : Type} {d : DataW H} {l : List (DataW H)} (h : d ∈ l) : Rows.uptoBulk d ≤ Rows.uptoBulkAll l := by
  induction l with
  | nil => cases h
  | cons x r ih =>
    simp only [Rows.uptoBulkAll]
    rcases List.mem_cons.1 h with rfl | e
    · omega
    · have := ih e; omega
theorem bulk_str {H : Type} {l : List (DataW H)} {s : ByteArray} (hk : Rows.uptoSmall H l = true) (hm : DataW.lit (.string s.data.toList) ∈ l) : s.size ≤ 1048576 := by
  have h1 := bulk_part hm
  have h2 : Rows.uptoBulkAll l ≤ 1048576 := by simpa [Rows.uptoSmall] using hk
  have h3 : Rows.uptoBulk (DataW.lit (H := H) (.string s.data.toList)) = s.data.toList.length + 1 := by simp [Rows.uptoBulk]
  have h4 : s.data.toList.length = s.size := by rw [Array.length_toList]; rfl
  omega
end Go.Proofs.YtaplefelfiefaaaGreat
end
