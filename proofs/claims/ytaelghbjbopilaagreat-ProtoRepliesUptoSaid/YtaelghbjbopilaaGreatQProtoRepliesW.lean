import Derived.Test.YtaelghbjbopilaaGreatQProtoRepliesX

/- the walk of ProtoReplies for two answers as the arguments give them. By an AI agent. -/
section
namespace Go.Proofs.YtaelghbjbopilaaGreat
open Go.RowKit Go.Shelf

theorem bulk_arg {H : Type} {l : List (DataW H)} {d : DataW H} (hk : Rows.uptoSmall H l = true) (hm : d ∈ l) : Rows.uptoBulk d ≤ 1048576 := Nat.le_trans (bulk_part hm) (by simpa [Rows.uptoSmall] using hk)
set_option maxRecDepth 100000 in
theorem protoReplies_walk (r1 : ReplyL) (ad1 : Option Addr) (an1 ac1 : Nat) (pd1 : Option Addr) (pn1 pc1 : Nat) (r2 : ReplyL) (ad2 : Option Addr) (an2 ac2 : Nat) (pd2 : Option Addr) (pn2 pc2 : Nat) (w : World)
    (h1 : RepA w r1 ad1 an1 pd1 pn1) (h2 : RepA w r2 ad2 an2 pd2 pn2) :
    Calls Tryz.prog 3 #[repV r1.code r1.num ad1 an1 ac1 r1.val.there r1.val.x r1.val.n r1.val.s pd1 pn1 pc1 r1.text, repV r2.code r2.num ad2 an2 ac2 r2.val.there r2.val.x r2.val.n r2.val.s pd2 pn2 pc2 r2.text] w
      fun e w' => e = .returned (.bool true) ∧ Bl w w' := by
  obtain ⟨c1, n1, xs1, ⟨t1, x1, m1, s1⟩, ps1, z1⟩ := r1
  obtain ⟨c2, n2, xs2, ⟨t2, x2, m2, s2⟩, ps2, z2⟩ := r2
  exact protoReplies_gen c1 n1 ad1 an1 ac1 xs1 t1 x1 m1 s1 pd1 pn1 pc1 ps1 z1 c2 n2 ad2 an2 ac2 xs2 t2 x2 m2 s2 pd2 pn2 pc2 ps2 z2 w h1 h2
end Go.Proofs.YtaelghbjbopilaaGreat
end
