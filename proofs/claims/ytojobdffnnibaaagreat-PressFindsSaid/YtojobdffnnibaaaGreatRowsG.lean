/- A goal that came in. -/
import Derived.Test.YtojobdffnnibaaaGreatRows7
import Derived.Test.YtojobdffnnibaaaGreatJ6
namespace Go.Proofs.YtojobdffnnibaaaGreat
open Go.RowKit Go.ChangeShapes
set_option linter.unusedVariables false
set_option maxRecDepth 100000 in
theorem goal_in {H : Type} {enc : TypeId × Value → H} {w : World} {base : Nat} {held : Bool} {r : Reach} {b0 : Nat} {v : Value} {d : DataW H} {p : List MemPlace} (hv : Value.okWide Tryz.prog w r b0 29 v) (h : DataW.Trod enc Tryz.prog w base (fun _ => true) held 29 v d p) :
    ∃ (g : GoalD) (a : Option Addr) (c : Nat), v = .agg #[.int .i64 g.drive, .slice a g.pressed.length c] ∧ Truths w (.slice a g.pressed.length c) g.pressed := by
  obtain ⟨c0, c1, y0, y1, m0, rfl, hd, _, q0, q1⟩ := Go.Joins.open_agg2 Tryz.underlying29 (by kernel_rfl) (by kernel_rfl) hv h
  obtain ⟨n0, e0, _, w0⟩ := DataW.trod_int Tryz.underlying3 q0
  simp at e0
  subst e0
  obtain ⟨a, l, c, e1⟩ := Go.Joins.slice_form Tryz.underlying22 q1
  simp at e1
  subst e1
  obtain ⟨bs, rfl, hb⟩ := truths_in q1
  exact ⟨⟨n0, bs⟩, a, c, rfl, hb⟩
end Go.Proofs.YtojobdffnnibaaaGreat
