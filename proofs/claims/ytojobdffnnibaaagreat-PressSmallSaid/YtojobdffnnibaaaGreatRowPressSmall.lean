/-
  PressSmall: for every input the law returns true, and each argument reads behind the call as it read before. No condition.
-/
import Derived.Test.YtojobdffnnibaaaGreatActs
import Derived.Test.YtojobdffnnibaaaGreatPrints
import Derived.Test.YtojobdffnnibaaaGreatPFinds
import Derived.Test.YtojobdffnnibaaaGreatPSmall
import Derived.Test.YtojobdffnnibaaaGreatJ1
import Derived.Test.YtojobdffnnibaaaGreatJ3
import Derived.Test.YtojobdffnnibaaaGreatBase
import Derived.Lib.SmallJoins
import Derived.Deep.Grids
import Derived.SizedLaws
import Derived.Test.YtojobdffnnibaaaGreatRows
import Derived.WalkKit
import Derived.ProofKit
import Derived.OpenShut
import Derived.ShutString
import Derived.ChangeOld
import Derived.Below
namespace Go.Proofs.YtojobdffnnibaaaGreat.pressSmall
open Go.ChangeShapes Go.WideShapes Go.ChangeAt Go.RowKit
set_option linter.unusedVariables false
theorem own : ownKnob Tryz.prog.godebug = none := by kernel_rfl
set_option maxRecDepth 100000 in
theorem lifted (os : Os) (started : os.Started) (H : Type) (enc : TypeId × Value → H) :
 ReturnsInHanded {} Tryz.checked os 4 .any (Rows.pressSmallSpec.pre6 enc Tryz.prog Tryz.f4 Rows.pressSmallRow.domain false) (Rows.pressSmallSpec.post enc Tryz.prog Tryz.f4 false true false false) := by
 refine returnsInHanded_of_change (C := Tryz.checked) own started (by kernel_rfl) Tryz.func4
  (ChangeSpec.witness6 (enc := enc) (C := Tryz.checked) false ⟨#[], #[], []⟩ 8 (by kernel_rfl) (by kernel_rfl) (by kernel_rfl) (by kernel_rfl)) ?_
 intro W base args ds gs before hval0 hW hcnd _; have hval : ∀ (j : Nat) t v, Tryz.f4.params[j]? = some t → args[j]? = some v → Value.okWide Tryz.prog W .any base t v := hval0; have hW' := hW; obtain ⟨p, q, hA0, hV, rfl, hfz, hnd⟩ := hW; have hA : DataW.TrodAll enc Tryz.prog W 0 (fun _ => true) true Tryz.f4.params.toList args.toList ds p := hA0; rw [Tryz.params4] at hA hval; obtain ⟨hargs, rfl, rfl⟩ := trodAll_nil hA; obtain rfl : args = #[] := (by cases args; simp_all); obtain ⟨rfl, rfl⟩ := trodVars_none hV; clear hA0 hval0; have walk := small_walk (fun p s l x vj vu vl w h1 h2 h3 h4 h5 => acts_true p s l x vj vu vl w h1 h2 h3 h4 h5) (fun p s n vj vu w h1 h2 h3 => prints_true p s n vj vu w h1 h2 h3) (fun p s g l cs vj vu vg vl vc w h1 h2 h3 h4 h5 h6 h7 => finds_true p s g l cs vj vu vg vl vc w h1 h2 h3 h4 h5 h6 h7) W; refine walk.mono fun e W' ⟨he, bel⟩ => ?_; subst he; exact ⟨_, rfl, _, _, _, [], _, [], hW', trodAll_mk1 (shut_bool Tryz.underlying4 _), trodAll_mk0, rfl, bel.frame _, fun h => by cases h⟩
theorem over : Rows.pressSmallRow.holds Tryz.pinned (OpenSpec.ofChange Rows.pressSmallSpec) :=
 OpenClaim.holds_of_wide 4 Tryz.f4 rfl rfl rfl rfl rfl rfl rfl ⟨rfl, rfl, rfl, rfl, rfl⟩ rfl rfl rfl rfl rfl (by kernel_rfl) Tryz.func4 (by kernel_rfl)
  (of_decide_eq_true (by kernel_rfl)) (by unfold Func.isWrapper; first | (rw [if_pos (by decide +kernel)]; kernel_rfl) | (rw [if_neg (by decide +kernel)]; exact ⟨rfl, rfl⟩))
  (fun os started H enc _ => lifted os started H enc)
theorem proved : Rows.PressSmallSaid := over
#print axioms proved
end Go.Proofs.YtojobdffnnibaaaGreat.pressSmall