/-
  No cell of these rows narrows 'for every input' (looked for: loops, veiled, ifaces, maps, wideKeys, modest, calm, conditions, laid).
  DERIVED. THE GIVEN ROWS OF THIS SEAT. 6 by the template 'for every input the law returns true; each argument reads behind the call as it read before'; 0 by the template 'total and deterministic' (their statements: YtojobdffnnibaaaTotals.lean).
  GIVEN WITH THE SEED: the statements are not yours to turn. If you find one false, say at which input.
  Laid BY PROGRAM, IN A SANDBOX (cutbox-rows.mjs): the forced cells as the released guide's own fill.sh prints them over the translation 69dcb13a5fc2075e… (all of the seat's roots in one cut). By AI agents, Wed Nov 11 2026. No macro, syntax, notation, axiom, sorry.
-/
import Derived.Test.YtojobdffnnibaaaChecked
import GoSem.Claim
import GoSem.ClaimJoined
import GoSem.ClaimMapViews
import Derived.JoinedTies
import Derived.KernelRfl
namespace Go.Proofs.Ytojobdffnnibaaa
/- THE CELL 'sum', in the pinned program and in every row, IS THE sha256 OF THE DUMP (.gsa) THAT YtojobdffnnibaaaProg.lean LOADS. Nothing in Lean hashes anything: it is a label: what it is worth is what the hold of that sum in a sandbox is worth. -/
noncomputable def Try.pinned : Pinned := { name := "ytojobdffnnibaaa", sum := "69dcb13a5fc2075ea23b4bac2fd6e987933f162841fffdc0ab10b1c143cf2a2b", checked := Try.checked }
namespace Rows
def none {H : Type} : Left H := { results := [], args := [] }

/-- 'foldhouselaw07.PressPrints': WHATEVER THE INPUT: true; the input reads as it did. -/
def pressPrintsSpec : ChangeSpec := { name := "pressPrints", fn := fun _ => fun
  | [d1, d2, d3] => { results := [.lit (.bool true)], args := [d1, d2, d3] }
  | _ => none }
def pressPrintsRow : OpenClaim := { program := "ytojobdffnnibaaa", sum := "69dcb13a5fc2075ea23b4bac2fd6e987933f162841fffdc0ab10b1c143cf2a2b", func := "foldhouse/foldhouselaw07.PressPrints", spec := "pressPrints", unfollowed := true, recurses := true, plainKeys := false, apart := false }
def PressPrintsSaid : Prop := pressPrintsRow.holds Try.pinned (OpenSpec.ofChange pressPrintsSpec)

/-- ITS FALSE NEIGHBOUR: 'it returns false'. Refute it at one input. -/
def pressPrintsWrong : ChangeSpec := { name := "pressPrints", fn := fun _ => fun
  | [d1, d2, d3] => { results := [.lit (.bool false)], args := [d1, d2, d3] }
  | _ => none }
def PressPrintsWrongFalsely : Prop := pressPrintsRow.holds Try.pinned (OpenSpec.ofChange pressPrintsWrong)

/-- 'foldhouselaw07.PressCounts': WHATEVER THE INPUT: true; the input reads as it did. -/
def pressCountsSpec : ChangeSpec := { name := "pressCounts", fn := fun _ => fun
  | [d1, d2, d3, d4] => { results := [.lit (.bool true)], args := [d1, d2, d3, d4] }
  | _ => none }
def pressCountsRow : OpenClaim := { program := "ytojobdffnnibaaa", sum := "69dcb13a5fc2075ea23b4bac2fd6e987933f162841fffdc0ab10b1c143cf2a2b", func := "foldhouse/foldhouselaw07.PressCounts", spec := "pressCounts", unfollowed := true, recurses := true, plainKeys := false, apart := false }
def PressCountsSaid : Prop := pressCountsRow.holds Try.pinned (OpenSpec.ofChange pressCountsSpec)

/-- ITS FALSE NEIGHBOUR: 'it returns false'. Refute it at one input. -/
def pressCountsWrong : ChangeSpec := { name := "pressCounts", fn := fun _ => fun
  | [d1, d2, d3, d4] => { results := [.lit (.bool false)], args := [d1, d2, d3, d4] }
  | _ => none }
def PressCountsWrongFalsely : Prop := pressCountsRow.holds Try.pinned (OpenSpec.ofChange pressCountsWrong)

/-- 'foldhouselaw07.PressGuards': WHATEVER THE INPUT: true; the input reads as it did. -/
def pressGuardsSpec : ChangeSpec := { name := "pressGuards", fn := fun _ => fun
  | [d1, d2] => { results := [.lit (.bool true)], args := [d1, d2] }
  | _ => none }
def pressGuardsRow : OpenClaim := { program := "ytojobdffnnibaaa", sum := "69dcb13a5fc2075ea23b4bac2fd6e987933f162841fffdc0ab10b1c143cf2a2b", func := "foldhouse/foldhouselaw07.PressGuards", spec := "pressGuards", unfollowed := true, recurses := true, plainKeys := false, apart := false }
def PressGuardsSaid : Prop := pressGuardsRow.holds Try.pinned (OpenSpec.ofChange pressGuardsSpec)

/-- ITS FALSE NEIGHBOUR: 'it returns false'. Refute it at one input. -/
def pressGuardsWrong : ChangeSpec := { name := "pressGuards", fn := fun _ => fun
  | [d1, d2] => { results := [.lit (.bool false)], args := [d1, d2] }
  | _ => none }
def PressGuardsWrongFalsely : Prop := pressGuardsRow.holds Try.pinned (OpenSpec.ofChange pressGuardsWrong)

/-- 'foldhouselaw07.PressRepairs': WHATEVER THE INPUT: true; the input reads as it did. -/
def pressRepairsSpec : ChangeSpec := { name := "pressRepairs", fn := fun _ => fun
  | [d1, d2, d3] => { results := [.lit (.bool true)], args := [d1, d2, d3] }
  | _ => none }
def pressRepairsRow : OpenClaim := { program := "ytojobdffnnibaaa", sum := "69dcb13a5fc2075ea23b4bac2fd6e987933f162841fffdc0ab10b1c143cf2a2b", func := "foldhouse/foldhouselaw07.PressRepairs", spec := "pressRepairs", unfollowed := true, recurses := true, plainKeys := false, apart := false }
def PressRepairsSaid : Prop := pressRepairsRow.holds Try.pinned (OpenSpec.ofChange pressRepairsSpec)

/-- ITS FALSE NEIGHBOUR: 'it returns false'. Refute it at one input. -/
def pressRepairsWrong : ChangeSpec := { name := "pressRepairs", fn := fun _ => fun
  | [d1, d2, d3] => { results := [.lit (.bool false)], args := [d1, d2, d3] }
  | _ => none }
def PressRepairsWrongFalsely : Prop := pressRepairsRow.holds Try.pinned (OpenSpec.ofChange pressRepairsWrong)

/-- 'foldhouselaw07.PressActs': WHATEVER THE INPUT: true; the input reads as it did. -/
def pressActsSpec : ChangeSpec := { name := "pressActs", fn := fun _ => fun
  | [d1, d2, d3, d4] => { results := [.lit (.bool true)], args := [d1, d2, d3, d4] }
  | _ => none }
def pressActsRow : OpenClaim := { program := "ytojobdffnnibaaa", sum := "69dcb13a5fc2075ea23b4bac2fd6e987933f162841fffdc0ab10b1c143cf2a2b", func := "foldhouse/foldhouselaw07.PressActs", spec := "pressActs", unfollowed := true, recurses := true, plainKeys := false, apart := false }
def PressActsSaid : Prop := pressActsRow.holds Try.pinned (OpenSpec.ofChange pressActsSpec)

/-- ITS FALSE NEIGHBOUR: 'it returns false'. Refute it at one input. -/
def pressActsWrong : ChangeSpec := { name := "pressActs", fn := fun _ => fun
  | [d1, d2, d3, d4] => { results := [.lit (.bool false)], args := [d1, d2, d3, d4] }
  | _ => none }
def PressActsWrongFalsely : Prop := pressActsRow.holds Try.pinned (OpenSpec.ofChange pressActsWrong)

/-- 'foldhouselaw07.PressProves': WHATEVER THE INPUT: true; the input reads as it did. -/
def pressProvesSpec : ChangeSpec := { name := "pressProves", fn := fun _ => fun
  | [d1, d2, d3] => { results := [.lit (.bool true)], args := [d1, d2, d3] }
  | _ => none }
def pressProvesRow : OpenClaim := { program := "ytojobdffnnibaaa", sum := "69dcb13a5fc2075ea23b4bac2fd6e987933f162841fffdc0ab10b1c143cf2a2b", func := "foldhouse/foldhouselaw07.PressProves", spec := "pressProves", unfollowed := true, recurses := true, plainKeys := false, apart := false }
def PressProvesSaid : Prop := pressProvesRow.holds Try.pinned (OpenSpec.ofChange pressProvesSpec)

/-- ITS FALSE NEIGHBOUR: 'it returns false'. Refute it at one input. -/
def pressProvesWrong : ChangeSpec := { name := "pressProves", fn := fun _ => fun
  | [d1, d2, d3] => { results := [.lit (.bool false)], args := [d1, d2, d3] }
  | _ => none }
def PressProvesWrongFalsely : Prop := pressProvesRow.holds Try.pinned (OpenSpec.ofChange pressProvesWrong)

/- THE SECOND FORM. 'bulk': how many values and letters a reading holds, each counted each time it is reached (what is shared counts as often as it is met; a slice's spare places count too). A statement '..UptoSaid' is the law's where the arguments, and the package variables that the reading takes, are together of bulk at most 1048576: NARROWER than '..Said'. Prove '..Said' where nothing that the law and all that it calls make is longer than what came in: it says more and counts as full. Else prove '..UptoSaid'. A law counts once. -/
mutual
def uptoBulk {H : Type} : DataW H → Nat
  | .lit (.string bytes) => bytes.length + 1
  | .lit _ => 1
  | .nil => 1
  | .ptr d => uptoBulk d + 1
  | .slice elems spare => uptoBulkAll elems + uptoBulkAll spare + 1
  | .agg parts => uptoBulkAll parts + 1
  | .iface _ d => uptoBulk d + 1
  | .map entries => uptoBulkEntries entries + 1
  | .held _ => 1
def uptoBulkAll {H : Type} : List (DataW H) → Nat
  | [] => 0
  | d :: r => uptoBulk d + uptoBulkAll r
def uptoBulkEntries {H : Type} : List (Lit × DataW H) → Nat
  | [] => 0
  | x :: r => uptoBulkEntry x + uptoBulkEntries r
def uptoBulkEntry {H : Type} : Lit × DataW H → Nat
  | (.string bytes, d) => bytes.length + uptoBulk d + 1
  | (_, d) => uptoBulk d + 1
 end
def uptoSmall : (H : Type) → List (DataW H) → Bool := fun _ ds => decide (uptoBulkAll ds ≤ 1048576)
def OpenSpec.upto (s : _root_.Go.ChangeSpec) : _root_.Go.OpenSpec := { _root_.Go.OpenSpec.ofChange s with cond := some uptoSmall }

/-- 'foldhouselaw07.PressPrints', WHERE WHAT IT READS IS OF BULK AT MOST 1048576: true; the input reads as it did. -/
def pressPrintsUptoRow : OpenClaim := { program := "ytojobdffnnibaaa", sum := "69dcb13a5fc2075ea23b4bac2fd6e987933f162841fffdc0ab10b1c143cf2a2b", func := "foldhouse/foldhouselaw07.PressPrints", spec := "pressPrints", unfollowed := true, recurses := true, plainKeys := false, apart := false, narrowed := true }
def PressPrintsUptoSaid : Prop := pressPrintsUptoRow.holds Try.pinned (OpenSpec.upto pressPrintsSpec)

/-- 'foldhouselaw07.PressCounts', WHERE WHAT IT READS IS OF BULK AT MOST 1048576: true; the input reads as it did. -/
def pressCountsUptoRow : OpenClaim := { program := "ytojobdffnnibaaa", sum := "69dcb13a5fc2075ea23b4bac2fd6e987933f162841fffdc0ab10b1c143cf2a2b", func := "foldhouse/foldhouselaw07.PressCounts", spec := "pressCounts", unfollowed := true, recurses := true, plainKeys := false, apart := false, narrowed := true }
def PressCountsUptoSaid : Prop := pressCountsUptoRow.holds Try.pinned (OpenSpec.upto pressCountsSpec)

/-- 'foldhouselaw07.PressGuards', WHERE WHAT IT READS IS OF BULK AT MOST 1048576: true; the input reads as it did. -/
def pressGuardsUptoRow : OpenClaim := { program := "ytojobdffnnibaaa", sum := "69dcb13a5fc2075ea23b4bac2fd6e987933f162841fffdc0ab10b1c143cf2a2b", func := "foldhouse/foldhouselaw07.PressGuards", spec := "pressGuards", unfollowed := true, recurses := true, plainKeys := false, apart := false, narrowed := true }
def PressGuardsUptoSaid : Prop := pressGuardsUptoRow.holds Try.pinned (OpenSpec.upto pressGuardsSpec)

/-- 'foldhouselaw07.PressRepairs', WHERE WHAT IT READS IS OF BULK AT MOST 1048576: true; the input reads as it did. -/
def pressRepairsUptoRow : OpenClaim := { program := "ytojobdffnnibaaa", sum := "69dcb13a5fc2075ea23b4bac2fd6e987933f162841fffdc0ab10b1c143cf2a2b", func := "foldhouse/foldhouselaw07.PressRepairs", spec := "pressRepairs", unfollowed := true, recurses := true, plainKeys := false, apart := false, narrowed := true }
def PressRepairsUptoSaid : Prop := pressRepairsUptoRow.holds Try.pinned (OpenSpec.upto pressRepairsSpec)

/-- 'foldhouselaw07.PressActs', WHERE WHAT IT READS IS OF BULK AT MOST 1048576: true; the input reads as it did. -/
def pressActsUptoRow : OpenClaim := { program := "ytojobdffnnibaaa", sum := "69dcb13a5fc2075ea23b4bac2fd6e987933f162841fffdc0ab10b1c143cf2a2b", func := "foldhouse/foldhouselaw07.PressActs", spec := "pressActs", unfollowed := true, recurses := true, plainKeys := false, apart := false, narrowed := true }
def PressActsUptoSaid : Prop := pressActsUptoRow.holds Try.pinned (OpenSpec.upto pressActsSpec)

/-- 'foldhouselaw07.PressProves', WHERE WHAT IT READS IS OF BULK AT MOST 1048576: true; the input reads as it did. -/
def pressProvesUptoRow : OpenClaim := { program := "ytojobdffnnibaaa", sum := "69dcb13a5fc2075ea23b4bac2fd6e987933f162841fffdc0ab10b1c143cf2a2b", func := "foldhouse/foldhouselaw07.PressProves", spec := "pressProves", unfollowed := true, recurses := true, plainKeys := false, apart := false, narrowed := true }
def PressProvesUptoSaid : Prop := pressProvesUptoRow.holds Try.pinned (OpenSpec.upto pressProvesSpec)

end Rows
end Go.Proofs.Ytojobdffnnibaaa
