/-
  No cell of these rows narrows 'for every input' (looked for: loops, veiled, ifaces, maps, wideKeys, modest, calm, conditions, laid).
  DERIVED. THE GIVEN ROWS OF THIS SEAT. 6 by the template 'for every input the law returns true; each argument reads behind the call as it read before'; 0 by the template 'total and deterministic' (their statements: YtafnadaahnkcmaaTotals.lean).
  GIVEN WITH THE SEED: the statements are not yours to turn. If you find one false, say at which input.
  Laid BY PROGRAM, IN A SANDBOX (cutbox-rows.mjs): the forced cells as the released guide's own fill.sh prints them over the translation abfbd42340ef60ac… (all of the seat's roots in one cut). By AI agents, Wed Nov 11 2026. No macro, syntax, notation, axiom, sorry.
-/
import Derived.Test.YtafnadaahnkcmaaChecked
import GoSem.Claim
import GoSem.ClaimJoined
import GoSem.ClaimMapViews
import Derived.JoinedTies
import Derived.KernelRfl
namespace Go.Proofs.Ytafnadaahnkcmaa
/- THE CELL 'sum', in the pinned program and in every row, IS THE sha256 OF THE DUMP (.gsa) THAT YtafnadaahnkcmaaProg.lean LOADS. Nothing in Lean hashes anything: it is a label: what it is worth is what the hold of that sum in a sandbox is worth. -/
noncomputable def Try.pinned : Pinned := { name := "ytafnadaahnkcmaa", sum := "abfbd42340ef60acb6c4cf98886c6fa69b3583e2e7fbadfbdb8e4bad73348e39", checked := Try.checked }
namespace Rows
def none {H : Type} : Left H := { results := [], args := [] }

/-- 'foldhouselaw05.RegisterMatches': WHATEVER THE INPUT: true; the input reads as it did. -/
def registerMatchesSpec : ChangeSpec := { name := "registerMatches", fn := fun _ => fun
  | [d1, d2, d3] => { results := [.lit (.bool true)], args := [d1, d2, d3] }
  | _ => none }
def registerMatchesRow : OpenClaim := { program := "ytafnadaahnkcmaa", sum := "abfbd42340ef60acb6c4cf98886c6fa69b3583e2e7fbadfbdb8e4bad73348e39", func := "foldhouse/foldhouselaw05.RegisterMatches", spec := "registerMatches", unfollowed := true, recurses := true, apart := false }
def RegisterMatchesSaid : Prop := registerMatchesRow.holds Try.pinned (OpenSpec.ofChange registerMatchesSpec)

/-- ITS FALSE NEIGHBOUR: 'it returns false'. Refute it at one input. -/
def registerMatchesWrong : ChangeSpec := { name := "registerMatches", fn := fun _ => fun
  | [d1, d2, d3] => { results := [.lit (.bool false)], args := [d1, d2, d3] }
  | _ => none }
def RegisterMatchesWrongFalsely : Prop := registerMatchesRow.holds Try.pinned (OpenSpec.ofChange registerMatchesWrong)

/-- 'foldhouselaw05.RegisterHolds': WHATEVER THE INPUT: true; the input reads as it did. -/
def registerHoldsSpec : ChangeSpec := { name := "registerHolds", fn := fun _ => fun
  | [d1, d2, d3, d4, d5, d6] => { results := [.lit (.bool true)], args := [d1, d2, d3, d4, d5, d6] }
  | _ => none }
def registerHoldsRow : OpenClaim := { program := "ytafnadaahnkcmaa", sum := "abfbd42340ef60acb6c4cf98886c6fa69b3583e2e7fbadfbdb8e4bad73348e39", func := "foldhouse/foldhouselaw05.RegisterHolds", spec := "registerHolds", unfollowed := true, recurses := true, apart := false }
def RegisterHoldsSaid : Prop := registerHoldsRow.holds Try.pinned (OpenSpec.ofChange registerHoldsSpec)

/-- ITS FALSE NEIGHBOUR: 'it returns false'. Refute it at one input. -/
def registerHoldsWrong : ChangeSpec := { name := "registerHolds", fn := fun _ => fun
  | [d1, d2, d3, d4, d5, d6] => { results := [.lit (.bool false)], args := [d1, d2, d3, d4, d5, d6] }
  | _ => none }
def RegisterHoldsWrongFalsely : Prop := registerHoldsRow.holds Try.pinned (OpenSpec.ofChange registerHoldsWrong)

/-- 'foldhouselaw05.RegisterFinds': WHATEVER THE INPUT: true; the input reads as it did. -/
def registerFindsSpec : ChangeSpec := { name := "registerFinds", fn := fun _ => fun
  | [d1, d2, d3, d4, d5, d6] => { results := [.lit (.bool true)], args := [d1, d2, d3, d4, d5, d6] }
  | _ => none }
def registerFindsRow : OpenClaim := { program := "ytafnadaahnkcmaa", sum := "abfbd42340ef60acb6c4cf98886c6fa69b3583e2e7fbadfbdb8e4bad73348e39", func := "foldhouse/foldhouselaw05.RegisterFinds", spec := "registerFinds", unfollowed := true, recurses := true, apart := false }
def RegisterFindsSaid : Prop := registerFindsRow.holds Try.pinned (OpenSpec.ofChange registerFindsSpec)

/-- ITS FALSE NEIGHBOUR: 'it returns false'. Refute it at one input. -/
def registerFindsWrong : ChangeSpec := { name := "registerFinds", fn := fun _ => fun
  | [d1, d2, d3, d4, d5, d6] => { results := [.lit (.bool false)], args := [d1, d2, d3, d4, d5, d6] }
  | _ => none }
def RegisterFindsWrongFalsely : Prop := registerFindsRow.holds Try.pinned (OpenSpec.ofChange registerFindsWrong)

/-- 'foldhouselaw05.RegisterKeeps': WHATEVER THE INPUT: true; the input reads as it did. -/
def registerKeepsSpec : ChangeSpec := { name := "registerKeeps", fn := fun _ => fun
  | [d1, d2, d3] => { results := [.lit (.bool true)], args := [d1, d2, d3] }
  | _ => none }
def registerKeepsRow : OpenClaim := { program := "ytafnadaahnkcmaa", sum := "abfbd42340ef60acb6c4cf98886c6fa69b3583e2e7fbadfbdb8e4bad73348e39", func := "foldhouse/foldhouselaw05.RegisterKeeps", spec := "registerKeeps", unfollowed := true, recurses := true, apart := false }
def RegisterKeepsSaid : Prop := registerKeepsRow.holds Try.pinned (OpenSpec.ofChange registerKeepsSpec)

/-- ITS FALSE NEIGHBOUR: 'it returns false'. Refute it at one input. -/
def registerKeepsWrong : ChangeSpec := { name := "registerKeeps", fn := fun _ => fun
  | [d1, d2, d3] => { results := [.lit (.bool false)], args := [d1, d2, d3] }
  | _ => none }
def RegisterKeepsWrongFalsely : Prop := registerKeepsRow.holds Try.pinned (OpenSpec.ofChange registerKeepsWrong)

/-- 'foldhouselaw05.RegisterReaches': WHATEVER THE INPUT: true; the input reads as it did. -/
def registerReachesSpec : ChangeSpec := { name := "registerReaches", fn := fun _ => fun
  | [d1, d2, d3, d4, d5, d6] => { results := [.lit (.bool true)], args := [d1, d2, d3, d4, d5, d6] }
  | _ => none }
def registerReachesRow : OpenClaim := { program := "ytafnadaahnkcmaa", sum := "abfbd42340ef60acb6c4cf98886c6fa69b3583e2e7fbadfbdb8e4bad73348e39", func := "foldhouse/foldhouselaw05.RegisterReaches", spec := "registerReaches", unfollowed := true, recurses := true, apart := false }
def RegisterReachesSaid : Prop := registerReachesRow.holds Try.pinned (OpenSpec.ofChange registerReachesSpec)

/-- ITS FALSE NEIGHBOUR: 'it returns false'. Refute it at one input. -/
def registerReachesWrong : ChangeSpec := { name := "registerReaches", fn := fun _ => fun
  | [d1, d2, d3, d4, d5, d6] => { results := [.lit (.bool false)], args := [d1, d2, d3, d4, d5, d6] }
  | _ => none }
def RegisterReachesWrongFalsely : Prop := registerReachesRow.holds Try.pinned (OpenSpec.ofChange registerReachesWrong)

/-- 'foldhouselaw05.RegisterDesks': WHATEVER THE INPUT: true; the input reads as it did. -/
def registerDesksSpec : ChangeSpec := { name := "registerDesks", fn := fun _ => fun
  | [d1, d2, d3, d4, d5] => { results := [.lit (.bool true)], args := [d1, d2, d3, d4, d5] }
  | _ => none }
def registerDesksRow : OpenClaim := { program := "ytafnadaahnkcmaa", sum := "abfbd42340ef60acb6c4cf98886c6fa69b3583e2e7fbadfbdb8e4bad73348e39", func := "foldhouse/foldhouselaw05.RegisterDesks", spec := "registerDesks", unfollowed := true, recurses := true, apart := false }
def RegisterDesksSaid : Prop := registerDesksRow.holds Try.pinned (OpenSpec.ofChange registerDesksSpec)

/-- ITS FALSE NEIGHBOUR: 'it returns false'. Refute it at one input. -/
def registerDesksWrong : ChangeSpec := { name := "registerDesks", fn := fun _ => fun
  | [d1, d2, d3, d4, d5] => { results := [.lit (.bool false)], args := [d1, d2, d3, d4, d5] }
  | _ => none }
def RegisterDesksWrongFalsely : Prop := registerDesksRow.holds Try.pinned (OpenSpec.ofChange registerDesksWrong)

/- THE SECOND FORM. 'bulk': how many values and letters a reading holds, each counted each time it is reached (what is shared counts as often as it is met; a slice's spare places count too). A statement '..UptoSaid' is the law's where the arguments, and the package variables that the reading takes, are together of bulk at most 1048576: NARROWER than '..Said'. Prove '..Said' where nothing that the law and all that it calls make is longer than what came in: it says more and counts as full. Else prove '..UptoSaid'. A law counts once. -/
mutual
def uptoBulk {H : Type} : DataW H → Nat
  | .lit (.string bytes) => bytes.length + 1
  | .lit _ => 1
  | .nil => 1
  | .ptr d => uptoBulk d + 1
  | .slice elems spare => uptoBulkAll elems + uptoBulkAll spare + 1
  | .agg parts => uptoBulkAll parts + 1
  | .iface _ d => uptoBulk d + 1
  | .map entries => uptoBulkEntries entries + 1
  | .held _ => 1
def uptoBulkAll {H : Type} : List (DataW H) → Nat
  | [] => 0
  | d :: r => uptoBulk d + uptoBulkAll r
def uptoBulkEntries {H : Type} : List (Lit × DataW H) → Nat
  | [] => 0
  | x :: r => uptoBulkEntry x + uptoBulkEntries r
def uptoBulkEntry {H : Type} : Lit × DataW H → Nat
  | (.string bytes, d) => bytes.length + uptoBulk d + 1
  | (_, d) => uptoBulk d + 1
 end
def uptoSmall : (H : Type) → List (DataW H) → Bool := fun _ ds => decide (uptoBulkAll ds ≤ 1048576)
def OpenSpec.upto (s : _root_.Go.ChangeSpec) : _root_.Go.OpenSpec := { _root_.Go.OpenSpec.ofChange s with cond := some uptoSmall }

/-- 'foldhouselaw05.RegisterMatches', WHERE WHAT IT READS IS OF BULK AT MOST 1048576: true; the input reads as it did. -/
def registerMatchesUptoRow : OpenClaim := { program := "ytafnadaahnkcmaa", sum := "abfbd42340ef60acb6c4cf98886c6fa69b3583e2e7fbadfbdb8e4bad73348e39", func := "foldhouse/foldhouselaw05.RegisterMatches", spec := "registerMatches", unfollowed := true, recurses := true, apart := false, narrowed := true }
def RegisterMatchesUptoSaid : Prop := registerMatchesUptoRow.holds Try.pinned (OpenSpec.upto registerMatchesSpec)

/-- 'foldhouselaw05.RegisterHolds', WHERE WHAT IT READS IS OF BULK AT MOST 1048576: true; the input reads as it did. -/
def registerHoldsUptoRow : OpenClaim := { program := "ytafnadaahnkcmaa", sum := "abfbd42340ef60acb6c4cf98886c6fa69b3583e2e7fbadfbdb8e4bad73348e39", func := "foldhouse/foldhouselaw05.RegisterHolds", spec := "registerHolds", unfollowed := true, recurses := true, apart := false, narrowed := true }
def RegisterHoldsUptoSaid : Prop := registerHoldsUptoRow.holds Try.pinned (OpenSpec.upto registerHoldsSpec)

/-- 'foldhouselaw05.RegisterFinds', WHERE WHAT IT READS IS OF BULK AT MOST 1048576: true; the input reads as it did. -/
def registerFindsUptoRow : OpenClaim := { program := "ytafnadaahnkcmaa", sum := "abfbd42340ef60acb6c4cf98886c6fa69b3583e2e7fbadfbdb8e4bad73348e39", func := "foldhouse/foldhouselaw05.RegisterFinds", spec := "registerFinds", unfollowed := true, recurses := true, apart := false, narrowed := true }
def RegisterFindsUptoSaid : Prop := registerFindsUptoRow.holds Try.pinned (OpenSpec.upto registerFindsSpec)

/-- 'foldhouselaw05.RegisterKeeps', WHERE WHAT IT READS IS OF BULK AT MOST 1048576: true; the input reads as it did. -/
def registerKeepsUptoRow : OpenClaim := { program := "ytafnadaahnkcmaa", sum := "abfbd42340ef60acb6c4cf98886c6fa69b3583e2e7fbadfbdb8e4bad73348e39", func := "foldhouse/foldhouselaw05.RegisterKeeps", spec := "registerKeeps", unfollowed := true, recurses := true, apart := false, narrowed := true }
def RegisterKeepsUptoSaid : Prop := registerKeepsUptoRow.holds Try.pinned (OpenSpec.upto registerKeepsSpec)

/-- 'foldhouselaw05.RegisterReaches', WHERE WHAT IT READS IS OF BULK AT MOST 1048576: true; the input reads as it did. -/
def registerReachesUptoRow : OpenClaim := { program := "ytafnadaahnkcmaa", sum := "abfbd42340ef60acb6c4cf98886c6fa69b3583e2e7fbadfbdb8e4bad73348e39", func := "foldhouse/foldhouselaw05.RegisterReaches", spec := "registerReaches", unfollowed := true, recurses := true, apart := false, narrowed := true }
def RegisterReachesUptoSaid : Prop := registerReachesUptoRow.holds Try.pinned (OpenSpec.upto registerReachesSpec)

/-- 'foldhouselaw05.RegisterDesks', WHERE WHAT IT READS IS OF BULK AT MOST 1048576: true; the input reads as it did. -/
def registerDesksUptoRow : OpenClaim := { program := "ytafnadaahnkcmaa", sum := "abfbd42340ef60acb6c4cf98886c6fa69b3583e2e7fbadfbdb8e4bad73348e39", func := "foldhouse/foldhouselaw05.RegisterDesks", spec := "registerDesks", unfollowed := true, recurses := true, apart := false, narrowed := true }
def RegisterDesksUptoSaid : Prop := registerDesksUptoRow.holds Try.pinned (OpenSpec.upto registerDesksSpec)

end Rows
end Go.Proofs.Ytafnadaahnkcmaa
