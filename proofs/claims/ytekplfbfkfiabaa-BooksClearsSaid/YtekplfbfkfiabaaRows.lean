/-
  No cell of these rows narrows 'for every input' (looked for: loops, veiled, ifaces, maps, wideKeys, modest, calm, conditions, laid).
  DERIVED. THE GIVEN ROWS OF THIS SEAT. 11 by the template 'for every input the law returns true; each argument reads behind the call as it read before'; 0 by the template 'total and deterministic' (their statements: YtekplfbfkfiabaaTotals.lean).
  GIVEN WITH THE SEED: the statements are not yours to turn. If you find one false, say at which input.
  Laid BY PROGRAM, IN A SANDBOX (cutbox-rows.mjs): the forced cells as the released guide's own fill.sh prints them over the translation 736bd774b13cd0b3… (all of the seat's roots in one cut). By AI agents, Wed Nov 11 2026. No macro, syntax, notation, axiom, sorry.
-/
import Derived.Test.YtekplfbfkfiabaaChecked
import GoSem.Claim
import GoSem.ClaimJoined
import GoSem.ClaimMapViews
import Derived.JoinedTies
import Derived.KernelRfl
namespace Go.Proofs.Ytekplfbfkfiabaa
/- THE CELL 'sum', in the pinned program and in every row, IS THE sha256 OF THE DUMP (.gsa) THAT YtekplfbfkfiabaaProg.lean LOADS. Nothing in Lean hashes anything: it is a label: what it is worth is what the hold of that sum in a sandbox is worth. -/
noncomputable def Try.pinned : Pinned := { name := "ytekplfbfkfiabaa", sum := "736bd774b13cd0b3e1567eab5840e71ee1f00e9620d5b9ec0d9dd3fcc57b7a5f", checked := Try.checked }
namespace Rows
def none {H : Type} : Left H := { results := [], args := [] }

/-- 'foldhouselaw13.BooksShares': WHATEVER THE INPUT: true; the input reads as it did. -/
def booksSharesSpec : ChangeSpec := { name := "booksShares", fn := fun _ => fun
  | [d1, d2, d3] => { results := [.lit (.bool true)], args := [d1, d2, d3] }
  | _ => none }
def booksSharesRow : OpenClaim := { program := "ytekplfbfkfiabaa", sum := "736bd774b13cd0b3e1567eab5840e71ee1f00e9620d5b9ec0d9dd3fcc57b7a5f", func := "foldhouse/foldhouselaw13.BooksShares", spec := "booksShares", unfollowed := true, recurses := true, plainKeys := false, apart := false }
def BooksSharesSaid : Prop := booksSharesRow.holds Try.pinned (OpenSpec.ofChange booksSharesSpec)

/-- ITS FALSE NEIGHBOUR: 'it returns false'. Refute it at one input. -/
def booksSharesWrong : ChangeSpec := { name := "booksShares", fn := fun _ => fun
  | [d1, d2, d3] => { results := [.lit (.bool false)], args := [d1, d2, d3] }
  | _ => none }
def BooksSharesWrongFalsely : Prop := booksSharesRow.holds Try.pinned (OpenSpec.ofChange booksSharesWrong)

/-- 'foldhouselaw13.BooksFair': WHATEVER THE INPUT: true; the input reads as it did. -/
def booksFairSpec : ChangeSpec := { name := "booksFair", fn := fun _ => fun
  | [d1, d2] => { results := [.lit (.bool true)], args := [d1, d2] }
  | _ => none }
def booksFairRow : OpenClaim := { program := "ytekplfbfkfiabaa", sum := "736bd774b13cd0b3e1567eab5840e71ee1f00e9620d5b9ec0d9dd3fcc57b7a5f", func := "foldhouse/foldhouselaw13.BooksFair", spec := "booksFair", unfollowed := true, recurses := true, plainKeys := false, apart := false }
def BooksFairSaid : Prop := booksFairRow.holds Try.pinned (OpenSpec.ofChange booksFairSpec)

/-- ITS FALSE NEIGHBOUR: 'it returns false'. Refute it at one input. -/
def booksFairWrong : ChangeSpec := { name := "booksFair", fn := fun _ => fun
  | [d1, d2] => { results := [.lit (.bool false)], args := [d1, d2] }
  | _ => none }
def BooksFairWrongFalsely : Prop := booksFairRow.holds Try.pinned (OpenSpec.ofChange booksFairWrong)

/-- 'foldhouselaw13.BooksClears': WHATEVER THE INPUT: true; the input reads as it did. -/
def booksClearsSpec : ChangeSpec := { name := "booksClears", fn := fun _ => fun
  | [d1, d2] => { results := [.lit (.bool true)], args := [d1, d2] }
  | _ => none }
def booksClearsRow : OpenClaim := { program := "ytekplfbfkfiabaa", sum := "736bd774b13cd0b3e1567eab5840e71ee1f00e9620d5b9ec0d9dd3fcc57b7a5f", func := "foldhouse/foldhouselaw13.BooksClears", spec := "booksClears", unfollowed := true, recurses := true, plainKeys := false, apart := false }
def BooksClearsSaid : Prop := booksClearsRow.holds Try.pinned (OpenSpec.ofChange booksClearsSpec)

/-- ITS FALSE NEIGHBOUR: 'it returns false'. Refute it at one input. -/
def booksClearsWrong : ChangeSpec := { name := "booksClears", fn := fun _ => fun
  | [d1, d2] => { results := [.lit (.bool false)], args := [d1, d2] }
  | _ => none }
def BooksClearsWrongFalsely : Prop := booksClearsRow.holds Try.pinned (OpenSpec.ofChange booksClearsWrong)

/-- 'foldhouselaw13.BooksCloses': WHATEVER THE INPUT: true; the input reads as it did. -/
def booksClosesSpec : ChangeSpec := { name := "booksCloses", fn := fun _ => fun
  | [d1, d2, d3, d4, d5] => { results := [.lit (.bool true)], args := [d1, d2, d3, d4, d5] }
  | _ => none }
def booksClosesRow : OpenClaim := { program := "ytekplfbfkfiabaa", sum := "736bd774b13cd0b3e1567eab5840e71ee1f00e9620d5b9ec0d9dd3fcc57b7a5f", func := "foldhouse/foldhouselaw13.BooksCloses", spec := "booksCloses", unfollowed := true, recurses := true, plainKeys := false, apart := false }
def BooksClosesSaid : Prop := booksClosesRow.holds Try.pinned (OpenSpec.ofChange booksClosesSpec)

/-- ITS FALSE NEIGHBOUR: 'it returns false'. Refute it at one input. -/
def booksClosesWrong : ChangeSpec := { name := "booksCloses", fn := fun _ => fun
  | [d1, d2, d3, d4, d5] => { results := [.lit (.bool false)], args := [d1, d2, d3, d4, d5] }
  | _ => none }
def BooksClosesWrongFalsely : Prop := booksClosesRow.holds Try.pinned (OpenSpec.ofChange booksClosesWrong)

/-- 'foldhouselaw13.BooksBalance': WHATEVER THE INPUT: true; the input reads as it did. -/
def booksBalanceSpec : ChangeSpec := { name := "booksBalance", fn := fun _ => fun
  | [d1, d2, d3, d4] => { results := [.lit (.bool true)], args := [d1, d2, d3, d4] }
  | _ => none }
def booksBalanceRow : OpenClaim := { program := "ytekplfbfkfiabaa", sum := "736bd774b13cd0b3e1567eab5840e71ee1f00e9620d5b9ec0d9dd3fcc57b7a5f", func := "foldhouse/foldhouselaw13.BooksBalance", spec := "booksBalance", unfollowed := true, recurses := true, plainKeys := false, apart := false }
def BooksBalanceSaid : Prop := booksBalanceRow.holds Try.pinned (OpenSpec.ofChange booksBalanceSpec)

/-- ITS FALSE NEIGHBOUR: 'it returns false'. Refute it at one input. -/
def booksBalanceWrong : ChangeSpec := { name := "booksBalance", fn := fun _ => fun
  | [d1, d2, d3, d4] => { results := [.lit (.bool false)], args := [d1, d2, d3, d4] }
  | _ => none }
def BooksBalanceWrongFalsely : Prop := booksBalanceRow.holds Try.pinned (OpenSpec.ofChange booksBalanceWrong)

/-- 'foldhouselaw13.BooksAudits': WHATEVER THE INPUT: true; the input reads as it did. -/
def booksAuditsSpec : ChangeSpec := { name := "booksAudits", fn := fun _ => fun
  | [d1, d2, d3, d4, d5] => { results := [.lit (.bool true)], args := [d1, d2, d3, d4, d5] }
  | _ => none }
def booksAuditsRow : OpenClaim := { program := "ytekplfbfkfiabaa", sum := "736bd774b13cd0b3e1567eab5840e71ee1f00e9620d5b9ec0d9dd3fcc57b7a5f", func := "foldhouse/foldhouselaw13.BooksAudits", spec := "booksAudits", unfollowed := true, recurses := true, plainKeys := false, apart := false }
def BooksAuditsSaid : Prop := booksAuditsRow.holds Try.pinned (OpenSpec.ofChange booksAuditsSpec)

/-- ITS FALSE NEIGHBOUR: 'it returns false'. Refute it at one input. -/
def booksAuditsWrong : ChangeSpec := { name := "booksAudits", fn := fun _ => fun
  | [d1, d2, d3, d4, d5] => { results := [.lit (.bool false)], args := [d1, d2, d3, d4, d5] }
  | _ => none }
def BooksAuditsWrongFalsely : Prop := booksAuditsRow.holds Try.pinned (OpenSpec.ofChange booksAuditsWrong)

/-- 'foldhouselaw13.BooksFinds': WHATEVER THE INPUT: true; the input reads as it did. -/
def booksFindsSpec : ChangeSpec := { name := "booksFinds", fn := fun _ => fun
  | [d1, d2, d3, d4, d5, d6, d7] => { results := [.lit (.bool true)], args := [d1, d2, d3, d4, d5, d6, d7] }
  | _ => none }
def booksFindsRow : OpenClaim := { program := "ytekplfbfkfiabaa", sum := "736bd774b13cd0b3e1567eab5840e71ee1f00e9620d5b9ec0d9dd3fcc57b7a5f", func := "foldhouse/foldhouselaw13.BooksFinds", spec := "booksFinds", unfollowed := true, recurses := true, plainKeys := false, apart := false }
def BooksFindsSaid : Prop := booksFindsRow.holds Try.pinned (OpenSpec.ofChange booksFindsSpec)

/-- ITS FALSE NEIGHBOUR: 'it returns false'. Refute it at one input. -/
def booksFindsWrong : ChangeSpec := { name := "booksFinds", fn := fun _ => fun
  | [d1, d2, d3, d4, d5, d6, d7] => { results := [.lit (.bool false)], args := [d1, d2, d3, d4, d5, d6, d7] }
  | _ => none }
def BooksFindsWrongFalsely : Prop := booksFindsRow.holds Try.pinned (OpenSpec.ofChange booksFindsWrong)

/-- 'foldhouselaw13.BooksKeeps': WHATEVER THE INPUT: true; the input reads as it did. -/
def booksKeepsSpec : ChangeSpec := { name := "booksKeeps", fn := fun _ => fun
  | [d1, d2, d3, d4, d5] => { results := [.lit (.bool true)], args := [d1, d2, d3, d4, d5] }
  | _ => none }
def booksKeepsRow : OpenClaim := { program := "ytekplfbfkfiabaa", sum := "736bd774b13cd0b3e1567eab5840e71ee1f00e9620d5b9ec0d9dd3fcc57b7a5f", func := "foldhouse/foldhouselaw13.BooksKeeps", spec := "booksKeeps", unfollowed := true, recurses := true, plainKeys := false, apart := false }
def BooksKeepsSaid : Prop := booksKeepsRow.holds Try.pinned (OpenSpec.ofChange booksKeepsSpec)

/-- ITS FALSE NEIGHBOUR: 'it returns false'. Refute it at one input. -/
def booksKeepsWrong : ChangeSpec := { name := "booksKeeps", fn := fun _ => fun
  | [d1, d2, d3, d4, d5] => { results := [.lit (.bool false)], args := [d1, d2, d3, d4, d5] }
  | _ => none }
def BooksKeepsWrongFalsely : Prop := booksKeepsRow.holds Try.pinned (OpenSpec.ofChange booksKeepsWrong)

/-- 'foldhouselaw13.BooksSmall': WHATEVER THE INPUT: true; the input reads as it did. -/
def booksSmallSpec : ChangeSpec := { name := "booksSmall", fn := fun _ => fun
  | [] => { results := [.lit (.bool true)], args := [] }
  | _ => none }
def booksSmallRow : OpenClaim := { program := "ytekplfbfkfiabaa", sum := "736bd774b13cd0b3e1567eab5840e71ee1f00e9620d5b9ec0d9dd3fcc57b7a5f", func := "foldhouse/foldhouselaw13.BooksSmall", spec := "booksSmall", unfollowed := true, recurses := true, plainKeys := false, apart := false }
def BooksSmallSaid : Prop := booksSmallRow.holds Try.pinned (OpenSpec.ofChange booksSmallSpec)

/-- ITS FALSE NEIGHBOUR: 'it returns false'. Refute it at one input. -/
def booksSmallWrong : ChangeSpec := { name := "booksSmall", fn := fun _ => fun
  | [] => { results := [.lit (.bool false)], args := [] }
  | _ => none }
def BooksSmallWrongFalsely : Prop := booksSmallRow.holds Try.pinned (OpenSpec.ofChange booksSmallWrong)

/-- 'foldhouselaw13.BooksPaper': WHATEVER THE INPUT: true; the input reads as it did. -/
def booksPaperSpec : ChangeSpec := { name := "booksPaper", fn := fun _ => fun
  | [d1, d2] => { results := [.lit (.bool true)], args := [d1, d2] }
  | _ => none }
def booksPaperRow : OpenClaim := { program := "ytekplfbfkfiabaa", sum := "736bd774b13cd0b3e1567eab5840e71ee1f00e9620d5b9ec0d9dd3fcc57b7a5f", func := "foldhouse/foldhouselaw13.BooksPaper", spec := "booksPaper", unfollowed := true, recurses := true, plainKeys := false, apart := false }
def BooksPaperSaid : Prop := booksPaperRow.holds Try.pinned (OpenSpec.ofChange booksPaperSpec)

/-- ITS FALSE NEIGHBOUR: 'it returns false'. Refute it at one input. -/
def booksPaperWrong : ChangeSpec := { name := "booksPaper", fn := fun _ => fun
  | [d1, d2] => { results := [.lit (.bool false)], args := [d1, d2] }
  | _ => none }
def BooksPaperWrongFalsely : Prop := booksPaperRow.holds Try.pinned (OpenSpec.ofChange booksPaperWrong)

/-- 'foldhouselaw13.BooksCopies': WHATEVER THE INPUT: true; the input reads as it did. -/
def booksCopiesSpec : ChangeSpec := { name := "booksCopies", fn := fun _ => fun
  | [d1, d2] => { results := [.lit (.bool true)], args := [d1, d2] }
  | _ => none }
def booksCopiesRow : OpenClaim := { program := "ytekplfbfkfiabaa", sum := "736bd774b13cd0b3e1567eab5840e71ee1f00e9620d5b9ec0d9dd3fcc57b7a5f", func := "foldhouse/foldhouselaw13.BooksCopies", spec := "booksCopies", unfollowed := true, recurses := true, plainKeys := false, apart := false }
def BooksCopiesSaid : Prop := booksCopiesRow.holds Try.pinned (OpenSpec.ofChange booksCopiesSpec)

/-- ITS FALSE NEIGHBOUR: 'it returns false'. Refute it at one input. -/
def booksCopiesWrong : ChangeSpec := { name := "booksCopies", fn := fun _ => fun
  | [d1, d2] => { results := [.lit (.bool false)], args := [d1, d2] }
  | _ => none }
def BooksCopiesWrongFalsely : Prop := booksCopiesRow.holds Try.pinned (OpenSpec.ofChange booksCopiesWrong)

/- THE SECOND FORM. 'bulk': how many values and letters a reading holds, each counted each time it is reached (what is shared counts as often as it is met; a slice's spare places count too). A statement '..UptoSaid' is the law's where the arguments, and the package variables that the reading takes, are together of bulk at most 1048576: NARROWER than '..Said'. Prove '..Said' where nothing that the law and all that it calls make is longer than what came in: it says more and counts as full. Else prove '..UptoSaid'. A law counts once. -/
mutual
def uptoBulk {H : Type} : DataW H → Nat
  | .lit (.string bytes) => bytes.length + 1
  | .lit _ => 1
  | .nil => 1
  | .ptr d => uptoBulk d + 1
  | .slice elems spare => uptoBulkAll elems + uptoBulkAll spare + 1
  | .agg parts => uptoBulkAll parts + 1
  | .iface _ d => uptoBulk d + 1
  | .map entries => uptoBulkEntries entries + 1
  | .held _ => 1
def uptoBulkAll {H : Type} : List (DataW H) → Nat
  | [] => 0
  | d :: r => uptoBulk d + uptoBulkAll r
def uptoBulkEntries {H : Type} : List (Lit × DataW H) → Nat
  | [] => 0
  | x :: r => uptoBulkEntry x + uptoBulkEntries r
def uptoBulkEntry {H : Type} : Lit × DataW H → Nat
  | (.string bytes, d) => bytes.length + uptoBulk d + 1
  | (_, d) => uptoBulk d + 1
 end
def uptoSmall : (H : Type) → List (DataW H) → Bool := fun _ ds => decide (uptoBulkAll ds ≤ 1048576)
def OpenSpec.upto (s : _root_.Go.ChangeSpec) : _root_.Go.OpenSpec := { _root_.Go.OpenSpec.ofChange s with cond := some uptoSmall }

/-- 'foldhouselaw13.BooksShares', WHERE WHAT IT READS IS OF BULK AT MOST 1048576: true; the input reads as it did. -/
def booksSharesUptoRow : OpenClaim := { program := "ytekplfbfkfiabaa", sum := "736bd774b13cd0b3e1567eab5840e71ee1f00e9620d5b9ec0d9dd3fcc57b7a5f", func := "foldhouse/foldhouselaw13.BooksShares", spec := "booksShares", unfollowed := true, recurses := true, plainKeys := false, apart := false, narrowed := true }
def BooksSharesUptoSaid : Prop := booksSharesUptoRow.holds Try.pinned (OpenSpec.upto booksSharesSpec)

/-- 'foldhouselaw13.BooksFair', WHERE WHAT IT READS IS OF BULK AT MOST 1048576: true; the input reads as it did. -/
def booksFairUptoRow : OpenClaim := { program := "ytekplfbfkfiabaa", sum := "736bd774b13cd0b3e1567eab5840e71ee1f00e9620d5b9ec0d9dd3fcc57b7a5f", func := "foldhouse/foldhouselaw13.BooksFair", spec := "booksFair", unfollowed := true, recurses := true, plainKeys := false, apart := false, narrowed := true }
def BooksFairUptoSaid : Prop := booksFairUptoRow.holds Try.pinned (OpenSpec.upto booksFairSpec)

/-- 'foldhouselaw13.BooksClears', WHERE WHAT IT READS IS OF BULK AT MOST 1048576: true; the input reads as it did. -/
def booksClearsUptoRow : OpenClaim := { program := "ytekplfbfkfiabaa", sum := "736bd774b13cd0b3e1567eab5840e71ee1f00e9620d5b9ec0d9dd3fcc57b7a5f", func := "foldhouse/foldhouselaw13.BooksClears", spec := "booksClears", unfollowed := true, recurses := true, plainKeys := false, apart := false, narrowed := true }
def BooksClearsUptoSaid : Prop := booksClearsUptoRow.holds Try.pinned (OpenSpec.upto booksClearsSpec)

/-- 'foldhouselaw13.BooksCloses', WHERE WHAT IT READS IS OF BULK AT MOST 1048576: true; the input reads as it did. -/
def booksClosesUptoRow : OpenClaim := { program := "ytekplfbfkfiabaa", sum := "736bd774b13cd0b3e1567eab5840e71ee1f00e9620d5b9ec0d9dd3fcc57b7a5f", func := "foldhouse/foldhouselaw13.BooksCloses", spec := "booksCloses", unfollowed := true, recurses := true, plainKeys := false, apart := false, narrowed := true }
def BooksClosesUptoSaid : Prop := booksClosesUptoRow.holds Try.pinned (OpenSpec.upto booksClosesSpec)

/-- 'foldhouselaw13.BooksBalance', WHERE WHAT IT READS IS OF BULK AT MOST 1048576: true; the input reads as it did. -/
def booksBalanceUptoRow : OpenClaim := { program := "ytekplfbfkfiabaa", sum := "736bd774b13cd0b3e1567eab5840e71ee1f00e9620d5b9ec0d9dd3fcc57b7a5f", func := "foldhouse/foldhouselaw13.BooksBalance", spec := "booksBalance", unfollowed := true, recurses := true, plainKeys := false, apart := false, narrowed := true }
def BooksBalanceUptoSaid : Prop := booksBalanceUptoRow.holds Try.pinned (OpenSpec.upto booksBalanceSpec)

/-- 'foldhouselaw13.BooksAudits', WHERE WHAT IT READS IS OF BULK AT MOST 1048576: true; the input reads as it did. -/
def booksAuditsUptoRow : OpenClaim := { program := "ytekplfbfkfiabaa", sum := "736bd774b13cd0b3e1567eab5840e71ee1f00e9620d5b9ec0d9dd3fcc57b7a5f", func := "foldhouse/foldhouselaw13.BooksAudits", spec := "booksAudits", unfollowed := true, recurses := true, plainKeys := false, apart := false, narrowed := true }
def BooksAuditsUptoSaid : Prop := booksAuditsUptoRow.holds Try.pinned (OpenSpec.upto booksAuditsSpec)

/-- 'foldhouselaw13.BooksFinds', WHERE WHAT IT READS IS OF BULK AT MOST 1048576: true; the input reads as it did. -/
def booksFindsUptoRow : OpenClaim := { program := "ytekplfbfkfiabaa", sum := "736bd774b13cd0b3e1567eab5840e71ee1f00e9620d5b9ec0d9dd3fcc57b7a5f", func := "foldhouse/foldhouselaw13.BooksFinds", spec := "booksFinds", unfollowed := true, recurses := true, plainKeys := false, apart := false, narrowed := true }
def BooksFindsUptoSaid : Prop := booksFindsUptoRow.holds Try.pinned (OpenSpec.upto booksFindsSpec)

/-- 'foldhouselaw13.BooksKeeps', WHERE WHAT IT READS IS OF BULK AT MOST 1048576: true; the input reads as it did. -/
def booksKeepsUptoRow : OpenClaim := { program := "ytekplfbfkfiabaa", sum := "736bd774b13cd0b3e1567eab5840e71ee1f00e9620d5b9ec0d9dd3fcc57b7a5f", func := "foldhouse/foldhouselaw13.BooksKeeps", spec := "booksKeeps", unfollowed := true, recurses := true, plainKeys := false, apart := false, narrowed := true }
def BooksKeepsUptoSaid : Prop := booksKeepsUptoRow.holds Try.pinned (OpenSpec.upto booksKeepsSpec)

/-- 'foldhouselaw13.BooksSmall', WHERE WHAT IT READS IS OF BULK AT MOST 1048576: true; the input reads as it did. -/
def booksSmallUptoRow : OpenClaim := { program := "ytekplfbfkfiabaa", sum := "736bd774b13cd0b3e1567eab5840e71ee1f00e9620d5b9ec0d9dd3fcc57b7a5f", func := "foldhouse/foldhouselaw13.BooksSmall", spec := "booksSmall", unfollowed := true, recurses := true, plainKeys := false, apart := false, narrowed := true }
def BooksSmallUptoSaid : Prop := booksSmallUptoRow.holds Try.pinned (OpenSpec.upto booksSmallSpec)

/-- 'foldhouselaw13.BooksPaper', WHERE WHAT IT READS IS OF BULK AT MOST 1048576: true; the input reads as it did. -/
def booksPaperUptoRow : OpenClaim := { program := "ytekplfbfkfiabaa", sum := "736bd774b13cd0b3e1567eab5840e71ee1f00e9620d5b9ec0d9dd3fcc57b7a5f", func := "foldhouse/foldhouselaw13.BooksPaper", spec := "booksPaper", unfollowed := true, recurses := true, plainKeys := false, apart := false, narrowed := true }
def BooksPaperUptoSaid : Prop := booksPaperUptoRow.holds Try.pinned (OpenSpec.upto booksPaperSpec)

/-- 'foldhouselaw13.BooksCopies', WHERE WHAT IT READS IS OF BULK AT MOST 1048576: true; the input reads as it did. -/
def booksCopiesUptoRow : OpenClaim := { program := "ytekplfbfkfiabaa", sum := "736bd774b13cd0b3e1567eab5840e71ee1f00e9620d5b9ec0d9dd3fcc57b7a5f", func := "foldhouse/foldhouselaw13.BooksCopies", spec := "booksCopies", unfollowed := true, recurses := true, plainKeys := false, apart := false, narrowed := true }
def BooksCopiesUptoSaid : Prop := booksCopiesUptoRow.holds Try.pinned (OpenSpec.upto booksCopiesSpec)

end Rows
end Go.Proofs.Ytekplfbfkfiabaa
