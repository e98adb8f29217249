/- Clear in plain words, step by step as the program takes it. -/
import Derived.Test.YtekplfbfkfiabaaGrTab
namespace Go.Proofs.Ytekplfbfkfiabaa
open Go.RowKit
set_option linter.unusedVariables false

structure PayD where
  from_ : Nat
  to_ : Nat
  n : Int
deriving Repr, DecidableEq
/-- Whether a party of the group owes, or is owed. -/
def okC (left G : List Int) (num : Int) (owes : Bool) (i : Nat) : Bool := gI G i == num && (owes && decide (gI left i < 0) || !owes && decide (gI left i > 0))
def firstI (left G : List Int) (num : Int) (owes : Bool) : Nat → Nat → Option Nat
  | 0, _ => none
  | f + 1, i => if okC left G num owes i then some i else firstI left G num owes f (i + 1)
def firstC (left G : List Int) (num : Int) (owes : Bool) : Option Nat := firstI left G num owes left.length 0
def firstV : Option Nat → Int
  | none => -1
  | some i => i
/-- One group's payments. -/
def clrIn (G : List Int) (num : Int) : Nat → List Int → List PayD → Option (List Int × List PayD)
  | 0, _, _ => none
  | f + 1, left, out => match firstC left G num true with
    | none => some (left, out)
    | some a => match firstC left G num false with
      | none => none
      | some b => clrIn G num f ((left.set a (gI left a + min (-(gI left a)) (gI left b))).set b (gI (left.set a (gI left a + min (-(gI left a)) (gI left b))) b - min (-(gI left a)) (gI left b))) (out ++ [⟨a, b, min (-(gI left a)) (gI left b)⟩])
def clrN (G : List Int) : Nat → Nat → List Int → List PayD → Option (List PayD)
  | 0, _, _, out => some out
  | r + 1, k, left, out => match clrIn G k 25 left out with
    | none => none
    | some (l, o) => clrN G r (k + 1) l o
/-- The payments, if the program comes to an end. -/
def clearP (l G : List Int) : Option (List PayD) := clrN G l.length 0 l []
theorem firstI_ge {left G : List Int} {num : Int} {owes : Bool} : ∀ (f i a : Nat), firstI left G num owes f i = some a → i ≤ a ∧ a < i + f ∧ okC left G num owes a = true
  | 0, i, a, h => by cases h
  | f + 1, i, a, h => by
    unfold firstI at h
    split at h
    · rename_i hk
      cases h
      exact ⟨Nat.le_refl _, by omega, hk⟩
    · obtain ⟨h1, h2, h3⟩ := firstI_ge f (i + 1) a h
      exact ⟨by omega, by omega, h3⟩
example : clearP [-5, 3, 2, -4, 4] [0, 0, 0, 1, 1] = some [⟨0, 1, 3⟩, ⟨0, 2, 2⟩, ⟨3, 4, 4⟩] := by decide +kernel
end Go.Proofs.Ytekplfbfkfiabaa
