/- The program that a search found, in plain words. -/
import Derived.Test.YtojobdffnnibaaaPlainSe
namespace Go.Proofs.Ytojobdffnnibaaa
set_option linter.unusedVariables false

/-- Each step comes from an earlier one. -/
def Back (l : List StepD) : Prop := ∀ j (h : j < l.length), -1 ≤ l[j].from_ ∧ l[j].from_ < j
theorem back_one (s : StD) (k u : Int) : Back [⟨s, k, u, -1⟩] := by
  intro j hj
  obtain rfl : j = 0 := by simpa using hj
  exact ⟨Int.le_refl _, by simp⟩
theorem addStep_back {p : PressD} {i : Nat} {s : StD} {l : List StepD} {a : Int × Nat} (h : Back l) (hi : i < l.length) : Back (addStep p i s l a) := by
  unfold addStep
  split
  · dsimp only
    split
    · exact h
    · intro j hj
      rw [List.length_append, List.length_singleton] at hj
      by_cases hjl : j < l.length
      · rw [List.getElem_append_left hjl]; exact h j hjl
      · obtain rfl : j = l.length := by omega
        rw [List.getElem_append_right (Nat.le_refl _)]
        simp only [Nat.sub_self, List.getElem_cons_zero]
        omega
  · exact h
theorem addStep_le' (p : PressD) (i : Nat) (s : StD) (l : List StepD) (a : Int × Nat) : l.length ≤ (addStep p i s l a).length := by
  unfold addStep
  split
  · dsimp only
    split
    · exact Nat.le_refl _
    · rw [List.length_append]; omega
  · exact Nat.le_refl _
theorem foldl_back {p : PressD} {i : Nat} {s : StD} : ∀ (ks : List (Int × Nat)) {l : List StepD}, Back l → i < l.length → Back (ks.foldl (addStep p i s) l) ∧ i < (ks.foldl (addStep p i s) l).length := by
  intro ks
  induction ks with
  | nil => intro l h hi; exact ⟨h, hi⟩
  | cons k ks ih => intro l h hi; exact ih (addStep_back h hi) (Nat.lt_of_lt_of_le hi (addStep_le' _ _ _ _ _))
/-- What a search ends with. -/
structure SearchD (p : PressD) (r : List StepD × Int) : Prop where
  back : Back r.1
  apart : Apart r.1
  found : r.2 = -1 ∨ 0 ≤ r.2 ∧ r.2.toNat < r.1.length
theorem searchD_ok (p : PressD) (done : StD → Bool) : ∀ (f i : Nat) (l : List StepD), Back l → Apart l → SearchD p (searchD p done f i l)
  | 0, i, l, hb, ha => ⟨hb, ha, .inl rfl⟩
  | f + 1, i, l, hb, ha => by
    unfold searchD
    by_cases hi : i < l.length
    · rw [List.getElem?_eq_getElem hi]
      dsimp only
      split
      · exact ⟨hb, ha, .inr ⟨by simp, by simpa using hi⟩⟩
      · exact searchD_ok p done f (i + 1) _ (foldl_back _ hb hi).1 (foldl_apart _ ha)
    · rw [List.getElem?_eq_none (by omega)]
      exact ⟨hb, ha, .inl rfl⟩

/-- The actions from a step back to the first one. -/
def backD (l : List StepD) : Nat → Int → List (Int × Int)
  | 0, _ => []
  | f + 1, i => match l[i.toNat]? with | none => [] | some t => if t.from_ < 0 then [] else (t.kind, t.unit) :: backD l f t.from_
theorem backD_fuel {l : List StepD} (h : Back l) : ∀ (f g : Nat) (i : Int), 0 ≤ i → i.toNat < f → i.toNat < g → backD l f i = backD l g i
  | 0, _, _, _, h1, _ => by omega
  | _ + 1, 0, _, _, _, h2 => by omega
  | f + 1, g + 1, i, h0, h1, h2 => by
    unfold backD
    by_cases hi : i.toNat < l.length
    · rw [List.getElem?_eq_getElem hi]
      dsimp only
      split
      · rfl
      · have := h i.toNat hi
        rw [backD_fuel h f g _ (by omega) (by omega) (by omega)]
    · rw [List.getElem?_eq_none (by omega)]
theorem backD_len {l : List StepD} (h : Back l) : ∀ (f : Nat) (i : Int), 0 ≤ i → (backD l f i).length ≤ i.toNat
  | 0, _, _ => by simp [backD]
  | f + 1, i, h0 => by
    unfold backD
    by_cases hi : i.toNat < l.length
    · rw [List.getElem?_eq_getElem hi]
      dsimp only
      split
      · simp
      · have := h i.toNat hi
        have := backD_len h f l[i.toNat].from_ (by omega)
        rw [List.length_cons]; omega
    · rw [List.getElem?_eq_none (by omega)]; simp
theorem backD_stop {l : List StepD} {f : Nat} {i : Int} (hi : i.toNat < l.length) (h : l[i.toNat].from_ < 0) : backD l (f + 1) i = [] := by
  unfold backD; rw [List.getElem?_eq_getElem hi]; dsimp only; rw [if_pos h]
theorem backD_step {l : List StepD} {f : Nat} {i : Int} (hi : i.toNat < l.length) (h : ¬ l[i.toNat].from_ < 0) : backD l (f + 1) i = (l[i.toNat].kind, l[i.toNat].unit) :: backD l f l[i.toNat].from_ := by
  conv => lhs; unfold backD
  rw [List.getElem?_eq_getElem hi]; dsimp only; rw [if_neg h]

/-- A goal. -/
structure GoalD where
  drive : Int
  pressed : List Bool
def aimedD (s : StD) (g : GoalD) : Bool := (g.pressed.length == s.units.length) && (decide (0 ≤ g.drive) && decide (g.drive ≤ 2))
def fulD (g : GoalD) (s : StD) : Bool := (s.drive == g.drive) && (s.units.map (·.pr) == g.pressed)
/-- The error of a press, a state and a goal. -/
def goErr (p : PressD) (s : StD) (g : GoalD) : Int := if stErr p s ≠ 0 then stErr p s else if aimedD s g then 0 else 1
/-- What the search for a goal ends with. -/
def seekD (p : PressD) (s : StD) (g : GoalD) : List StepD × Int := searchD p (fulD g) 40000 0 [⟨s, 0, 0, -1⟩]
/-- The error of the search for a program, and the program. -/
def fiErr (p : PressD) (s : StD) (g : GoalD) : Int := if goErr p s g ≠ 0 then goErr p s g else if (seekD p s g).2 < 0 then 4 else 0
def findD (p : PressD) (s : StD) (g : GoalD) : List (Int × Int) := (backD (seekD p s g).1 40000 (seekD p s g).2).reverse
theorem seek_ok (p : PressD) (s : StD) (g : GoalD) : SearchD p (seekD p s g) :=
  searchD_ok p _ _ _ _ (back_one s 0 0) (by unfold Apart; simp)
end Go.Proofs.Ytojobdffnnibaaa
