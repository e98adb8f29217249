/- The search through the situations of a press, in plain words. -/
import Derived.Test.YtojobdffnnibaaaPlainIn
namespace Go.Proofs.Ytojobdffnnibaaa
set_option linter.unusedVariables false

/-- The truths of the towers. -/
def unitsB (us : List UnitD) : List Bool := us.flatMap fun u => [u.op, u.th, u.cl, u.pr]
/-- The situation of a state: fifteen truths. -/
def sitD (s : StD) : List Bool := ([s.drive == 1, s.drive == 2, s.folder] ++ unitsB s.units ++ List.replicate 12 false).take 15
theorem sitD_len (s : StD) : (sitD s).length = 15 := by
  unfold sitD
  rw [List.length_take]
  simp

/-- A step: the state, the action that led there, and from which step. -/
structure StepD where
  at_ : StD
  kind : Int
  unit : Int
  from_ : Int

/-- All actions of a press of n towers, in order. -/
def kindsD (n : Nat) : List (Int × Nat) := (List.range 12).flatMap fun k => (List.range n).map fun u => (((k + 1 : Nat) : Int), u)
/-- A step more, if its situation is new. -/
def addStep (p : PressD) (i : Nat) (s : StD) (l : List StepD) (a : Int × Nat) : List StepD :=
  if actErr p s a.1 a.2 = 0 then
    let nx := actD p s a.1 a.2
    if l.any (fun t => sitD t.at_ == sitD nx) then l else l ++ [⟨nx, a.1, a.2, i⟩]
  else l
def expandD (p : PressD) (i : Nat) (s : StD) (l : List StepD) : List StepD := (kindsD s.units.length).foldl (addStep p i s) l
/-- The steps behind i rounds more; where the one that was looked for is found. -/
def searchD (p : PressD) (done : StD → Bool) : Nat → Nat → List StepD → List StepD × Int
  | 0, _, l => (l, -1)
  | fuel + 1, i, l =>
    match l[i]? with
    | none => (l, -1)
    | some t => if done t.at_ then (l, i) else searchD p done fuel (i + 1) (expandD p i t.at_ l)

/-- No situation stands twice. -/
def Apart (l : List StepD) : Prop := (l.map fun t => sitD t.at_).Nodup
theorem addStep_apart {p : PressD} {i : Nat} {s : StD} {l : List StepD} {a : Int × Nat} (h : Apart l) : Apart (addStep p i s l a) := by
  unfold addStep
  split
  · dsimp only
    split
    · exact h
    · rename_i hn
      unfold Apart
      rw [List.map_append, List.nodup_append]
      refine ⟨h, by simp, fun x hx y hy e => hn ?_⟩
      obtain ⟨t, ht, rfl⟩ := List.mem_map.1 hx
      simp only [List.map_cons, List.map_nil, List.mem_singleton] at hy
      rw [List.any_eq_true]
      exact ⟨t, ht, by rw [e, hy]; simp⟩
  · exact h
theorem foldl_apart {p : PressD} {i : Nat} {s : StD} : ∀ (ks : List (Int × Nat)) {l : List StepD}, Apart l → Apart (ks.foldl (addStep p i s) l) := by
  intro ks
  induction ks with
  | nil => intro l h; exact h
  | cons k ks ih => intro l h; exact ih (addStep_apart h)

/-- The number that fifteen truths write. -/
def numB : List Bool → Nat
  | [] => 0
  | b :: l => (if b then 1 else 0) + 2 * numB l
theorem numB_lt : ∀ (l : List Bool), numB l < 2 ^ l.length
  | [] => by simp [numB]
  | b :: l => by
    have := numB_lt l
    unfold numB
    rw [List.length_cons, Nat.pow_succ]
    split <;> omega
theorem numB_inj : ∀ (l l' : List Bool), l.length = l'.length → numB l = numB l' → l = l'
  | [], [], _, _ => rfl
  | [], b :: l, h, _ => by simp at h
  | b :: l, [], h, _ => by simp at h
  | b :: l, b' :: l', h, e => by
    unfold numB at e
    have h1 : l.length = l'.length := by simpa using h
    have h2 : numB l = numB l' := by split at e <;> split at e <;> omega
    rw [numB_inj l l' h1 h2]
    have h3 : b = b' := by
      rw [h2] at e
      cases b <;> cases b' <;> simp at e <;> first | rfl | omega
    rw [h3]
theorem nodup_lt : ∀ (n : Nat) (l : List Nat), l.Nodup → (∀ x ∈ l, x < n) → l.length ≤ n := by
  intro n
  induction n with
  | zero => intro l _ h; cases l with
    | nil => exact Nat.le_refl _
    | cons x l => have := h x (by simp); omega
  | succ n ih =>
    intro l hn h
    have h1 : (l.filter fun x => x != n).length ≤ n := ih _ (hn.filter _) fun x hx => by
      rw [List.mem_filter] at hx
      have := h x hx.1
      have h2 : x ≠ n := by simpa using hx.2
      omega
    have h3 : l.length ≤ (l.filter fun x => x != n).length + 1 := by
      clear ih h h1
      induction l with
      | nil => simp
      | cons x l ih2 =>
        rw [List.nodup_cons] at hn
        by_cases e : x = n
        · subst e
          have : (l.filter fun y => y != x) = l := List.filter_eq_self.2 fun y hy => by
            have : y ≠ x := fun e => hn.1 (e ▸ hy)
            simpa using this
          rw [List.filter_cons]
          simp [this]
        · have := ih2 hn.2
          rw [List.filter_cons]
          simp [e]
          exact this
    omega
/-- There are at most 2^15 steps. -/
theorem Apart.len {l : List StepD} (h : Apart l) : l.length ≤ 32768 := by
  have h1 : ((l.map fun t => sitD t.at_).map numB).Nodup := by
    unfold Apart at h
    rw [List.nodup_iff_pairwise_ne] at h ⊢
    refine List.Pairwise.map numB (R := fun a b => a ≠ b ∧ a.length = 15 ∧ b.length = 15) (fun a b hab e => hab.1 (numB_inj a b (hab.2.1.trans hab.2.2.symm) e)) ?_
    refine List.Pairwise.imp_of_mem (fun {a b} ha hb hab => ⟨hab, ?_, ?_⟩) h
    · obtain ⟨t, _, rfl⟩ := List.mem_map.1 ha; exact sitD_len _
    · obtain ⟨t, _, rfl⟩ := List.mem_map.1 hb; exact sitD_len _
  have h2 := nodup_lt 32768 _ h1 fun x hx => by
    obtain ⟨y, hy, rfl⟩ := List.mem_map.1 hx
    obtain ⟨t, _, rfl⟩ := List.mem_map.1 hy
    have := numB_lt (sitD t.at_)
    rw [sitD_len] at this
    exact this
  simpa using h2
end Go.Proofs.Ytojobdffnnibaaa
