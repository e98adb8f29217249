/- How much the pressed towers are inked, in plain words. -/
import Derived.Test.YtojobdffnnibaaaPlainSt
namespace Go.Proofs.Ytojobdffnnibaaa
set_option linter.unusedVariables false

/-- How much the dirtiest pressed tower is inked (0 if there is none). -/
def inkM (us : List UnitD) : Int := us.foldl (fun m u => if u.pr then max m u.ink else m) 0
theorem inkM_ge (us : List UnitD) : ∀ (a : Int), a ≤ us.foldl (fun m u => if u.pr then max m u.ink else m) a ∧ ∀ u ∈ us, u.pr = true → u.ink ≤ us.foldl (fun m u => if u.pr then max m u.ink else m) a := by
  induction us with
  | nil => intro a; exact ⟨Int.le_refl _, fun u hu => by cases hu⟩
  | cons x us ih =>
    intro a
    rw [List.foldl_cons]
    obtain ⟨b, hb⟩ : ∃ b, b = if x.pr then max a x.ink else a := ⟨_, rfl⟩
    rw [← hb]
    obtain ⟨h1, h2⟩ := ih b
    have hab : a ≤ b := by rw [hb]; split <;> omega
    refine ⟨by omega, fun u hu hp => ?_⟩
    rcases List.mem_cons.1 hu with rfl | hu
    · rw [if_pos hp] at hb; omega
    · exact h2 u hu hp
theorem inkM_at (us : List UnitD) : ∀ (a : Int), us.foldl (fun m u => if u.pr then max m u.ink else m) a = a ∨ ∃ u ∈ us, u.pr = true ∧ us.foldl (fun m u => if u.pr then max m u.ink else m) a = u.ink := by
  induction us with
  | nil => intro a; exact .inl rfl
  | cons x us ih =>
    intro a
    rw [List.foldl_cons]
    rcases ih (if x.pr then max a x.ink else a) with h | ⟨u, hu, hp, h⟩
    · rw [h]
      by_cases hp : x.pr = true
      · rw [if_pos hp]
        by_cases hm : x.ink ≤ a
        · exact .inl (by omega)
        · exact .inr ⟨x, by simp, hp, by omega⟩
      · rw [if_neg hp]; exact .inl rfl
    · exact .inr ⟨u, by simp [hu], hp, h⟩
/-- The dirtiest one tells of all. -/
theorem inkM_any (us : List UnitD) (hpos : ∀ u ∈ us, 0 ≤ u.ink) (hany : us.any (·.pr) = true) (D n : Int) : (us.any fun u => u.pr && decide (D ≤ u.ink + n)) = decide (D ≤ inkM us + n) := by
  rw [Bool.eq_iff_iff, List.any_eq_true, decide_eq_true_eq]
  constructor
  · rintro ⟨u, hu, h⟩
    simp only [Bool.and_eq_true, decide_eq_true_eq] at h
    have := (inkM_ge us 0).2 u hu h.1
    unfold inkM; omega
  · intro h
    rcases inkM_at us 0 with h0 | ⟨u, hu, hp, h0⟩
    · obtain ⟨u, hu, hp⟩ := List.any_eq_true.1 hany
      refine ⟨u, hu, ?_⟩
      have := hpos u hu
      unfold inkM at h
      simp only [Bool.and_eq_true, decide_eq_true_eq]
      exact ⟨hp, by omega⟩
    · refine ⟨u, hu, ?_⟩
      unfold inkM at h
      simp only [Bool.and_eq_true, decide_eq_true_eq]
      exact ⟨hp, by omega⟩

/-- The tower after n copies. -/
def inked (n : Int) (u : UnitD) : UnitD := if u.pr then { u with ink := u.ink + n } else u
/-- The error of printing. -/
def prErr (p : PressD) (s : StD) (n : Int) : Int :=
  if stErr p s ≠ 0 then stErr p s else if n < 0 ∨ 1000000 - max s.fresh (inkM s.units) < n then 6 else if s.drive ≠ 2 then 80 else 0
/-- The state after printing. -/
def prD (s : StD) (n : Int) : StD := { s with fresh := s.fresh + n, units := s.units.map (inked n) }
/-- The waste of printing. -/
def prW (p : PressD) (s : StD) (n : Int) : List SpanD := spansN p.warm s.fresh p.dirt (inkM s.units) n
end Go.Proofs.Ytojobdffnnibaaa
