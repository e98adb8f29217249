/- What the rules test. -/
import Derived.Test.YtojobdffnnibaaaPRules
import Derived.Test.YtojobdffnnibaaaPPrint0
namespace Go.Proofs.Ytojobdffnnibaaa
open Go.RowKit
set_option linter.unusedVariables false
set_option linter.unusedSimpArgs false

/-- What a test of a rule answers. -/
abbrev OkC (fid : Nat) (b : Bool) (w : World) (mb ub i : Nat) : Prop :=
  Calls Try.prog fid #[.pointer (some ⟨mb, 0, none⟩), .pointer (some ⟨ub, i * 5, none⟩)] w fun e w' => e = .returned (.bool b) ∧ Ext w w'
section
variable {B : Nat} {w : World} {mb pb ub c : Nat} {p : PressD} {s : StD} {vj : Value} {i : Nat}
theorem ok1 (h : MOw B w mb pb ub c p s vj) (hi : i < s.units.length) : OkC 82 (allowD p s 1 i) w mb ub i := by
  have d := h.bm.cell
  obtain ⟨e0, e1, e2, e3, e4⟩ := h.at hi
  have ha : allowD p s 1 i = (s.drive == 0 && !s.units[i].op) := by unfold allowD; simp [hi]
  obtain ⟨xop, hop⟩ : ∃ x, s.units[i].op = x := ⟨_, rfl⟩
  rw [hop] at e0 ha
  have HA := Lib.hid ha
  clear ha
  clear hop e1 e2 e3 e4 h
  go_enter Try.func82, Try.ntmps82
  by_cases h1 : s.drive = 0
  · have q1 : (s.drive == 0) = true := by simp [h1]
    have q2 : (s.drive != 0) = false := by simp [h1]
    cases xop <;> (go_wp2; go_ret; exact ⟨ret_bool (by rw [HA.out]; simp [h1]), Below.refl _ _⟩)
  · have q1 : (s.drive == 0) = false := by simp [h1]
    have q2 : (s.drive != 0) = true := by simp [h1]
    cases xop <;> (go_wp2; go_ret; exact ⟨ret_bool (by rw [HA.out]; simp [h1]), Below.refl _ _⟩)
theorem ok2 (h : MOw B w mb pb ub c p s vj) (hi : i < s.units.length) : OkC 84 (allowD p s 2 i) w mb ub i := by
  have d := h.bm.cell
  obtain ⟨e0, e1, e2, e3, e4⟩ := h.at hi
  have ha : allowD p s 2 i = (s.units[i].op) := by unfold allowD; simp [hi]
  obtain ⟨xop, hop⟩ : ∃ x, s.units[i].op = x := ⟨_, rfl⟩
  rw [hop] at e0 ha
  have HA := Lib.hid ha
  clear ha
  clear hop e1 e2 e3 e4 h
  go_enter Try.func84, Try.ntmps84
  cases xop <;> (go_wp2; go_ret; exact ⟨ret_bool (by rw [HA.out]), Below.refl _ _⟩)
theorem ok3 (h : MOw B w mb pb ub c p s vj) (hi : i < s.units.length) : OkC 86 (allowD p s 3 i) w mb ub i := by
  have d := h.bm.cell
  obtain ⟨e0, e1, e2, e3, e4⟩ := h.at hi
  have ha : allowD p s 3 i = (s.drive == 1 && !s.units[i].th) := by unfold allowD; simp [hi]
  obtain ⟨xth, hth⟩ : ∃ x, s.units[i].th = x := ⟨_, rfl⟩
  rw [hth] at e1 ha
  have HA := Lib.hid ha
  clear ha
  clear hth e0 e2 e3 e4 h
  go_enter Try.func86, Try.ntmps86
  by_cases h1 : s.drive = 1
  · have q1 : (s.drive == 1) = true := by simp [h1]
    have q2 : (s.drive != 1) = false := by simp [h1]
    cases xth <;> (go_wp2; go_ret; exact ⟨ret_bool (by rw [HA.out]; simp [h1]), Below.refl _ _⟩)
  · have q1 : (s.drive == 1) = false := by simp [h1]
    have q2 : (s.drive != 1) = true := by simp [h1]
    cases xth <;> (go_wp2; go_ret; exact ⟨ret_bool (by rw [HA.out]; simp [h1]), Below.refl _ _⟩)
theorem ok5 (h : MOw B w mb pb ub c p s vj) (hi : i < s.units.length) : OkC 92 (allowD p s 5 i) w mb ub i := by
  have d := h.bm.cell
  obtain ⟨e0, e1, e2, e3, e4⟩ := h.at hi
  have ha : allowD p s 5 i = (s.drive != 0 && s.units[i].th && s.units[i].cl && !s.units[i].pr) := by unfold allowD; simp [hi]
  obtain ⟨xth, hth⟩ : ∃ x, s.units[i].th = x := ⟨_, rfl⟩
  rw [hth] at e1 ha
  obtain ⟨xcl, hcl⟩ : ∃ x, s.units[i].cl = x := ⟨_, rfl⟩
  rw [hcl] at e2 ha
  obtain ⟨xpr, hpr⟩ : ∃ x, s.units[i].pr = x := ⟨_, rfl⟩
  rw [hpr] at e3 ha
  have HA := Lib.hid ha
  clear ha
  clear hth hcl hpr e0 e4 h
  go_enter Try.func92, Try.ntmps92
  by_cases h1 : s.drive = 0
  · have q1 : (s.drive == 0) = true := by simp [h1]
    have q2 : (s.drive != 0) = false := by simp [h1]
    cases xth <;> cases xcl <;> cases xpr <;> (go_wp2; go_ret; exact ⟨ret_bool (by rw [HA.out]; simp [h1]), Below.refl _ _⟩)
  · have q1 : (s.drive == 0) = false := by simp [h1]
    have q2 : (s.drive != 0) = true := by simp [h1]
    cases xth <;> cases xcl <;> cases xpr <;> (go_wp2; go_ret; exact ⟨ret_bool (by rw [HA.out]; simp [h1]), Below.refl _ _⟩)
theorem ok10 (h : MOw B w mb pb ub c p s vj) (hi : i < s.units.length) : OkC 99 (allowD p s 10 i) w mb ub i := by
  have d := h.bm.cell
  obtain ⟨e0, e1, e2, e3, e4⟩ := h.at hi
  have ha : allowD p s 10 i = (s.drive == 0 && !s.folder) := by unfold allowD; simp [hi]
  obtain ⟨xf, hf⟩ : ∃ x, s.folder = x := ⟨_, rfl⟩
  rw [hf] at d ha
  have HA := Lib.hid ha
  clear ha
  clear  hf e0 e1 e2 e3 e4 h
  go_enter Try.func99, Try.ntmps99
  by_cases h1 : s.drive = 0
  · have q1 : (s.drive == 0) = true := by simp [h1]
    have q2 : (s.drive != 0) = false := by simp [h1]
    cases xf <;> (go_wp2; go_ret; exact ⟨ret_bool (by rw [HA.out]; simp [h1]), Below.refl _ _⟩)
  · have q1 : (s.drive == 0) = false := by simp [h1]
    have q2 : (s.drive != 0) = true := by simp [h1]
    cases xf <;> (go_wp2; go_ret; exact ⟨ret_bool (by rw [HA.out]; simp [h1]), Below.refl _ _⟩)
theorem ok11 (h : MOw B w mb pb ub c p s vj) (hi : i < s.units.length) : OkC 101 (allowD p s 11 i) w mb ub i := by
  have d := h.bm.cell
  obtain ⟨e0, e1, e2, e3, e4⟩ := h.at hi
  have ha : allowD p s 11 i = (s.folder) := by unfold allowD; simp [hi]
  obtain ⟨xf, hf⟩ : ∃ x, s.folder = x := ⟨_, rfl⟩
  rw [hf] at d ha
  have HA := Lib.hid ha
  clear ha
  clear  hf e0 e1 e2 e3 e4 h
  go_enter Try.func101, Try.ntmps101
  cases xf <;> (go_wp2; go_ret; exact ⟨ret_bool (by rw [HA.out]), Below.refl _ _⟩)
theorem ok12 (h : MOw B w mb pb ub c p s vj) (hi : i < s.units.length) : OkC 103 (allowD p s 12 i) w mb ub i := by
  have d := h.bm.cell
  obtain ⟨e0, e1, e2, e3, e4⟩ := h.at hi
  have ha : allowD p s 12 i = (s.drive == 0 && s.units[i].op && s.units[i].th) := by unfold allowD; simp [hi]
  obtain ⟨xop, hop⟩ : ∃ x, s.units[i].op = x := ⟨_, rfl⟩
  rw [hop] at e0 ha
  obtain ⟨xth, hth⟩ : ∃ x, s.units[i].th = x := ⟨_, rfl⟩
  rw [hth] at e1 ha
  have HA := Lib.hid ha
  clear ha
  clear hop hth e2 e3 e4 h
  go_enter Try.func103, Try.ntmps103
  by_cases h1 : s.drive = 0
  · have q1 : (s.drive == 0) = true := by simp [h1]
    have q2 : (s.drive != 0) = false := by simp [h1]
    cases xop <;> cases xth <;> (go_wp2; go_ret; exact ⟨ret_bool (by rw [HA.out]; simp [h1]), Below.refl _ _⟩)
  · have q1 : (s.drive == 0) = false := by simp [h1]
    have q2 : (s.drive != 0) = true := by simp [h1]
    cases xop <;> cases xth <;> (go_wp2; go_ret; exact ⟨ret_bool (by rw [HA.out]; simp [h1]), Below.refl _ _⟩)
end
end Go.Proofs.Ytojobdffnnibaaa
