/- rules, Post. -/
import Derived.Test.YtekplfbfkfiabaaBkRules
namespace Go.Proofs.Ytekplfbfkfiabaa
open Go.RowKit
set_option linter.unusedVariables false
set_option linter.unusedSimpArgs false

/-- Rule k of an entry, and its error. -/
def rr (d : LedD) (x : EntD) (k : Nat) : Bool := [r1 d x, r2 d x, r3 d x, r4 d x, r5 d x, r6 d x, r7 d x].getD k true
theorem rr_0 (d : LedD) (x : EntD) : rr d x 0 = r1 d x := by unfold rr; simp only [List.getD_cons_zero, List.getD_cons_succ]
theorem rr_1 (d : LedD) (x : EntD) : rr d x 1 = r2 d x := by unfold rr; simp only [List.getD_cons_zero, List.getD_cons_succ]
theorem rr_2 (d : LedD) (x : EntD) : rr d x 2 = r3 d x := by unfold rr; simp only [List.getD_cons_zero, List.getD_cons_succ]
theorem rr_3 (d : LedD) (x : EntD) : rr d x 3 = r4 d x := by unfold rr; simp only [List.getD_cons_zero, List.getD_cons_succ]
theorem rr_4 (d : LedD) (x : EntD) : rr d x 4 = r5 d x := by unfold rr; simp only [List.getD_cons_zero, List.getD_cons_succ]
theorem rr_5 (d : LedD) (x : EntD) : rr d x 5 = r6 d x := by unfold rr; simp only [List.getD_cons_zero, List.getD_cons_succ]
theorem rr_6 (d : LedD) (x : EntD) : rr d x 6 = r7 d x := by unfold rr; simp only [List.getD_cons_zero, List.getD_cons_succ]
def ec (k : Nat) : Int := [2, 1, 140, 6, 12, 11, 9].getD k 0
theorem r1_iff {d : LedD} {x : EntD} : r1 d x = true ↔ (d.ents.length : Int) < 5000 := by unfold r1; exact decide_eq_true_iff
theorem r2_iff {d : LedD} {x : EntD} : r2 d x = true ↔ (0 ≤ x.frm ∧ x.frm < d.n ∧ 0 ≤ x.to ∧ x.to < d.n ∧ x.frm ≠ x.to) := by
  simp only [r2, Bool.and_eq_true, nIn_iff, bne_iff_ne]
  constructor
  · rintro ⟨⟨⟨a, b⟩, c, e⟩, f⟩; exact ⟨a, by omega, c, by omega, f⟩
  · rintro ⟨a, b, c, e, f⟩; exact ⟨⟨⟨a, by omega⟩, c, by omega⟩, f⟩
theorem r3_iff {d : LedD} {x : EntD} : r3 d x = true ↔ (d.at' x.frm).good = (d.at' x.to).good := by simp [r3]
theorem r4_iff {d : LedD} {x : EntD} : r4 d x = true ↔ (1 ≤ x.amt ∧ x.amt ≤ 1000000000000 ∧ 0 ≤ x.day ∧ x.day ≤ 100000) := by
  simp only [r4, Bool.and_eq_true, nIn_iff, and_assoc]
theorem r5_iff {d : LedD} {x : EntD} : r5 d x = true ↔ ¬ x.day ≤ d.closed := by simp [r5]
theorem r6_iff {d : LedD} {x : EntD} : r6 d x = true ↔ ¬ x.day < d.last := by simp [r6]
theorem r7_iff {d : LedD} {x : EntD} : r7 d x = true ↔ ¬ ((d.at' x.frm).stock = true ∧ balA x.frm d.ents < x.amt) := by
  simp only [r7]
  cases (d.at' x.frm).stock <;> simp
theorem postErr_eq (d : LedD) (x : EntD) : postErr d x = if r1 d x = false then 2 else if r2 d x = false then 1 else if r3 d x = false then 140 else if r4 d x = false then 6 else if r5 d x = false then 12 else if r6 d x = false then 11 else if r7 d x = false then 9 else 0 := by
  have nf : ∀ {b : Bool} {P : Prop}, (b = true ↔ P) → (b = false ↔ ¬ P) := fun {b P} h => by
    rw [← h]; cases b <;> simp
  unfold postErr
  simp only [nf r1_iff, nf r2_iff, nf r3_iff, nf r4_iff, nf r5_iff, nf r6_iff, nf r7_iff, Decidable.not_not, ne_eq]
theorem rr_bad {d : LedD} {x : EntD} {k : Nat} (hk : k < 7) (h : ∀ j, j < k → rr d x j = true) (hb : rr d x k = false) : postErr d x = ec k := by
  rw [postErr_eq]
  have g0 : 0 < k → r1 d x = true := fun hh => by have := h 0 hh; rwa [rr_0] at this
  have g1 : 1 < k → r2 d x = true := fun hh => by have := h 1 hh; rwa [rr_1] at this
  have g2 : 2 < k → r3 d x = true := fun hh => by have := h 2 hh; rwa [rr_2] at this
  have g3 : 3 < k → r4 d x = true := fun hh => by have := h 3 hh; rwa [rr_3] at this
  have g4 : 4 < k → r5 d x = true := fun hh => by have := h 4 hh; rwa [rr_4] at this
  have g5 : 5 < k → r6 d x = true := fun hh => by have := h 5 hh; rwa [rr_5] at this
  rcases k with _ | _ | _ | _ | _ | _ | _ | k
  · have e : r1 d x = false := by rw [← rr_0]; exact hb
    simp [e, ec]
  · have e : r2 d x = false := by rw [← rr_1]; exact hb
    simp [e, g0, ec]
  · have e : r3 d x = false := by rw [← rr_2]; exact hb
    simp [e, g0, g1, ec]
  · have e : r4 d x = false := by rw [← rr_3]; exact hb
    simp [e, g0, g1, g2, ec]
  · have e : r5 d x = false := by rw [← rr_4]; exact hb
    simp [e, g0, g1, g2, g3, ec]
  · have e : r6 d x = false := by rw [← rr_5]; exact hb
    simp [e, g0, g1, g2, g3, g4, ec]
  · have e : r7 d x = false := by rw [← rr_6]; exact hb
    simp [e, g0, g1, g2, g3, g4, g5, ec]
  · omega
theorem rr_good {d : LedD} {x : EntD} (h : ∀ j, j < 7 → rr d x j = true) : postErr d x = 0 := by
  rw [postErr_eq]
  have g0 : r1 d x = true := by have := h 0 (by omega); rwa [rr_0] at this
  have g1 : r2 d x = true := by have := h 1 (by omega); rwa [rr_1] at this
  have g2 : r3 d x = true := by have := h 2 (by omega); rwa [rr_2] at this
  have g3 : r4 d x = true := by have := h 3 (by omega); rwa [rr_3] at this
  have g4 : r5 d x = true := by have := h 4 (by omega); rwa [rr_4] at this
  have g5 : r6 d x = true := by have := h 5 (by omega); rwa [rr_5] at this
  have g6 : r7 d x = true := by have := h 6 (by omega); rwa [rr_6] at this
  simp [g0, g1, g2, g3, g4, g5, g6]
theorem rr_next {d : LedD} {x : EntD} {k : Nat} (h : ∀ j, j < k → rr d x j = true) (hb : rr d x k = true) : ∀ j, j < k + 1 → rr d x j = true := fun j hj => by
  rcases Nat.lt_or_ge j k with h1 | h1
  · exact h j h1
  · obtain rfl : j = k := by omega
    exact hb

abbrev fnV (f : Nat) : Value := .func (.func f) #[] #[]
def ruleC : Array Value := #[fnV 96, .int .i64 2, fnV 97, .int .i64 1, fnV 98, .int .i64 140, fnV 99, .int .i64 6, fnV 100, .int .i64 12, fnV 101, .int .i64 11, fnV 102, .int .i64 9]
theorem rules_any (w : World) : Calls Try.prog 72 #[] w fun e w' => ∃ rb, e = .returned (.slice (some ⟨rb, 0, none⟩) 7 7) ∧ Blk w' rb ruleC 142 ∧ Ext w w' := by
  go_enter Try.func72, Try.ntmps72
  go_wp2
  go_ret
  exact ⟨_, rfl, heap_alloc_new w _, ext_lit w _ _⟩

def ruleF (k : Nat) : Nat := [96, 97, 98, 99, 100, 101, 102].getD k 0
theorem seven {k : Nat} (hk : k < 7) : k = 0 ∨ k = 1 ∨ k = 2 ∨ k = 3 ∨ k = 4 ∨ k = 5 ∨ k = 6 := by omega
theorem ruleF_enter {k : Nat} (hk : k < 7) (a : Array Value) (w : World) : (callFunc (ruleF k) a).run Try.prog w = .ok (.enter (ruleF k) a) w := by
  rcases seven hk with rfl | rfl | rfl | rfl | rfl | rfl | rfl <;> (unfold ruleF; simp [go_sem])
theorem ruleC_get {k : Nat} (hk : k < 7) : ruleC[k * 2]? = some (fnV (ruleF k)) ∧ ruleC[k * 2 + 1]? = some (.int .i64 (ec k)) := by
  rcases seven hk with rfl | rfl | rfl | rfl | rfl | rfl | rfl <;> exact ⟨rfl, rfl⟩
theorem rule_any {B lb : Nat} {d : LedD} {m : LMem} {x : EntD} {w : World} {k : Nat} (hk : k < 7) (h : LSt w B lb d m) (ok : LedOk d) (hp : ∀ j, j < k → rr d x j = true) :
    Calls Try.prog (ruleF k) #[.pointer (some ⟨lb, 0, none⟩), entV x] w (RulePost w (rr d x k)) := by
  have hn := ok.n1
  unfold LedD.n at hn
  have hl := ok.len
  have h2 : 1 < k → r2 d x = true := fun hh => by have := hp 1 hh; rwa [rr_1] at this
  rcases seven hk with rfl | rfl | rfl | rfl | rfl | rfl | rfl
  · rw [rr_0]; exact rule1_any h hl
  · rw [rr_1]; exact rule2_any h (by omega)
  · rw [rr_2]; exact rule3_any h (by omega) (h2 (by omega))
  · rw [rr_3]; exact rule4_any h
  · rw [rr_4]; exact rule5_any h
  · rw [rr_5]; exact rule6_any h hl
  · rw [rr_6]; exact rule7_any h (by omega) (h2 (by omega))
end Go.Proofs.Ytekplfbfkfiabaa
