/- RegisterDesks: the reference's check of a loop, and its new desk. -/
import Derived.Test.YtafnadaahnkcmaaDk5
import Derived.Test.YtafnadaahnkcmaaRef
namespace Go.Proofs.Ytafnadaahnkcmaa
open Go.RowKit
set_option linter.unusedVariables false
set_option linter.unusedSimpArgs false

set_option maxRecDepth 100000 in
set_option maxHeartbeats 2000000 in
theorem refCheck_any (l : Loop) (w : World) (h1 : I64 l.dead) (h2 : I64 l.noise) (h3 : I64 l.blur) (h4 : I64 l.step) :
    Calls Try.prog 45 #[l.val] w fun e w' => e = .returned (.int .i64 l.err) ∧ Ext w w' := by
  obtain ⟨d, n, b, s⟩ := l
  unfold Loop.val
  dsimp only at h1 h2 h3 h4 ⊢
  unfold I64 at h1 h2 h3 h4
  have key : ∀ v, v = (⟨d, n, b, s⟩ : Loop).err → Calls Try.prog 45 #[.agg #[.int .i64 d, .int .i64 n, .int .i64 b, .int .i64 s]] w (fun e w' => e = .returned (.int .i64 v) ∧ Ext w w') →
      Calls Try.prog 45 #[.agg #[.int .i64 d, .int .i64 n, .int .i64 b, .int .i64 s]] w (fun e w' => e = .returned (.int .i64 (⟨d, n, b, s⟩ : Loop).err) ∧ Ext w w') := fun v hv h => by rw [← hv]; exact h
  by_cases c0 : d < 0
  · refine key 60 (by simp [Loop.err, Loop.Ok]; omega) ?_
    have f0 : decide (d < 0) = true := decide_eq_true (by omega)
    clear h1 h2 h3 h4 key
    go_enter Try.func45, Try.ntmps45
    go_wp2
    all_goals (go_ret; exact ⟨rfl, (Below.refl _ _).alloc (Nat.le_refl _) _⟩)
  by_cases c1 : 20 < d
  · refine key 60 (by simp [Loop.err, Loop.Ok]; omega) ?_
    have f0 : decide (d < 0) = false := decide_eq_false (by omega)
    have f1 : decide (20 < d) = true := decide_eq_true (by omega)
    clear h1 h2 h3 h4 key
    go_enter Try.func45, Try.ntmps45
    go_wp2
    all_goals (go_ret; exact ⟨rfl, (Below.refl _ _).alloc (Nat.le_refl _) _⟩)
  by_cases c2 : n < 0
  · refine key 60 (by simp [Loop.err, Loop.Ok]; omega) ?_
    have f0 : decide (d < 0) = false := decide_eq_false (by omega)
    have f1 : decide (20 < d) = false := decide_eq_false (by omega)
    have f2 : decide (n < 0) = true := decide_eq_true (by omega)
    clear h1 h2 h3 h4 key
    go_enter Try.func45, Try.ntmps45
    go_wp2
    all_goals (go_ret; exact ⟨rfl, (Below.refl _ _).alloc (Nat.le_refl _) _⟩)
  by_cases c3 : 1000 < n
  · refine key 60 (by simp [Loop.err, Loop.Ok]; omega) ?_
    have f0 : decide (d < 0) = false := decide_eq_false (by omega)
    have f1 : decide (20 < d) = false := decide_eq_false (by omega)
    have f2 : decide (n < 0) = false := decide_eq_false (by omega)
    have f3 : decide (1000 < n) = true := decide_eq_true (by omega)
    clear h1 h2 h3 h4 key
    go_enter Try.func45, Try.ntmps45
    go_wp2
    all_goals (go_ret; exact ⟨rfl, (Below.refl _ _).alloc (Nat.le_refl _) _⟩)
  by_cases c4 : b < 0
  · refine key 60 (by simp [Loop.err, Loop.Ok]; omega) ?_
    have f0 : decide (d < 0) = false := decide_eq_false (by omega)
    have f1 : decide (20 < d) = false := decide_eq_false (by omega)
    have f2 : decide (n < 0) = false := decide_eq_false (by omega)
    have f3 : decide (1000 < n) = false := decide_eq_false (by omega)
    have f4 : decide (b < 0) = true := decide_eq_true (by omega)
    clear h1 h2 h3 h4 key
    go_enter Try.func45, Try.ntmps45
    go_wp2
    all_goals (go_ret; exact ⟨rfl, (Below.refl _ _).alloc (Nat.le_refl _) _⟩)
  by_cases c5 : 1000 < b
  · refine key 60 (by simp [Loop.err, Loop.Ok]; omega) ?_
    have f0 : decide (d < 0) = false := decide_eq_false (by omega)
    have f1 : decide (20 < d) = false := decide_eq_false (by omega)
    have f2 : decide (n < 0) = false := decide_eq_false (by omega)
    have f3 : decide (1000 < n) = false := decide_eq_false (by omega)
    have f4 : decide (b < 0) = false := decide_eq_false (by omega)
    have f5 : decide (1000 < b) = true := decide_eq_true (by omega)
    clear h1 h2 h3 h4 key
    go_enter Try.func45, Try.ntmps45
    go_wp2
    all_goals (go_ret; exact ⟨rfl, (Below.refl _ _).alloc (Nat.le_refl _) _⟩)
  by_cases c6 : s < 1
  · refine key 60 (by simp [Loop.err, Loop.Ok]; omega) ?_
    have f0 : decide (d < 0) = false := decide_eq_false (by omega)
    have f1 : decide (20 < d) = false := decide_eq_false (by omega)
    have f2 : decide (n < 0) = false := decide_eq_false (by omega)
    have f3 : decide (1000 < n) = false := decide_eq_false (by omega)
    have f4 : decide (b < 0) = false := decide_eq_false (by omega)
    have f5 : decide (1000 < b) = false := decide_eq_false (by omega)
    have f6 : decide (s < 1) = true := decide_eq_true (by omega)
    clear h1 h2 h3 h4 key
    go_enter Try.func45, Try.ntmps45
    go_wp2
    all_goals (go_ret; exact ⟨rfl, (Below.refl _ _).alloc (Nat.le_refl _) _⟩)
  by_cases c7 : 10000 < s
  · refine key 60 (by simp [Loop.err, Loop.Ok]; omega) ?_
    have f0 : decide (d < 0) = false := decide_eq_false (by omega)
    have f1 : decide (20 < d) = false := decide_eq_false (by omega)
    have f2 : decide (n < 0) = false := decide_eq_false (by omega)
    have f3 : decide (1000 < n) = false := decide_eq_false (by omega)
    have f4 : decide (b < 0) = false := decide_eq_false (by omega)
    have f5 : decide (1000 < b) = false := decide_eq_false (by omega)
    have f6 : decide (s < 1) = false := decide_eq_false (by omega)
    have f7 : decide (10000 < s) = true := decide_eq_true (by omega)
    clear h1 h2 h3 h4 key
    go_enter Try.func45, Try.ntmps45
    go_wp2
    all_goals (go_ret; exact ⟨rfl, (Below.refl _ _).alloc (Nat.le_refl _) _⟩)
  by_cases c8 : s < n + b + b
  · refine key 60 (by simp [Loop.err, Loop.Ok]; omega) ?_
    have e1 : IntKind.i64.wrap (n + b) = n + b := i64_eq _ (by omega)
    have e2 : IntKind.i64.wrap (n + b + b) = n + b + b := i64_eq _ (by omega)
    have f0 : decide (d < 0) = false := decide_eq_false (by omega)
    have f1 : decide (20 < d) = false := decide_eq_false (by omega)
    have f2 : decide (n < 0) = false := decide_eq_false (by omega)
    have f3 : decide (1000 < n) = false := decide_eq_false (by omega)
    have f4 : decide (b < 0) = false := decide_eq_false (by omega)
    have f5 : decide (1000 < b) = false := decide_eq_false (by omega)
    have f6 : decide (s < 1) = false := decide_eq_false (by omega)
    have f7 : decide (10000 < s) = false := decide_eq_false (by omega)
    have f8 : decide (s < n + b + b) = true := decide_eq_true (by omega)
    clear h1 h2 h3 h4 key
    go_enter Try.func45, Try.ntmps45
    go_wp2
    all_goals (go_ret; exact ⟨rfl, (Below.refl _ _).alloc (Nat.le_refl _) _⟩)
  refine key 0 (by simp [Loop.err, Loop.Ok]; omega) ?_
  have e1 : IntKind.i64.wrap (n + b) = n + b := i64_eq _ (by omega)
  have e2 : IntKind.i64.wrap (n + b + b) = n + b + b := i64_eq _ (by omega)
  have f0 : decide (d < 0) = false := decide_eq_false (by omega)
  have f1 : decide (20 < d) = false := decide_eq_false (by omega)
  have f2 : decide (n < 0) = false := decide_eq_false (by omega)
  have f3 : decide (1000 < n) = false := decide_eq_false (by omega)
  have f4 : decide (b < 0) = false := decide_eq_false (by omega)
  have f5 : decide (1000 < b) = false := decide_eq_false (by omega)
  have f6 : decide (s < 1) = false := decide_eq_false (by omega)
  have f7 : decide (10000 < s) = false := decide_eq_false (by omega)
  have f8 : decide (s < n + b + b) = false := decide_eq_false (by omega)
  clear h1 h2 h3 h4 key
  go_enter Try.func45, Try.ntmps45
  go_wp2
  all_goals (go_ret; exact ⟨rfl, (Below.refl _ _).alloc (Nat.le_refl _) _⟩)
end Go.Proofs.Ytafnadaahnkcmaa
