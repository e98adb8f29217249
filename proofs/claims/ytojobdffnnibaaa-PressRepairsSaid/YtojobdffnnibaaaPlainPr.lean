/- Printing, copy by copy and at once, in plain words. -/
import Derived.OpenShut
namespace Go.Proofs.Ytojobdffnnibaaa
set_option linter.unusedVariables false

/-- A span of waste: its cause, its first and its last copy. -/
structure SpanD where
  cause : Int
  lo : Int
  hi : Int

/-- How many of the first n copies are waste for the cold. -/
def wmN (W f n : Int) : Int := min (max (W - f) 0) n
/-- The spans of the first n copies, at once. -/
def spansN (W f D k n : Int) : List SpanD :=
  (if 0 < wmN W f n then [⟨1, 0, wmN W f n - 1⟩] else []) ++ (if max (wmN W f n) (D - k) < n then [⟨2, max (wmN W f n) (D - k), n - 1⟩] else [])
/-- The cause of copy n: k is how much the dirtiest pressed tower is inked, f how many copies are fresh. -/
def causeN (W f D k n : Int) : Int := if f + n < W then 1 else if D ≤ k + n then 2 else 0
/-- A copy more, as the reference has it. -/
def addSpan (l : List SpanD) (n c : Int) : List SpanD :=
  if c = 0 then l else
    match l.getLast? with
    | some x => if x.cause = c ∧ x.hi = n - 1 then l.dropLast ++ [⟨x.cause, x.lo, n⟩] else l ++ [⟨c, n, n⟩]
    | none => l ++ [⟨c, n, n⟩]

theorem addSpan_nil (n c : Int) (hc : c ≠ 0) : addSpan [] n c = [⟨c, n, n⟩] := by
  unfold addSpan; rw [if_neg hc]; rfl
theorem addSpan_same (l : List SpanD) (x : SpanD) (n : Int) (hc : x.cause ≠ 0) (h : x.hi = n - 1) : addSpan (l ++ [x]) n x.cause = l ++ [⟨x.cause, x.lo, n⟩] := by
  unfold addSpan; rw [if_neg hc]; simp [h]
theorem addSpan_new (l : List SpanD) (x : SpanD) (n c : Int) (hc : c ≠ 0) (h : ¬ (x.cause = c ∧ x.hi = n - 1)) : addSpan (l ++ [x]) n c = l ++ [x] ++ [⟨c, n, n⟩] := by
  unfold addSpan; rw [if_neg hc]; simp [h]

theorem spansN_zero (W f D k : Int) (hk : 0 ≤ k) : spansN W f D k 0 = [] := by
  unfold spansN wmN
  rw [if_neg (by omega), if_neg (by omega)]
  rfl
theorem spansN_succ (W f D k n : Int) (hn : 0 ≤ n) (hD : 0 ≤ D) : addSpan (spansN W f D k n) n (causeN W f D k n) = spansN W f D k (n + 1) := by
  unfold causeN
  by_cases h1 : f + n < W
  · -- all copies up to here are cold
    rw [if_pos h1]
    have e1 : wmN W f n = n := by unfold wmN; omega
    have e2 : wmN W f (n + 1) = n + 1 := by unfold wmN; omega
    unfold spansN
    rw [e1, e2, if_neg (show ¬ max n (D - k) < n by omega), if_neg (show ¬ max (n + 1) (D - k) < n + 1 by omega), List.append_nil, List.append_nil, if_pos (show (0:Int) < n + 1 by omega)]
    by_cases h0 : 0 < n
    · rw [if_pos h0]
      have := addSpan_same [] ⟨1, 0, n - 1⟩ n (by simp) rfl
      simp only [List.nil_append] at this
      rw [this, show n + 1 - 1 = n by omega]
    · obtain rfl : n = 0 := by omega
      rw [if_neg (by omega), addSpan_nil _ _ (by decide)]
      rfl
  · rw [if_neg h1]
    have e2 : wmN W f (n + 1) = wmN W f n := by unfold wmN; omega
    have e3 : wmN W f n ≤ n := by unfold wmN; omega
    obtain ⟨wm, hwm⟩ : ∃ wm, wm = wmN W f n := ⟨_, rfl⟩
    unfold spansN
    rw [e2, ← hwm]
    rw [← hwm] at e3
    by_cases h2 : D ≤ k + n
    · rw [if_pos h2, if_pos (show max wm (D - k) < n + 1 by omega)]
      by_cases h3 : max wm (D - k) < n
      · rw [if_pos h3]
        have := addSpan_same (if 0 < wm then [⟨1, 0, wm - 1⟩] else []) ⟨2, max wm (D - k), n - 1⟩ n (by simp) rfl
        rw [this, show n + 1 - 1 = n by omega]
      · rw [if_neg h3, List.append_nil]
        have e4 : max wm (D - k) = n := by omega
        rw [e4, show n + 1 - 1 = n by omega]
        by_cases h4 : 0 < wm
        · rw [if_pos h4]
          have := addSpan_new [] ⟨1, 0, wm - 1⟩ n 2 (by decide) (fun h => by have := h.1; simp at this)
          simp only [List.nil_append] at this
          exact this
        · rw [if_neg h4, addSpan_nil _ _ (by decide)]
          rfl
    · rw [if_neg h2, if_neg (show ¬ max wm (D - k) < n by omega), if_neg (show ¬ max wm (D - k) < n + 1 by omega)]
      unfold addSpan
      rw [if_pos rfl]
end Go.Proofs.Ytojobdffnnibaaa
