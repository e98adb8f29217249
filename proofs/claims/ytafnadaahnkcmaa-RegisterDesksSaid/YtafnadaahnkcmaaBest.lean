/- The best shift, in the reference's order and in the program's. -/
import Derived.Test.YtafnadaahnkcmaaMatch
namespace Go.Proofs.Ytafnadaahnkcmaa
open Go.RowKit
set_option linter.unusedVariables false

/-- One step of the reference. -/
def rTake (f : Int → Int) (b : Int × Int) (s : Int) : Prop :=
  b.2 < f s ∨ f s = b.2 ∧ (max s (-s) < max b.1 (-b.1) ∨ max s (-s) = max b.1 (-b.1) ∧ b.1 < s)
instance (f : Int → Int) (b : Int × Int) (s : Int) : Decidable (rTake f b s) := by unfold rTake; infer_instance
def rBest (f : Int → Int) : Nat → Int × Int
  | 0 => (0, -1)
  | k + 1 => if rTake f (rBest f k) (-2000 + k) then (-2000 + k, f (-2000 + k)) else rBest f k

/-- b is best of those that P names. -/
def IsBest (f : Int → Int) (P : Int → Prop) (b : Int × Int) : Prop :=
  P b.1 ∧ b.2 = f b.1 ∧ ∀ s, P s → f s < b.2 ∨ f s = b.2 ∧ (max b.1 (-b.1) < max s (-s) ∨ max s (-s) = max b.1 (-b.1) ∧ s ≤ b.1)

theorem rBest_is (f : Int → Int) (hf : ∀ s, 0 ≤ f s) (k : Nat) : IsBest f (fun s => -2000 ≤ s ∧ s < -2000 + ((k + 1 : Nat) : Int)) (rBest f (k + 1)) := by
  induction k with
  | zero =>
    have h0 := hf (-2000)
    have : rBest f 1 = (-2000, f (-2000)) := by
      show (if rTake f (0, -1) (-2000 + ((0 : Nat) : Int)) then _ else _) = _
      rw [if_pos]
      · simp
      · unfold rTake; left; simp; omega
    rw [this]
    refine ⟨by simp, rfl, fun s hs => ?_⟩
    have : s = -2000 := by simp at hs; omega
    subst this
    right; simp
  | succ k ih =>
    obtain ⟨h1, h2, h3⟩ := ih
    show IsBest f _ (if rTake f (rBest f (k + 1)) (-2000 + ((k + 1 : Nat) : Int)) then (-2000 + ((k + 1 : Nat) : Int), f (-2000 + ((k + 1 : Nat) : Int))) else rBest f (k + 1))
    generalize rBest f (k + 1) = b at *
    obtain ⟨x, hx⟩ : ∃ x : Int, x = -2000 + ((k + 1 : Nat) : Int) := ⟨_, rfl⟩
    rw [← hx] at h1 h3 ⊢
    have hx2 : -2000 + ((k + 1 + 1 : Nat) : Int) = x + 1 := by omega
    rw [hx2]
    obtain ⟨bs, bc⟩ := b
    dsimp only at *
    by_cases ht : rTake f (bs, bc) x
    · rw [if_pos ht]
      unfold rTake at ht
      dsimp only at ht
      refine ⟨⟨by dsimp only; omega, by dsimp only; omega⟩, rfl, fun s hs => ?_⟩
      dsimp only at hs ⊢
      by_cases hs2 : s < x
      · have h4 := h3 s ⟨hs.1, hs2⟩
        generalize f s = fs at *
        generalize f x = fx at *
        omega
      · obtain rfl : s = x := by omega
        right; simp
    · rw [if_neg ht]
      unfold rTake at ht
      dsimp only at ht
      refine ⟨⟨h1.1, by have := h1.2; dsimp only at *; omega⟩, h2, fun s hs => ?_⟩
      dsimp only at hs ⊢
      by_cases hs2 : s < x
      · exact h3 s ⟨hs.1, hs2⟩
      · obtain rfl : s = x := by omega
        generalize f s = fs at *
        omega

/-- s comes ahead of x. -/
def Ahead (s x : Int) : Prop := max s (-s) < max x (-x) ∨ max s (-s) = max x (-x) ∧ x ≤ s
theorem bestS_is (f : Int → Int) (hf : ∀ s, 0 ≤ f s) (l : List Int) (hl : l ≠ [] → IsBest f (· ∈ l) (bestS f l)) (x : Int) (ha : ∀ s ∈ l, Ahead s x) : IsBest f (· ∈ l ++ [x]) (bestS f (l ++ [x])) := by
  rw [bestS_snoc]
  by_cases h0 : l = []
  · subst h0
    have h1 := hf x
    rw [bestS_nil, if_pos (by dsimp only; omega)]
    refine ⟨by simp, rfl, fun s hs => ?_⟩
    have : s = x := by simpa using hs
    subst this; right; simp
  · obtain ⟨h1, h2, h3⟩ := hl h0
    generalize bestS f l = b at *
    obtain ⟨bs, bc⟩ := b
    dsimp only at *
    have hb := ha bs h1
    unfold Ahead at hb
    by_cases ht : bc < f x
    · rw [if_pos ht]
      refine ⟨by simp, rfl, fun s hs => ?_⟩
      dsimp only
      rcases List.mem_append.1 hs with h | h
      · have := h3 s h
        generalize f s = fs at *
        generalize f x = fx at *
        omega
      · have : s = x := by simpa using h
        subst this; right; simp
    · rw [if_neg ht]
      refine ⟨List.mem_append.2 (.inl h1), h2, fun s hs => ?_⟩
      dsimp only
      rcases List.mem_append.1 hs with h | h
      · exact h3 s h
      · have : s = x := by simpa using h
        subst this
        generalize f s = fs at *
        omega
theorem shs_best (f : Int → Int) (hf : ∀ s, 0 ≤ f s) (k : Nat) (hk : 0 < k) : IsBest f (· ∈ shs k) (bestS f (shs k)) := by
  induction k with
  | zero => omega
  | succ k ih =>
    by_cases h0 : k = 0
    · subst h0
      exact bestS_is f hf [] (fun h => absurd rfl h) 0 (fun s hs => by cases hs)
    · rw [shs_succ k (by omega)]
      refine bestS_is f hf _ (fun _ => bestS_is f hf _ (fun _ => ih (by omega)) _ (fun s hs => ?_)) _ (fun s hs => ?_)
      · have := shs_bd k s hs
        unfold Ahead; omega
      · rcases List.mem_append.1 hs with h | h
        · have := shs_bd k s h
          unfold Ahead; omega
        · have : s = (k : Int) := by simpa using h
          subst this
          unfold Ahead; omega
theorem shs_mem (k : Nat) (x : Int) (h : -(k : Int) < x ∧ x < (k : Int)) : x ∈ shs k := by
  unfold shs
  refine List.mem_flatMap.2 ⟨x.natAbs, List.mem_range.2 (by omega), ?_⟩
  by_cases h0 : x.natAbs = 0
  · rw [if_pos h0]; simp; omega
  · rw [if_neg h0]; simp; omega
/-- BOTH ORDERS FIND THE SAME. -/
theorem best_same (f : Int → Int) (hf : ∀ s, 0 ≤ f s) : rBest f 4001 = bestS f (shs 2001) := by
  obtain ⟨a1, a2, a3⟩ := rBest_is f hf 4000
  obtain ⟨b1, b2, b3⟩ := shs_best f hf 2001 (by omega)
  generalize rBest f (4000 + 1) = x at *
  generalize bestS f (shs 2001) = y at *
  obtain ⟨xs, xc⟩ := x
  obtain ⟨ys, yc⟩ := y
  dsimp only at *
  have h1 := a3 ys (by have := shs_bd 2001 ys b1; omega)
  have h2 := b3 xs (shs_mem 2001 xs (by omega))
  generalize f ys = fy at *
  generalize f xs = fx at *
  have : xs = ys ∧ xc = yc := by omega
  rw [this.1, this.2]
end Go.Proofs.Ytafnadaahnkcmaa
