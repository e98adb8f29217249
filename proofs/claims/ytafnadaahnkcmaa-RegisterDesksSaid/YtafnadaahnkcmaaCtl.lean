/- The maths of a loop with dead time. -/
import Derived.Test.YtafnadaahnkcmaaPlay2
import Derived.Test.YtafnadaahnkcmaaSettle
namespace Go.Proofs.Ytafnadaahnkcmaa
open Go.RowKit
set_option linter.unusedVariables false

section
variable (s e0 : Int) (D : Nat) (nz bl : Nat → Int)

/-- The error, the moves under way, the error to come. -/
def eT (k : Nat) : Int := (plSt s e0 D nz bl k).1
def qT (k : Nat) : List Int := (plSt s e0 D nz bl k).2
def pT (k : Nat) : Int := eT s e0 D nz bl k + sumL (qT s e0 D nz bl k)

theorem sumL_cons (x : Int) (l : List Int) : sumL (x :: l) = x + sumL l := by
  have h : ∀ (l : List Int) (a : Int), l.foldl (· + ·) a = a + l.foldl (· + ·) 0 := by
    intro l
    induction l with
    | nil => intro a; simp
    | cons y l ih => intro a; simp only [List.foldl_cons]; rw [ih (a + y), ih (0 + y)]; omega
  unfold sumL; simp only [List.foldl_cons]; rw [h]; omega
theorem sumL_app (l m : List Int) : sumL (l ++ m) = sumL l + sumL m := by
  induction l with
  | nil => simp [sumL]
  | cons x l ih => rw [List.cons_append, sumL_cons, sumL_cons, ih]; omega
theorem sumL_rep (n : Nat) : sumL (List.replicate n 0) = 0 := by
  induction n with
  | zero => rfl
  | succ n ih => rw [List.replicate_succ, sumL_cons, ih]; omega
theorem hd_tl (q : List Int) (u : Int) : hdQ q u + sumL (tlQ q u) = sumL q + u := by
  have h : q ++ [u] = hdQ q u :: tlQ q u := hdtl q u
  have h2 := congrArg sumL h
  rw [sumL_app, sumL_cons, sumL_cons] at h2
  have : sumL [] = 0 := rfl
  omega

theorem qT_len (k : Nat) : (qT s e0 D nz bl k).length = D := by
  induction k with
  | zero => simp [qT, plSt]
  | succ k ih =>
    unfold qT at ih ⊢
    simp only [plSt]
    have h := congrArg List.length (hdtl (plSt s e0 D nz bl k).2 (clamp s (-((plSt s e0 D nz bl k).1 + bl k + sumL (plSt s e0 D nz bl k).2))))
    simp at h
    omega

theorem pT_zero : pT s e0 D nz bl 0 = e0 := by
  simp [pT, eT, qT, plSt, sumL_rep]
theorem pT_succ (k : Nat) : pT s e0 D nz bl (k + 1) = pT s e0 D nz bl k + clamp s (-(pT s e0 D nz bl k + bl k)) + nz k := by
  have h := hd_tl (qT s e0 D nz bl k) (clamp s (-(eT s e0 D nz bl k + bl k + sumL (qT s e0 D nz bl k))))
  have he : -(pT s e0 D nz bl k + bl k) = -(eT s e0 D nz bl k + bl k + sumL (qT s e0 D nz bl k)) := by unfold pT; omega
  rw [he]
  unfold pT eT qT at *
  simp only [plSt]
  omega

variable {s e0 D nz bl}

/-- Where the loop holds the error to come, it goes on to hold it. -/
theorem pT_in {N B : Int} (hN : 0 ≤ N) (hB : 0 ≤ B) (hs : N + 2 * B ≤ s) (hnz : ∀ k, -N ≤ nz k ∧ nz k ≤ N) (hbl : ∀ k, -B ≤ bl k ∧ bl k ≤ B) (k : Nat) (h : -s ≤ pT s e0 D nz bl k + bl k ∧ pT s e0 D nz bl k + bl k ≤ s) : -(N + B) ≤ pT s e0 D nz bl (k + 1) ∧ pT s e0 D nz bl (k + 1) ≤ N + B := by
  rw [pT_succ]
  have h1 := hnz k
  have h2 := hbl k
  unfold clamp
  omega
/-- How the error to come falls. -/
theorem pT_fall {N B : Int} (hN : 0 ≤ N) (hB : 0 ≤ B) (hs : N + 2 * B ≤ s) (hnz : ∀ k, -N ≤ nz k ∧ nz k ≤ N) (hbl : ∀ k, -B ≤ bl k ∧ bl k ≤ B) (k : Nat) (m : Int) (hm : s - B ≤ m) (h : -m ≤ pT s e0 D nz bl k ∧ pT s e0 D nz bl k ≤ m) :
    -(max (m - (s - N)) (s - B)) ≤ pT s e0 D nz bl (k + 1) ∧ pT s e0 D nz bl (k + 1) ≤ max (m - (s - N)) (s - B) := by
  rw [pT_succ]
  have h1 := hnz k
  have h2 := hbl k
  unfold clamp
  omega
theorem pT_bd {N B : Int} (hN : 0 ≤ N) (hB : 0 ≤ B) (hs : N + 2 * B ≤ s) (hnz : ∀ k, -N ≤ nz k ∧ nz k ≤ N) (hbl : ∀ k, -B ≤ bl k ∧ bl k ≤ B) (k : Nat) : -(max (max e0 (-e0) - k * (s - N)) (s - B)) ≤ pT s e0 D nz bl k ∧ pT s e0 D nz bl k ≤ max (max e0 (-e0) - k * (s - N)) (s - B) := by
  induction k with
  | zero => rw [pT_zero]; simp; omega
  | succ k ih =>
    have h := pT_fall hN hB hs hnz hbl k (max (max e0 (-e0) - k * (s - N)) (s - B)) (by omega) ih
    have e1 : ((k + 1 : Nat) : Int) * (s - N) = k * (s - N) + (s - N) := by rw [Int.natCast_add, Int.add_mul]; simp
    rw [e1]
    generalize (k : Int) * (s - N) = z at *
    omega
/-- What is under way comes. -/
theorem eT_later {N B : Int} (hN : 0 ≤ N) (hB : 0 ≤ B) (hs : N + 2 * B ≤ s) (hnz : ∀ k, -N ≤ nz k ∧ nz k ≤ N) (hbl : ∀ k, -B ≤ bl k ∧ bl k ≤ B) (k j : Nat) (hj : j ≤ D) : ∃ new, qT s e0 D nz bl (k + j) = (qT s e0 D nz bl k).drop j ++ new ∧
    -(j * N) ≤ eT s e0 D nz bl (k + j) - eT s e0 D nz bl k - sumL ((qT s e0 D nz bl k).take j) ∧ eT s e0 D nz bl (k + j) - eT s e0 D nz bl k - sumL ((qT s e0 D nz bl k).take j) ≤ j * N := by
  induction j with
  | zero => exact ⟨[], by simp, by simp [sumL], by simp [sumL]⟩
  | succ j ih =>
    obtain ⟨new, h1, h2, h3⟩ := ih (by omega)
    have hl := qT_len s e0 D nz bl k
    have hlt : j < (qT s e0 D nz bl k).length := by omega
    have hd : (qT s e0 D nz bl k).drop j = (qT s e0 D nz bl k)[j] :: (qT s e0 D nz bl k).drop (j + 1) := List.drop_eq_getElem_cons hlt
    have hsn := sumL_snoc (qT s e0 D nz bl k) j hlt
    have hq : ∀ u, qT s e0 D nz bl (k + j) ++ [u] = (qT s e0 D nz bl k)[j] :: ((qT s e0 D nz bl k).drop (j + 1) ++ (new ++ [u])) := fun u => by
      rw [h1, hd, List.append_assoc, List.cons_append]
    have hstep : ∀ u, hdQ (qT s e0 D nz bl (k + j)) u = (qT s e0 D nz bl k)[j] ∧ tlQ (qT s e0 D nz bl (k + j)) u = (qT s e0 D nz bl k).drop (j + 1) ++ (new ++ [u]) := fun u => by
      have h4 : qT s e0 D nz bl (k + j) ++ [u] = hdQ (qT s e0 D nz bl (k + j)) u :: tlQ (qT s e0 D nz bl (k + j)) u := hdtl _ u
      rw [hq u] at h4
      injection h4 with h5 h6
      exact ⟨h5.symm, h6.symm⟩
    obtain ⟨u, hu⟩ : ∃ u, u = clamp s (-(eT s e0 D nz bl (k + j) + bl (k + j) + sumL (qT s e0 D nz bl (k + j)))) := ⟨_, rfl⟩
    have hE : eT s e0 D nz bl (k + (j + 1)) = eT s e0 D nz bl (k + j) + (hdQ (qT s e0 D nz bl (k + j)) u + nz (k + j)) := by rw [hu]; rfl
    have hQ : qT s e0 D nz bl (k + (j + 1)) = tlQ (qT s e0 D nz bl (k + j)) u := by rw [hu]; rfl
    refine ⟨new ++ [u], by rw [hQ, (hstep u).2], ?_⟩
    rw [hE, (hstep u).1, hsn]
    have e1 : ((j + 1 : Nat) : Int) * N = j * N + N := by rw [Int.natCast_add, Int.add_mul]; simp
    rw [e1]
    have h7 := hnz (k + j)
    generalize (j : Int) * N = z at *
    omega
theorem eT_dead {N B : Int} (hN : 0 ≤ N) (hB : 0 ≤ B) (hs : N + 2 * B ≤ s) (hnz : ∀ k, -N ≤ nz k ∧ nz k ≤ N) (hbl : ∀ k, -B ≤ bl k ∧ bl k ≤ B) (k : Nat) : -(D * N) ≤ eT s e0 D nz bl (k + D) - pT s e0 D nz bl k ∧ eT s e0 D nz bl (k + D) - pT s e0 D nz bl k ≤ D * N := by
  obtain ⟨new, h1, h2⟩ := eT_later (e0 := e0) (D := D) hN hB hs hnz hbl k D (Nat.le_refl D)
  rw [List.take_of_length_le (by rw [qT_len]; omega)] at h2
  unfold pT
  omega

/-- THE LOOP HOLDS: after m copies the error to come is caught, and Dead + 1 copies later the error is. -/
theorem loop_holds {N B : Int} (hN : 0 ≤ N) (hB : 0 ≤ B) (hs : N + 2 * B ≤ s) (hnz : ∀ k, -N ≤ nz k ∧ nz k ≤ N) (hbl : ∀ k, -B ≤ bl k ∧ bl k ≤ B) (m : Nat) (hm : max e0 (-e0) - m * (s - N) ≤ s - B) (t : Nat) (ht : m + 1 + D ≤ t) :
    -((D + 1) * N + B) ≤ eT s e0 D nz bl t ∧ eT s e0 D nz bl t ≤ (D + 1) * N + B := by
  obtain ⟨k, rfl⟩ : ∃ k, t = (k + 1) + D := ⟨t - 1 - D, by omega⟩
  have h1 := pT_bd (e0 := e0) (D := D) hN hB hs hnz hbl k
  have hle : (m : Int) * (s - N) ≤ k * (s - N) := Int.mul_le_mul_of_nonneg_right (by omega) (by omega)
  have h2 := hbl k
  have h3 := pT_in (e0 := e0) (D := D) hN hB hs hnz hbl k (by
    generalize (m : Int) * (s - N) = z at *
    generalize (k : Int) * (s - N) = z' at *
    omega)
  have h4 := eT_dead (e0 := e0) (D := D) hN hB hs hnz hbl (k + 1)
  have e1 : ((D : Int) + 1) * N = D * N + N := by rw [Int.add_mul]; simp
  rw [e1]
  generalize (D : Int) * N = z at *
  omega
end
end Go.Proofs.Ytafnadaahnkcmaa
