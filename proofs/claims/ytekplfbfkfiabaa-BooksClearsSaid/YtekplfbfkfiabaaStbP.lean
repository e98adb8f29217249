/- The library's stable sort, in plain words: swaps, turns, the merging of two parts, blocks. -/
import Derived.Test.YtekplfbfkfiabaaBkSort
namespace Go.Proofs.Ytekplfbfkfiabaa
open Go.RowKit
set_option linter.unusedVariables false
set_option linter.unusedSimpArgs false

/-- A strict order of all. -/
structure STO (lt : Int → Int → Prop) : Prop where
  irr : ∀ x, ¬ lt x x
  tr : ∀ {x y z}, lt x y → lt y z → lt x z
  tot : ∀ {x y}, x ≠ y → lt x y ∨ lt y x
theorem STO.le_lt {lt : Int → Int → Prop} (o : STO lt) {x y z : Int} (h : x = y ∨ lt x y) (k : lt y z) : lt x z := by
  rcases h with rfl | h
  · exact k
  · exact o.tr h k
theorem STO.lt_le {lt : Int → Int → Prop} (o : STO lt) {x y z : Int} (h : lt x y) (k : y = z ∨ lt y z) : lt x z := by
  rcases k with rfl | k
  · exact h
  · exact o.tr h k
theorem gI_left {A B : List Int} {t : Nat} (h : t < A.length) : gI (A ++ B) t = gI A t := by
  unfold gI; rw [List.getD_eq_getElem?_getD, List.getD_eq_getElem?_getD, List.getElem?_append_left h]
theorem gI_right {A B : List Int} {t : Nat} (h : A.length ≤ t) : gI (A ++ B) t = gI B (t - A.length) := by
  unfold gI; rw [List.getD_eq_getElem?_getD, List.getD_eq_getElem?_getD, List.getElem?_append_right h]
theorem gI_zero (x : Int) (A : List Int) : gI (x :: A) 0 = x := rfl
theorem gI_succ (x : Int) (A : List Int) (t : Nat) : gI (x :: A) (t + 1) = gI A t := by unfold gI; simp
def swap2 (xs : List Int) (p q : Nat) : List Int := (xs.set p (gI xs q)).set q (gI xs p)
theorem swap2_len (xs : List Int) (p q : Nat) : (swap2 xs p q).length = xs.length := by simp [swap2]
theorem swap2_comm (xs : List Int) {p q : Nat} (h : p ≠ q) : swap2 xs p q = swap2 xs q p := by
  unfold swap2; rw [List.set_comm _ _ h]
theorem swap2_app (P Q R : List Int) (x y : Int) : swap2 (P ++ (x :: (Q ++ (y :: R)))) P.length (P.length + 1 + Q.length) = P ++ (y :: (Q ++ (x :: R))) := by
  unfold swap2
  rw [gI_right (Nat.le_refl _), Nat.sub_self, gI_zero, gI_right (by omega), show P.length + 1 + Q.length - P.length = Q.length + 1 by omega, gI_succ, gI_right (Nat.le_refl _), Nat.sub_self, gI_zero]
  rw [List.set_append_right _ _ (Nat.le_refl _), Nat.sub_self, List.set_cons_zero, List.set_append_right _ _ (by omega), show P.length + 1 + Q.length - P.length = Q.length + 1 by omega, List.set_cons_succ, List.set_append_right _ _ (Nat.le_refl _), Nat.sub_self, List.set_cons_zero]
theorem swap2_next (P R : List Int) (x y : Int) : swap2 (P ++ (x :: y :: R)) P.length (P.length + 1) = P ++ (y :: x :: R) := swap2_app P [] R x y
def swF : Nat → Nat → Nat → List Int → List Int
  | 0, _, _, xs => xs
  | n + 1, a, b, xs => swF n (a + 1) (b + 1) (swap2 xs a b)
theorem swF_app : ∀ (A B P Q R : List Int), A.length = B.length → swF A.length P.length (P.length + A.length + Q.length) (P ++ (A ++ (Q ++ (B ++ R)))) = P ++ (B ++ (Q ++ (A ++ R)))
  | [], [], P, Q, R, _ => rfl
  | x :: A, y :: B, P, Q, R, h => by
    have hl : A.length = B.length := by simpa using h
    have h1 := swap2_app P (A ++ Q) (B ++ R) x y
    have h2 := swF_app A B (P ++ [y]) (Q ++ [x]) R hl
    show swF A.length (P.length + 1) (P.length + (A.length + 1) + Q.length + 1) (swap2 _ P.length (P.length + (A.length + 1) + Q.length)) = _
    rw [show P.length + (A.length + 1) + Q.length = P.length + 1 + (A ++ Q).length by rw [List.length_append]; omega]
    rw [show P ++ (x :: A ++ (Q ++ (y :: B ++ R))) = P ++ (x :: ((A ++ Q) ++ (y :: (B ++ R)))) by simp, h1]
    rw [show P ++ (y :: ((A ++ Q) ++ (x :: (B ++ R)))) = (P ++ [y]) ++ (A ++ ((Q ++ [x]) ++ (B ++ R))) by simp]
    have e1 : P.length + 1 = (P ++ [y]).length := by simp
    have e2 : P.length + 1 + (A ++ Q).length + 1 = (P ++ [y]).length + A.length + (Q ++ [x]).length := by simp; omega
    rw [e2, e1, h2]
    simp
def upF : Nat → Nat → List Int → List Int
  | 0, _, xs => xs
  | n + 1, k, xs => upF n (k + 1) (swap2 xs k (k + 1))
theorem upF_app (x : Int) : ∀ (A P R : List Int), upF A.length P.length (P ++ (x :: (A ++ R))) = P ++ (A ++ (x :: R))
  | [], P, R => rfl
  | y :: A, P, R => by
    show upF A.length (P.length + 1) (swap2 (P ++ (x :: y :: (A ++ R))) P.length (P.length + 1)) = _
    rw [swap2_next]
    have h := upF_app x A (P ++ [y]) R
    rw [show (P ++ [y]).length = P.length + 1 by simp] at h
    rw [show P ++ (y :: x :: (A ++ R)) = P ++ [y] ++ (x :: (A ++ R)) by simp, h]
    simp
def dnF : Nat → Nat → List Int → List Int
  | 0, _, xs => xs
  | n + 1, k, xs => dnF n (k - 1) (swap2 xs k (k - 1))
theorem dnF_app (y : Int) (P : List Int) : ∀ (n : Nat) (A R : List Int), A.length = n → dnF n (P.length + n) (P ++ (A ++ (y :: R))) = P ++ (y :: (A ++ R))
  | 0, A, R, h => by
    have : A = [] := List.eq_nil_of_length_eq_zero h
    subst this; rfl
  | n + 1, A, R, h => by
    have hne : A ≠ [] := by intro h0; rw [h0] at h; cases h
    obtain ⟨B, z, rfl⟩ : ∃ B z, A = B ++ [z] := ⟨A.dropLast, A.getLast hne, (List.dropLast_concat_getLast hne).symm⟩
    have hB : B.length = n := by simpa using h
    show dnF n (P.length + (n + 1) - 1) (swap2 _ (P.length + (n + 1)) (P.length + (n + 1) - 1)) = _
    rw [show P.length + (n + 1) - 1 = P.length + n by omega]
    have h1 := swap2_next (P ++ B) R z y
    rw [swap2_comm _ (by omega), List.length_append, hB] at h1
    rw [show P ++ (B ++ [z] ++ (y :: R)) = P ++ B ++ (z :: y :: R) by simp, show P.length + (n + 1) = P.length + n + 1 by omega, h1]
    rw [show P ++ B ++ (y :: z :: R) = P ++ (B ++ (y :: (z :: R))) by simp, dnF_app y P n B (z :: R) hB]
    simp

/-- Two parts that are to be merged. -/
structure SymIn (cmp : Int → Int → Int) (lt : Int → Int → Prop) (L R : List Int) : Prop where
  sl : L.Pairwise lt
  sr : R.Pairwise lt
  x : ∀ x ∈ L, ∀ y ∈ R, x ≠ y ∧ (cmp y x < 0 ↔ lt y x)
section
variable {cmp : Int → Int → Int} {lt : Int → Int → Prop} {L R : List Int} {u v : Nat}
theorem pw_le (hs : L.Pairwise lt) {i j : Nat} (hi : i ≤ j) (hj : j < L.length) : L[i] = L[j] ∨ lt L[i] L[j] := by
  rcases Nat.lt_or_eq_of_le hi with h | h
  · exact .inr (List.pairwise_iff_getElem.1 hs i j (by omega) hj h)
  · subst h; exact .inl rfl
theorem SymIn.cutL (o : STO lt) (h : SymIn cmp lt L R) (hu : u ≤ L.length) (hb : 0 < u → v < R.length → ¬ cmp (gI R v) (gI L (u - 1)) < 0) : ∀ x ∈ L.take u, ∀ y ∈ R.drop v, lt x y := by
  intro x hx y hy
  obtain ⟨i, hi, rfl⟩ := List.getElem_of_mem hx
  obtain ⟨j, hj, rfl⟩ := List.getElem_of_mem hy
  rw [List.length_take] at hi
  rw [List.length_drop] at hj
  rw [List.getElem_take, List.getElem_drop]
  have hb2 := hb (by omega) (by omega)
  rw [gI_get (show v < R.length by omega), gI_get (show u - 1 < L.length by omega)] at hb2
  obtain ⟨c1, c2⟩ := h.x _ (List.getElem_mem (show u - 1 < L.length by omega)) _ (List.getElem_mem (show v < R.length by omega))
  have h0 : lt (L[u - 1]'(by omega)) (R[v]'(by omega)) := (o.tot c1).resolve_right (fun hh => hb2 (c2.2 hh))
  have h1 := pw_le h.sl (show i ≤ u - 1 by omega) (by omega)
  have h2 := pw_le h.sr (show v ≤ v + j by omega) (by omega)
  exact o.lt_le (o.le_lt h1 h0) h2
theorem SymIn.cutR (o : STO lt) (h : SymIn cmp lt L R) (hv : v ≤ R.length) (hb : u < L.length → 0 < v → cmp (gI R (v - 1)) (gI L u) < 0) : ∀ y ∈ R.take v, ∀ x ∈ L.drop u, lt y x := by
  intro y hy x hx
  obtain ⟨i, hi, rfl⟩ := List.getElem_of_mem hy
  obtain ⟨j, hj, rfl⟩ := List.getElem_of_mem hx
  rw [List.length_take] at hi
  rw [List.length_drop] at hj
  rw [List.getElem_take, List.getElem_drop]
  have hb2 := hb (by omega) (by omega)
  rw [gI_get (show u < L.length by omega), gI_get (show v - 1 < R.length by omega)] at hb2
  obtain ⟨c1, c2⟩ := h.x _ (List.getElem_mem (show u < L.length by omega)) _ (List.getElem_mem (show v - 1 < R.length by omega))
  have h0 := c2.1 hb2
  have h1 := pw_le h.sr (show i ≤ v - 1 by omega) (by omega)
  have h2 := pw_le h.sl (show u ≤ u + j by omega) (by omega)
  exact o.lt_le (o.le_lt h1 h0) h2
theorem pw_parts (hs : L.Pairwise lt) (u : Nat) : (L.take u).Pairwise lt ∧ (L.drop u).Pairwise lt ∧ ∀ x ∈ L.take u, ∀ y ∈ L.drop u, lt x y := by
  rw [← List.take_append_drop u L] at hs
  exact List.pairwise_append.1 hs
theorem SymIn.left (h : SymIn cmp lt L R) : SymIn cmp lt (L.take u) (R.take v) :=
  ⟨(pw_parts h.sl u).1, (pw_parts h.sr v).1, fun x hx y hy => h.x x (List.mem_of_mem_take hx) y (List.mem_of_mem_take hy)⟩
theorem SymIn.right (h : SymIn cmp lt L R) : SymIn cmp lt (L.drop u) (R.drop v) :=
  ⟨(pw_parts h.sl u).2.1, (pw_parts h.sr v).2.1, fun x hx y hy => h.x x (List.mem_of_mem_drop hx) y (List.mem_of_mem_drop hy)⟩
/-- Merged: M is what both parts are, in order. -/
def Mgd (lt : Int → Int → Prop) (L R M : List Int) : Prop := M.Perm (L ++ R) ∧ M.Pairwise lt
theorem Mgd.len {M : List Int} (h : Mgd lt L R M) : M.length = L.length + R.length := by rw [h.1.length_eq, List.length_append]
theorem Mgd.join (h : SymIn cmp lt L R) {M1 M2 : List Int} (h1 : Mgd lt (L.take u) (R.take v) M1) (h2 : Mgd lt (L.drop u) (R.drop v) M2)
    (k1 : ∀ x ∈ L.take u, ∀ y ∈ R.drop v, lt x y) (k2 : ∀ y ∈ R.take v, ∀ x ∈ L.drop u, lt y x) : Mgd lt L R (M1 ++ M2) := by
  refine ⟨?_, List.pairwise_append.2 ⟨h1.2, h2.2, fun a ha b hb => ?_⟩⟩
  · refine (h1.1.append h2.1).trans ?_
    have e : L ++ R = (L.take u ++ L.drop u) ++ (R.take v ++ R.drop v) := by rw [List.take_append_drop, List.take_append_drop]
    rw [e, List.append_assoc, List.append_assoc]
    refine List.Perm.append_left _ ?_
    rw [← List.append_assoc, ← List.append_assoc]
    exact List.Perm.append_right _ List.perm_append_comm
  · have ha2 := h1.1.mem_iff.1 ha
    have hb2 := h2.1.mem_iff.1 hb
    rw [List.mem_append] at ha2 hb2
    rcases ha2 with ha | ha <;> rcases hb2 with hb | hb
    · exact (pw_parts h.sl u).2.2 a ha b hb
    · exact k1 a ha b hb
    · exact k2 a ha b hb
    · exact (pw_parts h.sr v).2.2 a ha b hb
theorem Mgd.nilL (h : R.Pairwise lt) : Mgd lt [] R R := ⟨List.Perm.refl _, h⟩
theorem Mgd.nilR (h : L.Pairwise lt) : Mgd lt L [] L := ⟨by rw [List.append_nil], h⟩
/-- Without a merging where one part is empty. -/
theorem Mgd.plain (h : SymIn cmp lt L R) (h0 : L.length = 0 ∨ R.length = 0) : Mgd lt L R (L ++ R) := by
  rcases h0 with h0 | h0
  · rw [List.eq_nil_of_length_eq_zero h0]; exact Mgd.nilL h.sr
  · rw [List.eq_nil_of_length_eq_zero h0, List.append_nil]; exact Mgd.nilR h.sl
/-- One element is put among the others. -/
theorem Mgd.one (o : STO lt) {x : Int} (h : SymIn cmp lt [x] R) (hv : v ≤ R.length) (h1 : v < R.length → ¬ cmp (gI R v) x < 0) (h2 : 0 < v → cmp (gI R (v - 1)) x < 0) : Mgd lt [x] R (R.take v ++ (x :: R.drop v)) := by
  have k1 := h.cutL (u := 1) (v := v) o (by simp) (fun _ hv => h1 hv)
  have k2 := h.cutR (u := 0) (v := v) o hv (fun _ hv => h2 hv)
  obtain ⟨p1, p2, p3⟩ := pw_parts h.sr v
  refine ⟨?_, List.pairwise_append.2 ⟨p1, List.pairwise_cons.2 ⟨fun y hy => k1 x (by simp) y hy, p2⟩, fun a ha b hb => ?_⟩⟩
  · have e : [x] ++ R = x :: (R.take v ++ R.drop v) := by rw [List.take_append_drop]; rfl
    rw [e]; exact List.perm_middle
  · rcases List.mem_cons.1 hb with rfl | hb
    · exact k2 a ha _ (by simp)
    · exact p3 a ha b hb
theorem Mgd.last (o : STO lt) {y : Int} (h : SymIn cmp lt L [y]) (hu : u ≤ L.length) (h1 : 0 < u → ¬ cmp y (gI L (u - 1)) < 0) (h2 : u < L.length → cmp y (gI L u) < 0) : Mgd lt L [y] (L.take u ++ (y :: L.drop u)) := by
  have k1 := h.cutL (u := u) (v := 0) o hu (fun hu _ => h1 hu)
  have k2 := h.cutR (u := u) (v := 1) o (by simp) (fun hu _ => h2 hu)
  obtain ⟨p1, p2, p3⟩ := pw_parts h.sl u
  refine ⟨?_, List.pairwise_append.2 ⟨p1, List.pairwise_cons.2 ⟨fun x hx => k2 y (by simp) x hx, p2⟩, fun a ha b hb => ?_⟩⟩
  · have e : L ++ [y] = L.take u ++ (L.drop u ++ [y]) := by rw [← List.append_assoc, List.take_append_drop]
    rw [e]
    exact List.Perm.append_left _ (List.perm_append_comm (l₁ := [y]))
  · rcases List.mem_cons.1 hb with rfl | hb
    · exact k1 a ha _ (by simp)
    · exact p3 a ha b hb
end
end Go.Proofs.Ytekplfbfkfiabaa
