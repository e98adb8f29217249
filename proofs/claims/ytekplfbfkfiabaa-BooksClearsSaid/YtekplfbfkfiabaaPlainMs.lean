/- The most groups of parties, in plain words: sets of parties as numbers, what the program's tables hold. -/
import Derived.Test.YtekplfbfkfiabaaGrTab
namespace Go.Proofs.Ytekplfbfkfiabaa
open Go.RowKit
set_option linter.unusedVariables false
set_option linter.unusedSimpArgs false

def Sub (s t : Nat) : Prop := ∀ i, s.testBit i = true → t.testBit i = true
theorem sub_and {s t : Nat} : Sub s t ↔ s &&& t = s := by
  constructor
  · intro h
    apply Nat.eq_of_testBit_eq
    intro i
    rw [Nat.testBit_and]
    cases hs : s.testBit i with
    | false => rfl
    | true => rw [h i hs]; rfl
  · intro h i hi
    rw [← h, Nat.testBit_and, Bool.and_eq_true] at hi
    exact hi.2
theorem Sub.refl (s : Nat) : Sub s s := fun _ h => h
theorem Sub.trans {a b c : Nat} (h : Sub a b) (k : Sub b c) : Sub a c := fun i hi => k i (h i hi)
theorem Sub.xor {s t : Nat} (h : Sub s t) : Sub (t ^^^ s) t := fun i hi => by
  rw [Nat.testBit_xor] at hi
  cases ht : t.testBit i with
  | true => rfl
  | false =>
    cases hs : s.testBit i with
    | true => rw [h i hs] at ht; cases ht
    | false => rw [ht, hs] at hi; cases hi
theorem Sub.le {s t : Nat} (h : Sub s t) : s ≤ t := by rw [← sub_and.1 h]; exact Nat.and_le_right
theorem xor_lt {s t : Nat} (h : Sub s t) (h0 : s ≠ 0) : t ^^^ s < t := by
  have h1 := h.xor.le
  rcases Nat.lt_or_eq_of_le h1 with h2 | h2
  · exact h2
  · exfalso
    apply h0
    apply Nat.eq_of_testBit_eq
    intro i
    have h3 : (t ^^^ s).testBit i = t.testBit i := by rw [h2]
    rw [Nat.testBit_xor] at h3
    rw [Nat.zero_testBit]
    cases ht : t.testBit i <;> cases hs : s.testBit i <;> rw [ht, hs] at h3 <;> simp_all
theorem xor_self_zero (t : Nat) : t ^^^ t = 0 := Nat.xor_self t
theorem and_mod2 (a b : Nat) : (a &&& b) % 2 = (a % 2) &&& (b % 2) := by
  have := Nat.and_mod_two_pow (a := a) (b := b) (n := 1)
  simpa using this
/-- The greatest subset below s. -/
theorem pred_and : ∀ (t s x : Nat), s &&& t = s → x &&& t = x → x < s → x ≤ (s - 1) &&& t := by
  intro t
  induction t using Nat.strongRecOn with
  | ind t ih =>
    intro s x hs hx hlt
    by_cases h0 : t = 0
    · subst h0
      rw [Nat.and_zero] at hs
      omega
    · have hs2 : s / 2 &&& t / 2 = s / 2 := by rw [← Nat.and_div_two, hs]
      have hx2 : x / 2 &&& t / 2 = x / 2 := by rw [← Nat.and_div_two, hx]
      have hsm : s % 2 &&& t % 2 = s % 2 := by rw [← and_mod2, hs]
      have hxm : x % 2 &&& t % 2 = x % 2 := by rw [← and_mod2, hx]
      have e1 : ((s - 1) &&& t) / 2 = (s - 1) / 2 &&& t / 2 := Nat.and_div_two
      have e2 : ((s - 1) &&& t) % 2 = (s - 1) % 2 &&& t % 2 := and_mod2 _ _
      rcases Nat.mod_two_eq_zero_or_one s with m | m
      · -- s even
        have hb : x / 2 < s / 2 := by omega
        have h1 := ih (t / 2) (by omega) (s / 2) (x / 2) hs2 hx2 hb
        have h2 : (s - 1) / 2 = s / 2 - 1 := by omega
        have h3 : (s - 1) % 2 = 1 := by omega
        rw [h2] at e1
        rw [h3] at e2
        have h4 : x % 2 ≤ ((s - 1) &&& t) % 2 := by
          rw [e2, ← hxm]
          rcases Nat.mod_two_eq_zero_or_one x with a | a <;> rcases Nat.mod_two_eq_zero_or_one t with b | b <;> rw [a, b] <;> decide
        rw [← e1] at h1
        omega
      · have h2 : (s - 1) / 2 = s / 2 := by omega
        rw [h2, hs2] at e1
        omega
theorem subF_mem (t : Nat) : ∀ (f s x : Nat), s ≤ f → s &&& t = s → (x ∈ subF t f s ↔ x ≠ 0 ∧ x &&& t = x ∧ x ≤ s)
  | 0, s, x, h, hs => by
    have : s = 0 := Nat.le_zero.1 h
    subst this
    constructor
    · intro h; cases h
    · rintro ⟨h1, _, h2⟩; omega
  | f + 1, s, x, h, hs => by
    unfold subF
    by_cases h0 : s = 0
    · subst h0
      rw [if_pos rfl]
      constructor
      · intro h; cases h
      · rintro ⟨h1, _, h2⟩; omega
    · rw [if_neg h0, List.mem_cons]
      have hle : (s - 1) &&& t ≤ s - 1 := Nat.and_le_left
      have hss : ((s - 1) &&& t) &&& t = (s - 1) &&& t := by rw [Nat.and_assoc, Nat.and_self]
      rw [subF_mem t f ((s - 1) &&& t) x (by omega) hss]
      constructor
      · rintro (rfl | ⟨h1, h2, h3⟩)
        · exact ⟨h0, hs, Nat.le_refl _⟩
        · exact ⟨h1, h2, by omega⟩
      · rintro ⟨h1, h2, h3⟩
        rcases Nat.lt_or_eq_of_le h3 with h4 | h4
        · exact .inr ⟨h1, h2, pred_and t s x hs h2 h4⟩
        · exact .inl h4
theorem subL_mem {t x : Nat} : x ∈ subL t ↔ x ≠ 0 ∧ Sub x t := by
  unfold subL
  rw [subF_mem t t t x (Nat.le_refl _) (Nat.and_self t), sub_and]
  constructor
  · rintro ⟨h1, h2, _⟩; exact ⟨h1, h2⟩
  · rintro ⟨h1, h2⟩; exact ⟨h1, h2, (sub_and.2 h2).le⟩
theorem low_bit {t : Nat} (h : t < 1024) (h0 : t ≠ 0) : ∃ i, i < 10 ∧ lowN t = 2 ^ i ∧ t.testBit i = true ∧ ∀ j, j < i → t.testBit j = false := by
  have H : ∀ t : Fin 1024, t.1 ≠ 0 → ∃ i : Fin 10, lowN t.1 = 2 ^ i.1 ∧ t.1.testBit i.1 = true ∧ ∀ j : Fin 10, j.1 < i.1 → t.1.testBit j.1 = false := by decide +kernel
  obtain ⟨i, h1, h2, h3⟩ := H ⟨t, h⟩ h0
  exact ⟨i.1, i.2, h1, h2, fun j hj => h3 ⟨j, by omega⟩ hj⟩
theorem and_pow {x i : Nat} : x &&& 2 ^ i ≠ 0 ↔ x.testBit i = true := by
  constructor
  · intro h
    cases hx : x.testBit i with
    | true => rfl
    | false =>
      exfalso; apply h
      apply Nat.eq_of_testBit_eq
      intro j
      rw [Nat.testBit_and, Nat.testBit_two_pow, Nat.zero_testBit]
      by_cases hj : i = j
      · subst hj; rw [hx]; rfl
      · simp [hj]
  · intro h h0
    have : (x &&& 2 ^ i).testBit i = true := by rw [Nat.testBit_and, h, Nat.testBit_two_pow_self]; rfl
    rw [h0, Nat.zero_testBit] at this
    cases this
theorem pow_sub {t i : Nat} (h : t.testBit i = true) : Sub (2 ^ i) t := fun j hj => by
  rw [Nat.testBit_two_pow] at hj
  have : i = j := by simpa using hj
  subst this; exact h

theorem isum_map_add {α : Type} (f g h : α → Int) : ∀ L : List α, (∀ i ∈ L, f i = g i + h i) → isum (L.map f) = isum (L.map g) + isum (L.map h)
  | [], _ => rfl
  | x :: L, hh => by
    simp only [List.map_cons, isum]
    rw [isum_map_add f g h L (fun i hi => hh i (by simp [hi])), hh x (by simp)]
    omega
theorem isum_one (v : Int) (i : Nat) : ∀ n, isum ((List.range n).map fun j => if i = j then v else 0) = if i < n then v else 0
  | 0 => by simp [isum]
  | n + 1 => by
    rw [List.range_succ, List.map_append, List.map_singleton, isum_snoc, isum_one v i n]
    by_cases h : i = n
    · subst h; simp
    · rw [if_neg h]
      by_cases h2 : i < n
      · rw [if_pos h2, if_pos (by omega)]; omega
      · rw [if_neg h2, if_neg (by omega)]; omega
theorem isum_congr {α : Type} {f g : α → Int} {L : List α} (h : ∀ i ∈ L, f i = g i) : isum (L.map f) = isum (L.map g) := by
  rw [List.map_congr_left h]
/-- What a set's parties add up to. -/
def sumB (l : List Int) (s : Nat) : Int := isum ((List.range l.length).map fun i => if s.testBit i then gI l i else 0)
theorem sumB_zero (l : List Int) : sumB l 0 = 0 := by
  unfold sumB
  refine isum_zero0 _ fun x hx => ?_
  obtain ⟨i, _, rfl⟩ := List.mem_map.1 hx
  simp
where isum_zero0 : ∀ xs : List Int, (∀ x ∈ xs, x = 0) → isum xs = 0
  | [], _ => rfl
  | x :: xs, h => by simp only [isum]; rw [isum_zero0 xs (fun y hy => h y (by simp [hy])), h x (by simp)]; rfl
theorem sumB_split (l : List Int) {s t : Nat} (h : Sub s t) : sumB l t = sumB l s + sumB l (t ^^^ s) := by
  unfold sumB
  refine isum_map_add _ _ _ _ fun i _ => ?_
  rw [Nat.testBit_xor]
  cases hs : s.testBit i with
  | true => rw [h i hs]; simp
  | false => cases t.testBit i <;> simp
theorem sumB_pow (l : List Int) {i : Nat} (hi : i < l.length) : sumB l (2 ^ i) = gI l i := by
  unfold sumB
  have h1 : isum ((List.range l.length).map fun j => if (2 ^ i).testBit j then gI l j else 0) = isum ((List.range l.length).map fun j => if i = j then gI l i else 0) := by
    refine isum_congr fun j _ => ?_
    rw [Nat.testBit_two_pow]
    by_cases h : i = j
    · subst h; simp
    · simp [h]
  rw [h1, isum_one, if_pos hi]
theorem sumB_congr {l l' : List Int} {s : Nat} (hl : l.length = l'.length) (h : ∀ i, i < l.length → s.testBit i = true → gI l i = gI l' i) : sumB l s = sumB l' s := by
  unfold sumB
  rw [← hl]
  refine isum_congr fun i hi => ?_
  rw [List.mem_range] at hi
  cases hs : s.testBit i with
  | true => simp [h i hi hs]
  | false => simp
theorem full_bit {n i : Nat} : (2 ^ n - 1).testBit i = decide (i < n) := Nat.testBit_two_pow_sub_one n i
theorem sub_full {n t : Nat} (h : t < 2 ^ n) : Sub t (2 ^ n - 1) := fun i hi => by
  rw [full_bit, decide_eq_true_eq]
  rcases Nat.lt_or_ge i n with h2 | h2
  · exact h2
  · have : t < 2 ^ i := Nat.lt_of_lt_of_le h (Nat.pow_le_pow_right (by omega) h2)
    rw [Nat.testBit_lt_two_pow this] at hi; cases hi
theorem bit_lt {n t i : Nat} (h : t < 2 ^ n) (hi : t.testBit i = true) : i < n := by
  have := sub_full h i hi
  rw [full_bit, decide_eq_true_eq] at this
  exact this
theorem sumB_full (l : List Int) : sumB l (2 ^ l.length - 1) = isum l := by
  unfold sumB
  have h1 : (List.range l.length).map (fun i => if (2 ^ l.length - 1).testBit i then gI l i else 0) = l := by
    refine List.ext_getElem (by simp) fun i h1 h2 => ?_
    rw [List.getElem_map, List.getElem_range, full_bit, gI_get h2]
    simp [h2]
  rw [h1]
end Go.Proofs.Ytekplfbfkfiabaa
