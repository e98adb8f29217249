/- What the program's tables of sums and of the most groups hold. -/
import Derived.Test.YtekplfbfkfiabaaPlainMs
namespace Go.Proofs.Ytekplfbfkfiabaa
open Go.RowKit
set_option linter.unusedVariables false
set_option linter.unusedSimpArgs false

theorem gI_setN (xs : List Int) (i j : Nat) (x : Int) (hi : i < xs.length) : gI (xs.set i x) j = if j = i then x else gI xs j := by
  unfold gI
  simp only [List.getD_eq_getElem?_getD, List.getElem?_set]
  by_cases h : i = j
  · subst h; rw [if_pos rfl, if_pos hi, if_pos rfl]; rfl
  · rw [if_neg h, if_neg (fun e => h e.symm)]
theorem sRow_eq (l : List Int) (t : Nat) (S : List Int) (i0 : Nat) (h : lowN t = 2 ^ i0) : ∀ k, sRow l t k S = if k ≤ i0 then S else S.set t (gI S (t ^^^ lowN t) + gI l i0)
  | 0 => by rw [if_pos (Nat.zero_le _)]; rfl
  | k + 1 => by
    rw [sRow_succ, sRow_eq l t S i0 h k]
    unfold sStep
    by_cases hk : k = i0
    · subst hk
      rw [if_pos h, if_pos (Nat.le_refl _), if_neg (by omega)]
    · have hne : ¬ lowN t = 2 ^ k := fun e => by
        rw [h] at e
        exact hk ((Nat.pow_right_inj (by decide)).1 e.symm)
      rw [if_neg hne]
      by_cases h2 : k ≤ i0
      · rw [if_pos h2, if_pos (by omega)]
      · rw [if_neg h2, if_neg (by omega)]
/-- A subset that may be the first party's group. -/
def okS (S : List Int) (t s : Nat) : Prop := s &&& lowN t ≠ 0 ∧ gI S s = 0
theorem mFold (t : Nat) (S : List Int) : ∀ (Ls : List Nat) (M : List Int), t < M.length → (∀ s ∈ Ls, t ^^^ s ≠ t) →
    (∀ j, j ≠ t → gI (Ls.foldl (mStep t S) M) j = gI M j) ∧ gI M t ≤ gI (Ls.foldl (mStep t S) M) t ∧ (∀ s ∈ Ls, okS S t s → gI M (t ^^^ s) + 1 ≤ gI (Ls.foldl (mStep t S) M) t) ∧
    (gI (Ls.foldl (mStep t S) M) t = gI M t ∨ ∃ s ∈ Ls, okS S t s ∧ gI (Ls.foldl (mStep t S) M) t = gI M (t ^^^ s) + 1)
  | [], M, _, _ => ⟨fun _ _ => rfl, Int.le_refl _, fun _ h => (by cases h), .inl rfl⟩
  | s :: Ls, M, ht, hL => by
    have hne := hL s (by simp)
    rw [List.foldl_cons]
    have key : (∀ j, j ≠ t → gI (mStep t S M s) j = gI M j) ∧ gI M t ≤ gI (mStep t S M s) t ∧ (okS S t s → gI M (t ^^^ s) + 1 ≤ gI (mStep t S M s) t) ∧ (gI (mStep t S M s) t = gI M t ∨ okS S t s ∧ gI (mStep t S M s) t = gI M (t ^^^ s) + 1) := by
      unfold mStep
      by_cases h : s &&& lowN t ≠ 0 ∧ gI S s = 0
      · rw [if_pos h]
        refine ⟨fun j hj => by rw [gI_setN _ _ _ _ ht, if_neg hj], ?_, fun _ => ?_, ?_⟩
        · rw [gI_setN _ _ _ _ ht, if_pos rfl]; omega
        · rw [gI_setN _ _ _ _ ht, if_pos rfl]; omega
        · rw [gI_setN _ _ _ _ ht, if_pos rfl]
          rcases Int.le_total (gI M t) (gI M (t ^^^ s) + 1) with h2 | h2
          · exact .inr ⟨h, by omega⟩
          · exact .inl (by omega)
      · rw [if_neg h]
        exact ⟨fun _ _ => rfl, Int.le_refl _, fun h2 => absurd h2 h, .inl rfl⟩
    obtain ⟨k1, k2, k3, k4⟩ := key
    obtain ⟨i1, i2, i3, i4⟩ := mFold t S Ls (mStep t S M s) (by rw [mStep_len]; exact ht) (fun x hx => hL x (by simp [hx]))
    have hs : ∀ x ∈ Ls, gI (mStep t S M s) (t ^^^ x) = gI M (t ^^^ x) := fun x hx => k1 _ (hL x (by simp [hx]))
    refine ⟨fun j hj => by rw [i1 j hj, k1 j hj], by omega, fun x hx ho => ?_, ?_⟩
    · rcases List.mem_cons.1 hx with rfl | hx
      · have := k3 ho; omega
      · have := i3 x hx ho; rw [hs x hx] at this; exact this
    · rcases i4 with i4 | ⟨x, hx, ho, i4⟩
      · rcases k4 with k4 | ⟨ho, k4⟩
        · exact .inl (by omega)
        · exact .inr ⟨s, by simp, ho, by omega⟩
      · exact .inr ⟨x, by simp [hx], ho, by rw [i4, hs x hx]⟩
/-- What stands for a set in the table of the most groups. -/
structure MSp (l : List Int) (M : Nat → Int) (t : Nat) : Prop where
  zero : t = 0 → M t = 0
  bad : t ≠ 0 → sumB l t ≠ 0 → M t = -1
  all : t ≠ 0 → sumB l t = 0 → ∀ s, Sub s t → s &&& lowN t ≠ 0 → sumB l s = 0 → M (t ^^^ s) + 1 ≤ M t
  one : t ≠ 0 → sumB l t = 0 → ∃ s, Sub s t ∧ s &&& lowN t ≠ 0 ∧ sumB l s = 0 ∧ M t = M (t ^^^ s) + 1
theorem and_low {t : Nat} (h : t < 1024) (h0 : t ≠ 0) : t &&& lowN t ≠ 0 := by
  obtain ⟨i, _, h2, h3, _⟩ := low_bit h h0
  rw [h2]; exact and_pow.2 h3
theorem low_ne {t s : Nat} (h : s &&& lowN t ≠ 0) : s ≠ 0 := fun e => h (by rw [e, Nat.zero_and])
theorem tab_spec (l : List Int) (hn : l.length ≤ 10) : ∀ k, k < 2 ^ l.length → (∀ t, t ≤ k → gI (tab l k).1 t = sumB l t) ∧ (∀ t, t ≤ k → MSp l (gI (tab l k).2) t)
  | 0, hk => by
    have h0 : ∀ t, gI (List.replicate (2 ^ l.length) (0:Int)) t = 0 := fun t => by
      unfold gI
      rw [List.getD_eq_getElem?_getD, List.getElem?_replicate]
      split <;> rfl
    refine ⟨fun t ht => ?_, fun t ht => ?_⟩
    · obtain rfl : t = 0 := by omega
      rw [sumB_zero]; exact h0 0
    · obtain rfl : t = 0 := by omega
      exact ⟨fun _ => h0 0, fun h => absurd rfl h, fun h => absurd rfl h, fun h => absurd rfl h⟩
  | k + 1, hk => by
    obtain ⟨hS, hM⟩ := tab_spec l hn k (by omega)
    obtain ⟨lS, lM⟩ := tab_len l k
    have h1024 : 2 ^ l.length ≤ 1024 := Nat.le_trans (Nat.pow_le_pow_right (by omega) hn) (by decide)
    obtain ⟨i0, hi0, hlow, hbit, hlo⟩ := low_bit (t := k + 1) (by omega) (by omega)
    have hin : i0 < l.length := bit_lt hk hbit
    obtain ⟨S, hSe⟩ : ∃ S, S = (tab l k).1 := ⟨_, rfl⟩
    obtain ⟨M, hMe⟩ : ∃ M, M = (tab l k).2 := ⟨_, rfl⟩
    rw [← hSe] at hS lS
    rw [← hMe] at hM lM
    have hpl : Sub (lowN (k + 1)) (k + 1) := by rw [hlow]; exact pow_sub hbit
    have hp0 : lowN (k + 1) ≠ 0 := by rw [hlow]; exact Nat.ne_of_gt (Nat.two_pow_pos i0)
    have hxl := xor_lt hpl hp0
    have hrow : sRow l (k + 1) l.length S = S.set (k + 1) (sumB l (k + 1)) := by
      rw [sRow_eq l (k + 1) S i0 hlow, if_neg (by omega), hS _ (by omega), sumB_split l hpl]
      congr 1
      rw [hlow, sumB_pow l hin]
      omega
    obtain ⟨S2, hS2⟩ : ∃ S2, S2 = S.set (k + 1) (sumB l (k + 1)) := ⟨_, rfl⟩
    have hg2 : ∀ t, t ≤ k + 1 → gI S2 t = sumB l t := fun t ht => by
      rw [hS2, gI_setN _ _ _ _ (by omega)]
      by_cases h : t = k + 1
      · rw [if_pos h, h]
      · rw [if_neg h]; exact hS t (by omega)
    have htab : tab l (k + 1) = (S2, mRow (k + 1) S2 M) := by
      show (sRow l (k + 1) l.length (tab l k).1, mRow (k + 1) (sRow l (k + 1) l.length (tab l k).1) (tab l k).2) = _
      rw [← hSe, ← hMe, hrow, ← hS2]
    rw [htab]
    refine ⟨hg2, ?_⟩
    dsimp only
    have hkM : k + 1 < M.length := by omega
    -- the new row leaves all others as they were
    have hrest : ∀ j, j ≠ k + 1 → gI (mRow (k + 1) S2 M) j = gI M j := by
      unfold mRow
      split
      · exact fun j hj => by rw [gI_setN _ _ _ _ hkM, if_neg hj]
      · have hf := (mFold (k + 1) S2 (subL (k + 1)) (M.set (k + 1) (-1)) (by simp; omega) (fun s hs => by
          obtain ⟨a, b⟩ := subL_mem.1 hs
          have := xor_lt b a
          omega)).1
        exact fun j hj => by rw [hf j hj, gI_setN _ _ _ _ hkM, if_neg hj]
    intro t ht
    rcases Nat.lt_or_eq_of_le ht with ht2 | rfl
    · have h := hM t (by omega)
      have e1 := hrest t (by omega)
      have e2 : ∀ s, Sub s t → gI (mRow (k + 1) S2 M) (t ^^^ s) = gI M (t ^^^ s) := fun s hs => hrest _ (by have := hs.xor.le; omega)
      refine ⟨fun h0 => by rw [e1]; exact h.zero h0, fun h0 h1 => by rw [e1]; exact h.bad h0 h1, fun h0 h1 s h2 h3 h4 => by rw [e1, e2 s h2]; exact h.all h0 h1 s h2 h3 h4, fun h0 h1 => ?_⟩
      obtain ⟨s, h2, h3, h4, h5⟩ := h.one h0 h1
      exact ⟨s, h2, h3, h4, by rw [e1, e2 s h2]; exact h5⟩
    · have e2 : ∀ s, Sub s (k + 1) → s ≠ 0 → gI (mRow (k + 1) S2 M) (k + 1 ^^^ s) = gI M (k + 1 ^^^ s) := fun s hs h0 => hrest _ (by have := xor_lt hs h0; omega)
      have hgk := hg2 (k + 1) (Nat.le_refl _)
      by_cases hz : sumB l (k + 1) = 0
      · have hm : mRow (k + 1) S2 M = (subL (k + 1)).foldl (mStep (k + 1) S2) (M.set (k + 1) (-1)) := mRow_yes (by rw [hgk, hz])
        obtain ⟨f1, f2, f3, f4⟩ := mFold (k + 1) S2 (subL (k + 1)) (M.set (k + 1) (-1)) (by simp; omega) (fun s hs => by
          obtain ⟨a, b⟩ := subL_mem.1 hs
          have := xor_lt b a
          omega)
        rw [← hm] at f1 f2 f3 f4
        have hM0 : ∀ s, Sub s (k + 1) → s ≠ 0 → gI (M.set (k + 1) (-1)) (k + 1 ^^^ s) = gI M (k + 1 ^^^ s) := fun s hs h0 => by
          rw [gI_setN _ _ _ _ hkM, if_neg (by have := xor_lt hs h0; omega)]
        have hall : ∀ s, Sub s (k + 1) → s &&& lowN (k + 1) ≠ 0 → sumB l s = 0 → gI M (k + 1 ^^^ s) + 1 ≤ gI (mRow (k + 1) S2 M) (k + 1) := fun s h2 h3 h4 => by
          have := f3 s (subL_mem.2 ⟨low_ne h3, h2⟩) ⟨h3, by rw [hg2 s h2.le]; exact h4⟩
          rwa [hM0 s h2 (low_ne h3)] at this
        refine ⟨fun h0 => by omega, fun _ h1 => absurd hz h1, fun _ _ s h2 h3 h4 => by rw [e2 s h2 (low_ne h3)]; exact hall s h2 h3 h4, fun _ _ => ?_⟩
        rcases f4 with f4 | ⟨s, hs, ho, f4⟩
        · exfalso
          have h1 := hall (k + 1) (Sub.refl _) (and_low (by omega) (by omega)) hz
          rw [Nat.xor_self, (hM 0 (by omega)).zero rfl, f4, gI_setN _ _ _ _ hkM, if_pos rfl] at h1
          omega
        · obtain ⟨a, b⟩ := subL_mem.1 hs
          exact ⟨s, b, ho.1, by rw [← hg2 s b.le]; exact ho.2, by rw [f4, hM0 s b a, e2 s b a]⟩
      · have hm : mRow (k + 1) S2 M = M.set (k + 1) (-1) := by unfold mRow; rw [if_pos (by rw [hgk]; exact hz)]
        refine ⟨fun h0 => by omega, fun _ _ => by rw [hm, gI_setN _ _ _ _ hkM, if_pos rfl], fun _ h1 => absurd h1 hz, fun _ h1 => absurd h1 hz⟩
/-- The two tables when they are filled. -/
def tS (l : List Int) : List Int := (tab l (2 ^ l.length - 1)).1
def tM (l : List Int) : List Int := (tab l (2 ^ l.length - 1)).2
theorem tS_spec {l : List Int} (hn : l.length ≤ 10) {t : Nat} (ht : t < 2 ^ l.length) : gI (tS l) t = sumB l t := (tab_spec l hn _ (by have := Nat.two_pow_pos l.length; omega)).1 t (by omega)
theorem tM_spec {l : List Int} (hn : l.length ≤ 10) {t : Nat} (ht : t < 2 ^ l.length) : MSp l (gI (tM l)) t := (tab_spec l hn _ (by have := Nat.two_pow_pos l.length; omega)).2 t (by omega)
/-- How many parties a set has. -/
def card (n s : Nat) : Int := sumB (List.replicate n 1) s
theorem card_split {n s t : Nat} (h : Sub s t) : card n t = card n s + card n (t ^^^ s) := sumB_split _ h
theorem isum_nn : ∀ xs : List Int, (∀ x ∈ xs, 0 ≤ x) → 0 ≤ isum xs
  | [], _ => Int.le_refl _
  | x :: xs, h => by have h1 := isum_nn xs (fun y hy => h y (by simp [hy])); have h2 := h x (by simp); simp only [isum]; omega
theorem gI_rep {n i : Nat} (hi : i < n) : gI (List.replicate n (1:Int)) i = 1 := by rw [gI_get (by simpa using hi)]; simp
theorem sumB_nn {l : List Int} (h : ∀ x ∈ l, 0 ≤ x) (s : Nat) : 0 ≤ sumB l s := isum_nn _ fun x hx => by
  obtain ⟨i, hi, rfl⟩ := List.mem_map.1 hx
  rw [List.mem_range] at hi
  split
  · rw [gI_get hi]; exact h _ (List.getElem_mem hi)
  · exact Int.le_refl _
theorem card_nn (n s : Nat) : 0 ≤ card n s := sumB_nn (fun x hx => by rw [(List.mem_replicate.1 hx).2]; omega) s
theorem card_pow {n i : Nat} (hi : i < n) : card n (2 ^ i) = 1 := by
  unfold card
  rw [sumB_pow _ (by simpa using hi), gI_rep hi]
theorem card_pos {n s : Nat} (hs : s < 2 ^ n) (hn : n ≤ 10) (h0 : s ≠ 0) : 1 ≤ card n s := by
  have h1024 : 2 ^ n ≤ 1024 := Nat.le_trans (Nat.pow_le_pow_right (by omega) hn) (by decide)
  obtain ⟨i, _, h2, h3, _⟩ := low_bit (t := s) (by omega) h0
  have h4 := card_split (n := n) (pow_sub h3)
  have h5 := card_nn n (s ^^^ 2 ^ i)
  rw [card_pow (bit_lt hs h3)] at h4
  omega
theorem card_full (n : Nat) : card n (2 ^ n - 1) = n := by
  have h := sumB_full (List.replicate n (1:Int))
  rw [List.length_replicate] at h
  unfold card
  rw [h]
  induction n with
  | zero => rfl
  | succ n ih =>
    have : ∀ m : Nat, isum (List.replicate m (1:Int)) = m := by
      intro m
      induction m with
      | zero => rfl
      | succ m ih => rw [List.replicate_succ]; simp only [isum]; rw [ih]; push_cast; omega
    exact this _
theorem tM_card {l : List Int} (hn : l.length ≤ 10) : ∀ t, t < 2 ^ l.length → gI (tM l) t ≤ card l.length t := by
  intro t
  induction t using Nat.strongRecOn with
  | ind t ih =>
    intro ht
    have hm := tM_spec hn ht
    have hc := card_nn l.length t
    by_cases h0 : t = 0
    · rw [hm.zero h0]; exact hc
    · by_cases h1 : sumB l t = 0
      · obtain ⟨s, h2, h3, h4, h5⟩ := hm.one h0 h1
        have h6 := xor_lt h2 (low_ne h3)
        have h7 := ih _ h6 (by omega)
        have h8 := card_split (n := l.length) h2
        have h9 := card_pos (n := l.length) (s := s) (by have := h2.le; omega) hn (low_ne h3)
        omega
      · rw [hm.bad h0 h1]; omega
end Go.Proofs.Ytekplfbfkfiabaa
