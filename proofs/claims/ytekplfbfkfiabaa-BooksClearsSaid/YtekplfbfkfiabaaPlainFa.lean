/- Shares are fair, in plain words. -/
import Derived.Test.YtekplfbfkfiabaaBkShare
namespace Go.Proofs.Ytekplfbfkfiabaa
open Go.RowKit
set_option linter.unusedVariables false
set_option linter.unusedSimpArgs false

theorem gI_bump (o : List Int) (i : Int) (hi : 0 ≤ i ∧ i < o.length) (k : Nat) : gI (bump o i) k = gI o k + if (k : Int) = i then 1 else 0 := by
  obtain ⟨j, rfl⟩ := Int.eq_ofNat_of_zero_le hi.1
  have hj : j < o.length := by omega
  unfold bump
  rw [Int.toNat_natCast]
  unfold gI
  simp only [List.getD_eq_getElem?_getD, List.getElem?_set]
  by_cases h : j = k
  · subst h; rw [if_pos rfl, if_pos hj, if_pos rfl]; rfl
  · rw [if_neg h, if_neg (by omega)]; omega
theorem gI_bumps : ∀ (B : List Int) (o : List Int) (k : Nat), B.Nodup → (∀ i ∈ B, 0 ≤ i ∧ i < o.length) → gI (B.foldl bump o) k = gI o k + if (k : Int) ∈ B then 1 else 0
  | [], o, k, _, _ => by simp
  | i :: B, o, k, hn, hr => by
    obtain ⟨n1, n2⟩ := List.nodup_cons.1 hn
    rw [List.foldl_cons, gI_bumps B (bump o i) k n2 (fun j hj => by rw [bump_len]; exact hr j (by simp [hj])), gI_bump o i (hr i (by simp))]
    by_cases h : (k : Int) = i
    · rw [if_pos h, if_neg (by rw [h]; exact n1), if_pos (by simp [h])]; omega
    · rw [if_neg h]
      by_cases h2 : (k : Int) ∈ B
      · rw [if_pos h2, if_pos (by simp [h2])]; omega
      · rw [if_neg h2, if_neg (by simp [h, h2])]; omega
theorem isum_set (o : List Int) (j : Nat) (x : Int) (hj : j < o.length) : isum (o.set j x) = isum o - o[j] + x := by
  induction o generalizing j with
  | nil => cases hj
  | cons y ys ih =>
    cases j with
    | zero => simp [isum]; omega
    | succ j =>
      simp only [List.set_cons_succ, isum, List.getElem_cons_succ]
      rw [ih j (by simpa using hj)]; omega
theorem isum_bumps : ∀ (B : List Int) (o : List Int), (∀ i ∈ B, 0 ≤ i ∧ i < o.length) → isum (B.foldl bump o) = isum o + B.length
  | [], o, _ => by simp
  | i :: B, o, hr => by
    obtain ⟨j, hj⟩ := Int.eq_ofNat_of_zero_le (hr i (by simp)).1
    have h1 := (hr i (by simp)).2
    have hjl : j < o.length := by omega
    rw [List.foldl_cons, isum_bumps B _ (fun k hk => by rw [bump_len]; exact hr k (by simp [hk]))]
    unfold bump
    rw [hj, Int.toNat_natCast, isum_set _ _ _ hjl, gI_get hjl, List.length_cons]
    push_cast
    omega
theorem isum_perm {a b : List Int} (h : a.Perm b) : isum a = isum b := by
  induction h with
  | nil => rfl
  | cons x _ ih => simp only [isum, ih]
  | swap x y l => simp only [isum]; omega
  | trans _ _ h1 h2 => exact h1.trans h2
theorem isum_le (M : Int) : ∀ xs : List Int, (∀ x ∈ xs, x ≤ M) → isum xs ≤ xs.length * M
  | [], _ => by simp [isum]
  | x :: xs, h => by
    have h1 := isum_le M xs (fun y hy => h y (by simp [hy]))
    have h2 := h x (by simp)
    simp only [isum, List.length_cons]
    have : ((xs.length + 1 : Nat) : Int) * M = xs.length * M + M := by push_cast; rw [Int.add_mul, Int.one_mul]
    omega
theorem isum_le_zero (M : Int) (hM : 0 ≤ M) : ∀ xs : List Int, (∀ x ∈ xs, x ≤ M) → 0 ∈ xs → isum xs + M ≤ xs.length * M
  | [], _, h => (by simp at h)
  | x :: xs, h, h0 => by
    have hl : ((xs.length + 1 : Nat) : Int) * M = xs.length * M + M := by push_cast; rw [Int.add_mul, Int.one_mul]
    have h2 := h x (by simp)
    simp only [isum, List.length_cons]
    rcases List.mem_cons.1 h0 with h3 | h3
    · have h1 := isum_le M xs (fun y hy => h y (by simp [hy]))
      omega
    · have h1 := isum_le_zero M hM xs (fun y hy => h y (by simp [hy])) h3
      omega
theorem isum_zero : ∀ xs : List Int, (∀ x ∈ xs, x = 0) → isum xs = 0
  | [], _ => rfl
  | x :: xs, h => by simp only [isum]; rw [isum_zero xs (fun y hy => h y (by simp [hy])), h x (by simp)]; rfl
theorem base_rem (t S : Int) : ∀ ws : List Int, S * isum (baseS t ws S) + isum (ws.map fun u => (t * u) % S) = t * isum ws
  | [] => by simp [baseS, isum]
  | u :: us => by
    have h := base_rem t S us
    have h3 : isum (baseS t (u :: us) S) = t * u / S + isum (baseS t us S) := rfl
    have h5 := Int.emod_add_mul_ediv (t * u) S
    simp only [List.map_cons, isum]
    rw [h3, Int.mul_add, Int.mul_add]
    omega
theorem ixs_rem (t : Int) (ws : List Int) (S : Int) : (ixs ws.length).map (remS t ws S) = ws.map fun u => (t * u) % S := by
  refine List.ext_getElem (by simp [ixs]) (fun i h1 h2 => ?_)
  have hi : i < ws.length := by simpa using h2
  simp [ixs, remS, gI_get hi]
/-- What the shares are. -/
structure Fair (t : Int) (ws : List Int) (S : Int) (l : List Int) : Prop where
  len : l.length = ws.length
  sum : t - isum l = 0
  low : ∀ i < ws.length, t * gI ws i / S ≤ gI l i ∧ gI l i ≤ t * gI ws i / S + 1
  cut : ∀ i < ws.length, t * gI ws i / S < gI l i → (t * gI ws i) % S ≠ 0
  pair : ∀ i k, i < ws.length → k < i → ¬ (gI ws k < gI ws i ∧ gI l i < gI l k) ∧ ¬ (gI ws i = gI ws k ∧ gI l k < gI l i) ∧ ¬ (gI ws i < gI ws k ∧ gI l k < gI l i)
theorem rank_perm (t : Int) (ws : List Int) (S : Int) : (rankS t ws S).Perm (ixs ws.length) ∧ (rankS t ws S).Pairwise (ltK fun i => - remS t ws S i) := by
  obtain ⟨M, m1, m2, m3⟩ := insN_whole (cmpS_key t ws S) [] (ixs ws.length) [] (ixs_up ws.length)
  rw [List.append_nil, List.append_nil, List.nil_append, List.nil_append, List.length_nil, ixs_len] at m3
  unfold rankS
  rw [m3]
  exact ⟨m1, m2⟩
theorem outS_fair (t : Int) (ws : List Int) (hw : ∀ u ∈ ws, 0 ≤ u) (hS : 1 ≤ isum ws) (ht : 0 ≤ t) (hn : 1 ≤ ws.length) : Fair t ws (isum ws) (outS t ws (isum ws)) := by
  obtain ⟨S, hSe⟩ : ∃ S, S = isum ws := ⟨_, rfl⟩
  have hlr := left_range t ws hS ht hn
  obtain ⟨rp, rs⟩ := rank_perm t ws S
  have hbr := base_rem t S ws
  rw [← hSe] at hS hlr ⊢
  have hrr := rank_range t ws S
  obtain ⟨n, hl⟩ := Int.eq_ofNat_of_zero_le hlr.1
  have hnn : n < ws.length := by have := hlr.2; omega
  obtain ⟨B, hB⟩ : ∃ B, B = (rankS t ws S).take n := ⟨_, rfl⟩
  obtain ⟨D, hD⟩ : ∃ D, D = (rankS t ws S).drop n := ⟨_, rfl⟩
  have hBD : rankS t ws S = B ++ D := by rw [hB, hD, List.take_append_drop]
  have hBl : B.length = n := by rw [hB, List.length_take, rankS_len]; omega
  have hout : outS t ws S = B.foldl bump (baseS t ws S) := by unfold outS; rw [hl, Int.toNat_natCast, ← hB]
  have hBr : ∀ i ∈ B, 0 ≤ i ∧ i < (baseS t ws S).length := fun i hi => by rw [baseS_len]; exact hrr i (by rw [hBD]; simp [hi])
  rw [hBD] at rp rs
  obtain ⟨p1, p2, p3⟩ := List.pairwise_append.1 rs
  have hBn : B.Nodup := List.Pairwise.imp (fun {x y} (h : ltK _ x y) => (fun e : x = y => (ltK_sto _).irr y (e ▸ h))) p1
  have hbase : ∀ i < ws.length, gI (baseS t ws S) i = t * gI ws i / S := fun i hi => by
    rw [gI_get (by rw [baseS_len]; exact hi), gI_get hi]; simp [baseS]
  have hg : ∀ i < ws.length, gI (outS t ws S) i = t * gI ws i / S + if (i : Int) ∈ B then 1 else 0 := fun i hi => by
    rw [hout, gI_bumps B _ i hBn hBr, hbase i hi]
  have hmem : ∀ i < ws.length, (i : Int) ∉ B → (i : Int) ∈ D := fun i hi h => by
    have h1 : (i : Int) ∈ ixs ws.length := by unfold ixs; exact List.mem_map.2 ⟨i, List.mem_range.2 hi, rfl⟩
    have h2 := rp.mem_iff.2 h1
    rcases List.mem_append.1 h2 with h3 | h3
    · exact absurd h3 h
    · exact h3
  have hrem : ∀ i : Nat, remS t ws S i = (t * gI ws i) % S := fun i => by unfold remS; rw [Int.toNat_natCast]
  have hord : ∀ i k : Nat, i < ws.length → k < ws.length → (i : Int) ∈ B → (k : Int) ∉ B → (t * gI ws k) % S < (t * gI ws i) % S ∨ ((t * gI ws k) % S = (t * gI ws i) % S ∧ i < k) := fun i k hi hk h1 h2 => by
    have h3 := p3 i h1 k (hmem k hk h2)
    unfold ltK at h3
    dsimp only at h3
    rw [hrem, hrem] at h3
    omega
  have hdiv : ∀ i : Nat, (t * gI ws i) % S + S * (t * gI ws i / S) = t * gI ws i := fun i => Int.emod_add_mul_ediv _ _
  have hpos : 0 < n → 0 < t := fun h => by
    rcases Int.lt_or_eq_of_le ht with h1 | h1
    · exact h1
    · exfalso
      unfold leftS at hl
      have h2 : isum (baseS t ws S) = 0 := isum_zero _ (fun x hx => by
        unfold baseS at hx
        obtain ⟨u, _, rfl⟩ := List.mem_map.1 hx
        rw [← h1]; simp)
      rw [h2, ← h1] at hl
      omega
  have hmono : ∀ i k : Nat, gI ws i ≤ gI ws k → t * gI ws i / S ≤ t * gI ws k / S := fun i k h => Int.ediv_le_ediv (by omega) (Int.mul_le_mul_of_nonneg_left h ht)
  -- where quotients are equal and one weight is greater, so is its rest
  have hmore : ∀ i k : Nat, 0 < t → gI ws i < gI ws k → t * gI ws i / S = t * gI ws k / S → (t * gI ws i) % S < (t * gI ws k) % S := fun i k h1 h2 h3 => by
    have d1 := hdiv i
    have d2 := hdiv k
    rw [h3] at d1
    have := Int.mul_lt_mul_of_pos_left h2 h1
    omega
  have hBpos : ∀ i : Int, i ∈ B → 0 < n := fun i hi => by rw [← hBl]; exact List.length_pos_of_mem hi
  refine ⟨by rw [hout, bumps_len, baseS_len], ?_, fun i hi => ?_, fun i hi h => ?_, fun i k hi hk => ?_⟩
  · rw [hout, isum_bumps B _ hBr, hBl]
    unfold leftS at hl
    omega
  · rw [hg i hi]; split <;> omega
  · intro h0
    rw [hg i hi] at h
    have hiB : (i : Int) ∈ B := by
      by_cases h1 : (i : Int) ∈ B
      · exact h1
      · rw [if_neg h1] at h; omega
    have hr0 : ∀ j : Int, 0 ≤ remS t ws S j := fun j => by unfold remS; exact Int.emod_nonneg _ (by omega)
    have hD0 : isum (D.map (remS t ws S)) = 0 := isum_zero _ (fun x hx => by
      obtain ⟨j, hj, rfl⟩ := List.mem_map.1 hx
      have h3 := p3 i hiB j hj
      unfold ltK at h3
      dsimp only at h3
      rw [hrem, h0] at h3
      have := hr0 j
      omega)
    have hB1 : isum (B.map (remS t ws S)) + (S - 1) ≤ (B.map (remS t ws S)).length * (S - 1) := isum_le_zero (S - 1) (by omega) _ (fun x hx => by
      obtain ⟨j, _, rfl⟩ := List.mem_map.1 hx
      have : remS t ws S j < S := by unfold remS; exact Int.emod_lt_of_pos _ (by omega)
      omega) (List.mem_map.2 ⟨i, hiB, by rw [hrem, h0]⟩)
    have hall : isum ((B ++ D).map (remS t ws S)) = isum (ws.map fun u => (t * u) % S) := by rw [← ixs_rem]; exact isum_perm (rp.map _)
    rw [List.map_append, isum_append, hD0, Int.add_zero] at hall
    rw [hall, List.length_map, hBl] at hB1
    unfold leftS at hl
    have h9 : S * (isum (baseS t ws S)) + isum (ws.map fun u => (t * u) % S) = t * S := by rw [hbr, hSe]
    have h10 : isum (baseS t ws S) = t - n := by omega
    rw [h10, Int.mul_sub, Int.mul_comm S t, Int.mul_comm S n] at h9
    have h11 : (n : Int) * (S - 1) = n * S - n := by rw [Int.mul_sub, Int.mul_one]
    have := hBpos i hiB
    omega
  · have hkl : k < ws.length := by omega
    rw [hg i hi, hg k hkl]
    refine ⟨fun ⟨h1, h2⟩ => ?_, fun ⟨h1, h2⟩ => ?_, fun ⟨h1, h2⟩ => ?_⟩
    · have m1 := hmono k i (by omega)
      by_cases b1 : (k : Int) ∈ B <;> by_cases b2 : (i : Int) ∈ B <;> simp only [b1, b2, if_true, if_false] at h2 <;> try omega
      have h3 := hord k i hkl hi b1 b2
      have h4 := hmore k i (hpos (hBpos _ b1)) h1 (by omega)
      omega
    · rw [h1] at h2
      by_cases b1 : (k : Int) ∈ B <;> by_cases b2 : (i : Int) ∈ B <;> simp only [b1, b2, if_true, if_false] at h2 <;> try omega
      have h3 := hord i k hi hkl b2 b1
      rw [h1] at h3
      omega
    · have m1 := hmono i k (by omega)
      by_cases b1 : (k : Int) ∈ B <;> by_cases b2 : (i : Int) ∈ B <;> simp only [b1, b2, if_true, if_false] at h2 <;> try omega
      have h3 := hord i k hi hkl b2 b1
      have h4 := hmore i k (hpos (hBpos _ b2)) h1 (by omega)
      omega
end Go.Proofs.Ytekplfbfkfiabaa
