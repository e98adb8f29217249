/- The groups that the program finds: as many as there can be. -/
import Derived.Test.YtekplfbfkfiabaaPlainMt
namespace Go.Proofs.Ytekplfbfkfiabaa
open Go.RowKit
set_option linter.unusedVariables false
set_option linter.unusedSimpArgs false

def vB (S M : List Int) (t s : Nat) : Prop := s &&& lowN t ≠ 0 ∧ gI S s = 0 ∧ gI M (t ^^^ s) + 1 = gI M t
theorem bFold (S M : List Int) (t : Nat) : ∀ (Ls : List Nat) (b : Nat), (∀ s ∈ Ls, s ≠ 0) →
    (Ls.foldl (bStep S M t) b = b ∨ Ls.foldl (bStep S M t) b ∈ Ls ∧ vB S M t (Ls.foldl (bStep S M t) b)) ∧ ((b ≠ 0 ∨ ∃ s ∈ Ls, vB S M t s) → Ls.foldl (bStep S M t) b ≠ 0)
  | [], b, _ => ⟨.inl rfl, fun h => by
      rcases h with h | ⟨s, hs, _⟩
      · exact h
      · cases hs⟩
  | x :: Ls, b, h0 => by
    rw [List.foldl_cons]
    have key : (bStep S M t b x = b ∧ (¬ vB S M t x ∨ b ≠ 0)) ∨ (bStep S M t b x = x ∧ vB S M t x) := by
      unfold bStep vB
      by_cases h1 : x &&& lowN t = 0 ∨ gI S x ≠ 0 ∨ gI M (t ^^^ x) + 1 ≠ gI M t
      · rw [if_pos h1]
        refine .inl ⟨rfl, .inl fun hh => ?_⟩
        rcases h1 with h1 | h1 | h1
        · exact hh.1 h1
        · exact h1 hh.2.1
        · exact h1 hh.2.2
      · rw [if_neg h1]
        have hv : x &&& lowN t ≠ 0 ∧ gI S x = 0 ∧ gI M (t ^^^ x) + 1 = gI M t :=
          ⟨fun e => h1 (.inl e), Decidable.not_not.1 fun e => h1 (.inr (.inl e)), Decidable.not_not.1 fun e => h1 (.inr (.inr e))⟩
        by_cases h2 : b = 0 ∨ lowN (x ^^^ b) &&& x ≠ 0
        · rw [if_pos h2]; exact .inr ⟨rfl, hv⟩
        · rw [if_neg h2]; exact .inl ⟨rfl, .inr fun e => h2 (.inl e)⟩
    obtain ⟨i1, i2⟩ := bFold S M t Ls (bStep S M t b x) (fun s hs => h0 s (by simp [hs]))
    refine ⟨?_, fun hh => i2 ?_⟩
    · rcases i1 with i1 | ⟨i1, i3⟩
      · rw [i1]
        rcases key with ⟨k1, _⟩ | ⟨k1, k2⟩
        · exact .inl k1
        · rw [k1]; exact .inr ⟨by simp, k2⟩
      · exact .inr ⟨by simp [i1], i3⟩
    · rcases key with ⟨k1, k2⟩ | ⟨k1, k2⟩
      · rw [k1]
        rcases k2 with k2 | k2
        · rcases hh with hh | ⟨s, hs, hv⟩
          · exact .inl hh
          · rcases List.mem_cons.1 hs with rfl | hs
            · exact absurd hv k2
            · exact .inr ⟨s, hs, hv⟩
        · exact .inl k2
      · rw [k1]; exact .inl (h0 x (by simp))
theorem best_ok {l : List Int} (hn : l.length ≤ 10) {t : Nat} (ht : t < 2 ^ l.length) (h0 : t ≠ 0) (hz : sumB l t = 0) :
    Sub (bestO (tS l) (tM l) t) t ∧ bestO (tS l) (tM l) t &&& lowN t ≠ 0 ∧ sumB l (bestO (tS l) (tM l) t) = 0 ∧ gI (tM l) (t ^^^ bestO (tS l) (tM l) t) + 1 = gI (tM l) t := by
  obtain ⟨b1, b2⟩ := bFold (tS l) (tM l) t (subL t) 0 (fun s hs => (subL_mem.1 hs).1)
  obtain ⟨s, h1, h2, h3, h4⟩ := (tM_spec hn ht).one h0 hz
  have hne : bestO (tS l) (tM l) t ≠ 0 := b2 (.inr ⟨s, subL_mem.2 ⟨low_ne h2, h1⟩, h2, by rw [tS_spec hn (by have := h1.le; omega)]; exact h3, h4.symm⟩)
  rcases b1 with b1 | ⟨b1, b3, b4, b5⟩
  · exact absurd b1 hne
  · have hs := (subL_mem.1 b1).2
    rw [tS_spec hn (by have := hs.le; omega)] at b4
    exact ⟨hs, b3, b4, b5⟩
/-- The groups one after the other: each has the first party of those that are left. -/
def Chain (l : List Int) : Nat → List Nat → Prop
  | t, [] => t = 0
  | t, B :: Bs => Sub B t ∧ B &&& lowN t ≠ 0 ∧ sumB l B = 0 ∧ Chain l (t ^^^ B) Bs
def idx : List Nat → Nat → Nat
  | [], _ => 0
  | B :: Bs, i => if B.testBit i then 0 else idx Bs i + 1
theorem idx_cons (B : Nat) (Bs : List Nat) (i : Nat) : idx (B :: Bs) i = if B.testBit i then 0 else idx Bs i + 1 := rfl
theorem shr_bit (b i : Nat) : (b >>> i &&& 1 = 1) ↔ b.testBit i = true := by
  unfold Nat.testBit
  rw [Nat.and_comm 1, Nat.and_one_is_mod]
  rcases Nat.mod_two_eq_zero_or_one (b >>> i) with h | h <;> rw [h] <;> decide
theorem gI_mark (b : Nat) (num : Int) (o : List Int) : ∀ k, k ≤ o.length → ∀ i, gI (mark b num k o) i = if i < k ∧ b.testBit i = true then num else gI o i
  | 0, _, i => by rw [if_neg (by omega)]; rfl
  | k + 1, hk, i => by
    rw [mark_succ]
    by_cases hb : b >>> k &&& 1 = 1
    · rw [if_pos hb, gI_setN _ _ _ _ (by rw [mark_len]; omega), gI_mark b num o k (by omega) i]
      have hb2 := (shr_bit b k).1 hb
      by_cases hik : i = k
      · subst hik; rw [if_pos rfl, if_pos ⟨by omega, hb2⟩]
      · rw [if_neg hik]
        by_cases h2 : i < k ∧ b.testBit i = true
        · rw [if_pos h2, if_pos ⟨by omega, h2.2⟩]
        · rw [if_neg h2, if_neg (fun h3 => h2 ⟨by omega, h3.2⟩)]
    · rw [if_neg hb, gI_mark b num o k (by omega) i]
      have hb2 : ¬ b.testBit k = true := fun h => hb ((shr_bit b k).2 h)
      by_cases h2 : i < k ∧ b.testBit i = true
      · rw [if_pos h2, if_pos ⟨by omega, h2.2⟩]
      · rw [if_neg h2, if_neg (fun h3 => h2 ⟨?_, h3.2⟩)]
        rcases Nat.lt_or_ge i k with h4 | h4
        · exact h4
        · have : i = k := by omega
          rw [this] at h3; exact absurd h3.2 hb2
theorem grp_ok {l : List Int} (hn : l.length ≤ 10) : ∀ (m f t : Nat) (num : Nat) (o : List Int), t < 2 ^ l.length → sumB l t = 0 → gI (tM l) t = (m : Int) → m ≤ f → o.length = l.length →
    ∃ Bs o', Bs.length = m ∧ Chain l t Bs ∧ grp (tS l) (tM l) f t num o = some o' ∧ o'.length = l.length ∧ ∀ i, i < l.length → gI o' i = if t.testBit i = true then (num : Int) + (idx Bs i : Int) else gI o i
  | m, f, t, num, o, ht, hz, hm, hf, ho => by
    by_cases h0 : t = 0
    · subst h0
      have := (tM_spec hn ht).zero rfl
      refine ⟨[], o, by simp; omega, rfl, ?_, ho, fun i _ => by simp⟩
      cases f <;> rfl
    · obtain ⟨b1, b2, b3, b4⟩ := best_ok hn ht h0 hz
      obtain ⟨b, hb⟩ : ∃ b, b = bestO (tS l) (tM l) t := ⟨_, rfl⟩
      rw [← hb] at b1 b2 b3 b4
      have hxl := xor_lt b1 (low_ne b2)
      have hsp := sumB_split l b1
      have hz2 : sumB l (t ^^^ b) = 0 := by omega
      -- the rest is not below zero
      have hge : 0 ≤ gI (tM l) (t ^^^ b) := by
        have hs2 := tM_spec hn (show t ^^^ b < 2 ^ l.length by omega)
        by_cases h1 : t ^^^ b = 0
        · rw [hs2.zero h1]; omega
        · have h1024 : 2 ^ l.length ≤ 1024 := Nat.le_trans (Nat.pow_le_pow_right (by omega) hn) (by decide)
          have h2 := hs2.all h1 hz2 (t ^^^ b) (Sub.refl _) (and_low (by omega) h1) hz2
          rw [Nat.xor_self, (tM_spec hn (Nat.two_pow_pos _)).zero rfl] at h2
          omega
      match m, f, hm, hf with
      | 0, _, hm, _ => omega
      | m + 1, f + 1, hm, hf =>
        obtain ⟨Bs, o', q1, q2, q3, q4, q5⟩ := grp_ok hn m f (t ^^^ b) (num + 1) (mark b num o.length o) (by omega) hz2 (by omega) (by omega) (by rw [mark_len]; exact ho)
        refine ⟨b :: Bs, o', by simp [q1], ⟨b1, b2, b3, q2⟩, ?_, q4, fun i hi => ?_⟩
        · show (if t = 0 then some o else grp (tS l) (tM l) f (t ^^^ bestO (tS l) (tM l) t) (num + 1) (mark (bestO (tS l) (tM l) t) (num : Int) o.length o)) = some o'
          rw [if_neg h0, ← hb]
          exact q3
        · rw [q5 i hi, gI_mark b num o o.length (Nat.le_refl _) i, Nat.testBit_xor]
          rw [idx_cons]
          cases hbi : b.testBit i with
          | true =>
            rw [b1 i hbi]
            simp only [Bool.xor_self, Bool.false_eq_true, if_false, if_true]
            rw [if_pos ⟨by omega, trivial⟩]; simp
          | false =>
            cases hti : t.testBit i with
            | true => simp; omega
            | false => simp
termination_by m => m
/-- The groups of all parties. -/
theorem groups_ok {l : List Int} (hn : l.length ≤ 10) (hz : isum l = 0) : ∃ Bs G, groupsP l = some G ∧ (Bs.length : Int) = gI (tM l) (2 ^ l.length - 1) ∧ Chain l (2 ^ l.length - 1) Bs ∧ G.length = l.length ∧ ∀ i, i < l.length → gI G i = (idx Bs i : Int) := by
  have hp := Nat.two_pow_pos l.length
  have hz2 : sumB l (2 ^ l.length - 1) = 0 := by rw [sumB_full, hz]
  have hge : 0 ≤ gI (tM l) (2 ^ l.length - 1) := by
    have hs2 := tM_spec hn (show 2 ^ l.length - 1 < 2 ^ l.length by omega)
    by_cases h1 : 2 ^ l.length - 1 = 0
    · rw [hs2.zero h1]; omega
    · have h1024 : 2 ^ l.length ≤ 1024 := Nat.le_trans (Nat.pow_le_pow_right (by omega) hn) (by decide)
      have h2 := hs2.all h1 hz2 _ (Sub.refl _) (and_low (by omega) h1) hz2
      rw [Nat.xor_self, (tM_spec hn hp).zero rfl] at h2
      omega
  obtain ⟨m, hm⟩ := Int.eq_ofNat_of_zero_le hge
  have hc := tM_card hn (2 ^ l.length - 1) (by omega)
  rw [card_full] at hc
  obtain ⟨Bs, o', q1, q2, q3, q4, q5⟩ := grp_ok hn m 11 (2 ^ l.length - 1) 0 (List.replicate l.length 0) (by omega) hz2 hm (by omega) (by simp)
  refine ⟨Bs, o', q3, by rw [q1, hm], q2, q4, fun i hi => ?_⟩
  rw [q5 i hi, full_bit]
  simp [hi]
/-- No other groups are more. -/
theorem opt {l : List Int} (hn : l.length ≤ 10) : ∀ t, t < 2 ^ l.length → sumB l t = 0 → ∀ Bs : List Nat, (∀ B ∈ Bs, B ≠ 0 ∧ Sub B t ∧ sumB l B = 0) → Bs.Pairwise (fun x y => ∀ i, ¬ (x.testBit i = true ∧ y.testBit i = true)) →
    (∀ i, t.testBit i = true → ∃ B ∈ Bs, B.testBit i = true) → (Bs.length : Int) ≤ gI (tM l) t := by
  intro t
  induction t using Nat.strongRecOn with
  | ind t ih =>
    intro ht hz Bs hB hp hc
    have hm := tM_spec hn ht
    by_cases h0 : t = 0
    · subst h0
      have : Bs = [] := by
        cases Bs with
        | nil => rfl
        | cons B _ =>
          obtain ⟨h1, h2, _⟩ := hB B (by simp)
          exact absurd (Nat.le_zero.1 h2.le) h1
      subst this
      rw [hm.zero rfl]; simp
    · have h1024 : 2 ^ l.length ≤ 1024 := Nat.le_trans (Nat.pow_le_pow_right (by omega) hn) (by decide)
      obtain ⟨i0, _, hlow, hbit, _⟩ := low_bit (t := t) (by omega) h0
      obtain ⟨B, hBm, hBi⟩ := hc i0 hbit
      obtain ⟨b1, b2, b3⟩ := hB B hBm
      have hperm := List.perm_cons_erase hBm
      have hp2 := (hperm.pairwise_iff (fun {x y} (h : ∀ i, ¬ (x.testBit i = true ∧ y.testBit i = true)) i hh => h i ⟨hh.2, hh.1⟩)).1 hp
      obtain ⟨p1, p2⟩ := List.pairwise_cons.1 hp2
      have hsp := sumB_split l b2
      have hxl := xor_lt b2 b1
      have hi := ih (t ^^^ B) hxl (by omega) (by omega) (Bs.erase B) (fun C hC => by
        obtain ⟨c1, c2, c3⟩ := hB C (List.mem_of_mem_erase hC)
        refine ⟨c1, fun i hi => ?_, c3⟩
        rw [Nat.testBit_xor, c2 i hi]
        cases hb : B.testBit i with
        | false => rfl
        | true => exact absurd ⟨hb, hi⟩ (p1 C hC i)) p2 (fun i hi => by
          rw [Nat.testBit_xor] at hi
          cases hti : t.testBit i with
          | true =>
            obtain ⟨C, hC, hCi⟩ := hc i hti
            rcases List.mem_cons.1 (hperm.mem_iff.1 hC) with rfl | h
            · rw [hti, hCi] at hi; cases hi
            · exact ⟨C, h, hCi⟩
          | false =>
            cases hb : B.testBit i with
            | true => rw [b2 i hb] at hti; cases hti
            | false => rw [hti, hb] at hi; cases hi)
      have hle := hm.all h0 hz B b2 (by rw [hlow]; exact and_pow.2 hBi) b3
      have hlen : Bs.length = (Bs.erase B).length + 1 := by rw [hperm.length_eq]; rfl
      omega
end Go.Proofs.Ytekplfbfkfiabaa
