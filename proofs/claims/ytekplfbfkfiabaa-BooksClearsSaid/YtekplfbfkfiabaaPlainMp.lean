/- Payments: no fewer clear the balances. -/
import Derived.Test.YtekplfbfkfiabaaPlainMg
import Derived.Test.YtekplfbfkfiabaaClrC
namespace Go.Proofs.Ytekplfbfkfiabaa
open Go.RowKit
set_option linter.unusedVariables false
set_option linter.unusedSimpArgs false

theorem sumB_set (l : List Int) (a : Nat) (x : Int) (s : Nat) (ha : a < l.length) : sumB (l.set a x) s = sumB l s + if s.testBit a = true then x - gI l a else 0 := by
  have h := isum_one (if s.testBit a = true then x - gI l a else 0) a l.length
  rw [if_pos ha] at h
  rw [← h]
  unfold sumB
  rw [List.length_set]
  refine isum_map_add _ _ _ _ fun i hi => ?_
  rw [List.mem_range] at hi
  rw [gI_setN _ _ _ _ ha]
  by_cases hia : i = a
  · subst hia; rw [if_pos rfl, if_pos rfl]; split <;> omega
  · rw [if_neg hia, if_neg (show ¬ a = i from fun e => hia e.symm)]; omega
/-- Groups of parties that add up to 0 each. -/
structure ZF (v : List Int) (Bs : List Nat) : Prop where
  all : ∀ B ∈ Bs, B ≠ 0 ∧ Sub B (2 ^ v.length - 1) ∧ sumB v B = 0
  dis : Bs.Pairwise (fun x y => ∀ i, ¬ (x.testBit i = true ∧ y.testBit i = true))
  cov : ∀ i, (2 ^ v.length - 1).testBit i = true → ∃ B ∈ Bs, B.testBit i = true
theorem dis_symm {x y : Nat} (h : ∀ i, ¬ (x.testBit i = true ∧ y.testBit i = true)) (i : Nat) : ¬ (y.testBit i = true ∧ x.testBit i = true) := fun hh => h i ⟨hh.2, hh.1⟩
theorem ZF.opt {l : List Int} (hn : l.length ≤ 10) (hz : isum l = 0) {Bs : List Nat} (h : ZF l Bs) : (Bs.length : Int) ≤ gI (tM l) (2 ^ l.length - 1) :=
  Go.Proofs.Ytekplfbfkfiabaa.opt hn _ (by have := Nat.two_pow_pos l.length; omega) (by rw [sumB_full, hz]) Bs h.all h.dis h.cov
/-- A payment takes away one group at most. -/
theorem ZF.pay {v : List Int} {a b : Nat} {x y : Int} (ha : a < v.length) (hb : b < v.length) (hab : a ≠ b) (hxy : x + y = gI v a + gI v b) {Bs : List Nat} (h : ZF ((v.set a x).set b y) Bs) : ∃ Bs', ZF v Bs' ∧ Bs.length ≤ Bs'.length + 1 := by
  have hl : ((v.set a x).set b y).length = v.length := by simp
  have hs : ∀ s, sumB ((v.set a x).set b y) s = sumB v s + (if s.testBit a = true then x - gI v a else 0) + (if s.testBit b = true then y - gI v b else 0) := fun s => by
    rw [sumB_set _ b y s (by simpa using hb), sumB_set v a x s ha, gI_setN _ _ _ _ ha, if_neg (show ¬ b = a from fun e => hab e.symm)]
  obtain ⟨hall, hdis, hcov⟩ := h
  rw [hl] at hall hcov
  have fa : (2 ^ v.length - 1).testBit a = true := by rw [full_bit]; simpa using ha
  have fb : (2 ^ v.length - 1).testBit b = true := by rw [full_bit]; simpa using hb
  obtain ⟨A, hA, hAa⟩ := hcov a fa
  obtain ⟨B, hB, hBb⟩ := hcov b fb
  have hperm := List.perm_cons_erase hA
  have hp2 := (hperm.pairwise_iff (fun {x y} h => dis_symm h)).1 hdis
  obtain ⟨p1, p2⟩ := List.pairwise_cons.1 hp2
  by_cases hAB : A.testBit b = true
  · refine ⟨Bs, ⟨fun C hC => ?_, hdis, hcov⟩, Nat.le_succ _⟩
    obtain ⟨c1, c2, c3⟩ := hall C hC
    refine ⟨c1, c2, ?_⟩
    rw [hs] at c3
    rcases List.mem_cons.1 (hperm.mem_iff.1 hC) with rfl | hC2
    · rw [if_pos hAa, if_pos hAB] at c3; omega
    · have h1 : ¬ C.testBit a = true := fun h => p1 C hC2 a ⟨hAa, h⟩
      have h2 : ¬ C.testBit b = true := fun h => p1 C hC2 b ⟨hAB, h⟩
      rw [if_neg h1, if_neg h2] at c3; omega
  · have hBA : B ≠ A := fun e => by rw [e] at hBb; exact hAB hBb
    have hB2 : B ∈ Bs.erase A := (List.mem_erase_of_ne hBA).2 hB
    have hperm2 := List.perm_cons_erase hB2
    have hp3 := (hperm2.pairwise_iff (fun {x y} h => dis_symm h)).1 p2
    obtain ⟨r1, r2⟩ := List.pairwise_cons.1 hp3
    have hBa : ¬ B.testBit a = true := fun h => p1 B hB2 a ⟨hAa, h⟩
    obtain ⟨a1, a2, a3⟩ := hall A hA
    obtain ⟨b1, b2, b3⟩ := hall B hB
    have hdAB := p1 B hB2
    have hbit : ∀ i, (A ^^^ B).testBit i = (A.testBit i || B.testBit i) := fun i => by
      rw [Nat.testBit_xor]
      cases ha : A.testBit i <;> cases hb : B.testBit i <;> try rfl
      exact absurd ⟨ha, hb⟩ (hdAB i)
    have hsub : Sub A (A ^^^ B) := fun i hi => by rw [hbit, hi]; rfl
    have hsp := sumB_split v hsub
    have hxx : A ^^^ B ^^^ A = B := by rw [Nat.xor_comm A B, Nat.xor_assoc, Nat.xor_self, Nat.xor_zero]
    rw [hxx] at hsp
    rw [hs, if_pos hAa, if_neg hAB] at a3
    rw [hs, if_neg hBa, if_pos hBb] at b3
    have hmemR : ∀ C ∈ (Bs.erase A).erase B, C ∈ Bs ∧ C ∈ Bs.erase A := fun C hC => ⟨List.mem_of_mem_erase (List.mem_of_mem_erase hC), List.mem_of_mem_erase hC⟩
    refine ⟨(A ^^^ B) :: (Bs.erase A).erase B, ⟨fun C hC => ?_, List.pairwise_cons.2 ⟨fun C hC i hh => ?_, r2⟩, fun i hi => ?_⟩, ?_⟩
    · rcases List.mem_cons.1 hC with rfl | hC
      · refine ⟨fun e => ?_, fun i hi => ?_, by omega⟩
        · have := hsub a hAa
          rw [e, Nat.zero_testBit] at this; cases this
        · rw [hbit, Bool.or_eq_true] at hi
          rcases hi with hi | hi
          · exact a2 i hi
          · exact b2 i hi
      · obtain ⟨c1, c2, c3⟩ := hall C (hmemR C hC).1
        have h1 : ¬ C.testBit a = true := fun h => p1 C (hmemR C hC).2 a ⟨hAa, h⟩
        have h2 : ¬ C.testBit b = true := fun h => r1 C hC b ⟨hBb, h⟩
        rw [hs, if_neg h1, if_neg h2] at c3
        exact ⟨c1, c2, by omega⟩
    · obtain ⟨h1, h2⟩ := hh
      rw [hbit, Bool.or_eq_true] at h1
      rcases h1 with h1 | h1
      · exact p1 C (hmemR C hC).2 i ⟨h1, h2⟩
      · exact r1 C hC i ⟨h1, h2⟩
    · obtain ⟨C, hC, hCi⟩ := hcov i hi
      rcases List.mem_cons.1 (hperm.mem_iff.1 hC) with rfl | hC2
      · exact ⟨_, List.mem_cons_self, by rw [hbit, hCi]; rfl⟩
      · rcases List.mem_cons.1 (hperm2.mem_iff.1 hC2) with rfl | hC3
        · exact ⟨_, List.mem_cons_self, by rw [hbit, hCi]; simp⟩
        · exact ⟨C, by simp [hC3], hCi⟩
    · rw [hperm.length_eq, List.length_cons, hperm2.length_eq, List.length_cons, List.length_cons]
      omega
/-- Where all is cleared each party is a group of its own. -/
theorem ZF.last (v : List Int) (h0 : ∀ i, i < v.length → gI v i = 0) : ∃ Bs, ZF v Bs ∧ Bs.length = v.length := by
  refine ⟨(List.range v.length).map (2 ^ ·), ⟨fun B hB => ?_, ?_, fun i hi => ?_⟩, by simp⟩
  · obtain ⟨i, hi, rfl⟩ := List.mem_map.1 hB
    rw [List.mem_range] at hi
    exact ⟨Nat.ne_of_gt (Nat.two_pow_pos i), pow_sub (by rw [full_bit]; simpa using hi), by rw [sumB_pow v hi, h0 i hi]⟩
  · rw [List.pairwise_map]
    refine List.pairwise_lt_range.imp (fun {a b} hab i hh => ?_)
    rw [Nat.testBit_two_pow, Nat.testBit_two_pow] at hh
    have h1 : a = i := by simpa using hh.1
    have h2 : b = i := by simpa using hh.2
    omega
  · rw [full_bit, decide_eq_true_eq] at hi
    exact ⟨2 ^ i, List.mem_map.2 ⟨i, List.mem_range.2 hi, rfl⟩, Nat.testBit_two_pow_self⟩
/-- So many payments were made: the groups of what is left are so many more at most. -/
def PInv (l : List Int) (c : Int) (v : List Int) : Prop := v.length = l.length ∧ ∀ Bs, ZF v Bs → (Bs.length : Int) ≤ gI (tM l) (2 ^ l.length - 1) + c
theorem PInv.start {l : List Int} (hn : l.length ≤ 10) (hz : isum l = 0) : PInv l 0 l := ⟨rfl, fun Bs h => by have := h.opt hn hz; omega⟩
theorem PInv.pay {l v : List Int} {c : Int} (h : PInv l c v) {a b : Nat} {x y : Int} (ha : a < v.length) (hb : b < v.length) (hab : a ≠ b) (hxy : x + y = gI v a + gI v b) : PInv l (c + 1) ((v.set a x).set b y) :=
  ⟨by rw [List.length_set, List.length_set]; exact h.1, fun Bs hB => by
    obtain ⟨Bs', h1, h2⟩ := hB.pay ha hb hab hxy
    have := h.2 Bs' h1
    omega⟩
theorem PInv.last {l v : List Int} {c : Int} (h : PInv l c v) (h0 : ∀ i, i < v.length → gI v i = 0) : (l.length : Int) ≤ gI (tM l) (2 ^ l.length - 1) + c := by
  obtain ⟨Bs, h1, h2⟩ := ZF.last v h0
  have := h.2 Bs h1
  rw [h2, h.1] at this
  exact this
/-- Payments one by one, each from one who owes to one who is owed, in one group. -/
inductive Steps (G : List Int) : List Int → List PayD → List Int → Prop
  | nil (v : List Int) : Steps G v [] v
  | cons {v v' : List Int} {ps : List PayD} (a b : Nat) (ha : a < v.length) (hb : b < v.length) (h1 : gI v a < 0) (h2 : 0 < gI v b) (hg : gI G a = gI G b) (h : Steps G ((v.set a (gI v a + payN v a b)).set b (gI v b - payN v a b)) ps v') : Steps G v (⟨a, b, payN v a b⟩ :: ps) v'
theorem Steps.app {G v v' v'' : List Int} {ps qs : List PayD} (h : Steps G v ps v') (k : Steps G v' qs v'') : Steps G v (ps ++ qs) v'' := by
  induction h with
  | nil v => exact k
  | cons a b ha hb h1 h2 hg _ ih => exact .cons a b ha hb h1 h2 hg (ih k)
theorem Steps.len {G v v' : List Int} {ps : List PayD} (h : Steps G v ps v') : v'.length = v.length := by
  induction h with
  | nil v => rfl
  | cons a b ha hb h1 h2 hg _ ih => rw [ih]; simp
theorem Steps.inv {G v v' l : List Int} {ps : List PayD} {c : Int} (h : Steps G v ps v') (k : PInv l c v) : PInv l (c + ps.length) v' := by
  induction h generalizing c with
  | nil v => simpa using k
  | @cons v v' ps a b ha hb h1 h2 hg _ ih =>
    have := ih (k.pay ha hb (fun e => by subst e; omega) (by omega))
    have e : c + ((⟨a, b, payN v a b⟩ :: ps : List PayD).length : Int) = c + 1 + (ps.length : Int) := by rw [List.length_cons]; push_cast; omega
    rw [e]
    exact this
theorem firstI_none {left G : List Int} {num : Int} {owes : Bool} : ∀ (f i : Nat), firstI left G num owes f i = none → ∀ a, i ≤ a → a < i + f → okC left G num owes a = false
  | 0, i, _, a, h1, h2 => by omega
  | f + 1, i, h, a, h1, h2 => by
    unfold firstI at h
    split at h
    · cases h
    · rename_i hk
      rcases Nat.lt_or_eq_of_le h1 with h3 | h3
      · exact firstI_none f (i + 1) h a h3 (by omega)
      · subst h3; simpa using hk
theorem isum_nn0 : ∀ xs : List Int, (∀ x ∈ xs, 0 ≤ x) → isum xs = 0 → ∀ x ∈ xs, x = 0
  | [], _, _, x, hx => by cases hx
  | y :: ys, h, h0, x, hx => by
    have h1 := h y (by simp)
    have h2 := isum_nn ys (fun z hz => h z (by simp [hz]))
    simp only [isum] at h0
    rcases List.mem_cons.1 hx with rfl | hx
    · omega
    · exact isum_nn0 ys (fun z hz => h z (by simp [hz])) (by omega) x hx
/-- If no party of a set is below 0 and they add up to 0, all are at 0. -/
theorem sumB_all0 {v : List Int} {B : Nat} (h : ∀ i, i < v.length → B.testBit i = true → 0 ≤ gI v i) (h0 : sumB v B = 0) : ∀ i, i < v.length → B.testBit i = true → gI v i = 0 := fun i hi hb => by
  unfold sumB at h0
  have h1 := isum_nn0 _ (fun x hx => by
    obtain ⟨j, hj, rfl⟩ := List.mem_map.1 hx
    rw [List.mem_range] at hj
    by_cases hb : B.testBit j = true
    · rw [if_pos hb]; exact h j hj hb
    · rw [if_neg hb]; exact Int.le_refl _) h0 (gI v i) (List.mem_map.2 ⟨i, List.mem_range.2 hi, by rw [if_pos hb]⟩)
  exact h1
theorem isum_neg : ∀ xs : List Int, isum (xs.map fun x => -x) = - isum xs
  | [] => rfl
  | x :: xs => by simp only [List.map_cons, isum]; rw [isum_neg xs]; omega
theorem sumB_all0' {v : List Int} {B : Nat} (h : ∀ i, i < v.length → B.testBit i = true → gI v i ≤ 0) (h0 : sumB v B = 0) : ∀ i, i < v.length → B.testBit i = true → gI v i = 0 := fun i hi hb => by
  have hg : ∀ j, j < v.length → gI (v.map fun x => -x) j = - gI v j := fun j hj => by rw [gI_get (by simpa using hj), gI_get hj]; simp
  have h1 : sumB (v.map fun x => -x) B = 0 := by
    have e : sumB (v.map fun x => -x) B = - sumB v B := by
      unfold sumB
      rw [← isum_neg, List.map_map, List.length_map]
      refine isum_congr fun j hj => ?_
      rw [List.mem_range] at hj
      show (if B.testBit j = true then gI (v.map fun x => -x) j else 0) = -(if B.testBit j = true then gI v j else 0)
      by_cases hb : B.testBit j = true
      · rw [if_pos hb, if_pos hb]; exact hg j hj
      · rw [if_neg hb, if_neg hb]; rfl
    rw [e, h0]; rfl
  have h2 := sumB_all0 (v := v.map fun x => -x) (B := B) (fun j hj hb => by
    rw [List.length_map] at hj
    rw [hg j hj]
    have := h j hj hb
    omega) h1 i (by simpa using hi) hb
  rw [hg i hi] at h2
  omega
/-- How many of a set are not at 0. -/
def cnt (v : List Int) (B : Nat) : Int := sumB (v.map fun x => if x = 0 then 0 else 1) B
theorem cnt_nn (v : List Int) (B : Nat) : 0 ≤ cnt v B := sumB_nn (fun x hx => by
  obtain ⟨y, _, rfl⟩ := List.mem_map.1 hx
  split <;> omega) B
theorem cnt_set (v : List Int) {a : Nat} (x : Int) (B : Nat) (ha : a < v.length) (hB : B.testBit a = true) : cnt (v.set a x) B = cnt v B + (if x = 0 then 0 else 1) - (if gI v a = 0 then 0 else 1) := by
  unfold cnt
  rw [List.map_set, sumB_set _ _ _ _ (by simpa using ha), if_pos hB]
  have : gI (v.map fun x => if x = 0 then (0:Int) else 1) a = if gI v a = 0 then 0 else 1 := by rw [gI_get (by simpa using ha), gI_get ha]; simp
  rw [this]; omega
theorem cnt_card {v : List Int} (B : Nat) : cnt v B ≤ card v.length B := by
  unfold cnt card sumB
  rw [List.length_map, List.length_replicate]
  generalize hL : List.range v.length = L
  have hb : ∀ i ∈ L, i < v.length := fun i hi => by rw [← hL, List.mem_range] at hi; exact hi
  clear hL
  induction L with
  | nil => exact Int.le_refl _
  | cons i L ih =>
    simp only [List.map_cons, isum]
    have h1 := ih (fun j hj => hb j (by simp [hj]))
    have hi := hb i (by simp)
    have h2 : gI (v.map fun x => if x = 0 then (0:Int) else 1) i ≤ 1 := by
      rw [gI_get (by simpa using hi), List.getElem_map]; split <;> omega
    rw [gI_rep hi]
    split <;> omega
end Go.Proofs.Ytekplfbfkfiabaa
