/- The library's stable sort, in plain words: blocks that are sorted, and what they come to. -/
import Derived.Test.YtekplfbfkfiabaaStbP
namespace Go.Proofs.Ytekplfbfkfiabaa
open Go.RowKit
set_option linter.unusedVariables false
set_option linter.unusedSimpArgs false

/-- By a key, then by the number itself. -/
def ltK (key : Int → Int) (x y : Int) : Prop := key x < key y ∨ (key x = key y ∧ x < y)
theorem ltK_sto (key : Int → Int) : STO (ltK key) := by
  refine ⟨fun x h => ?_, fun {x y z} h k => ?_, fun {x y} h => ?_⟩
  · rcases h with h | h <;> omega
  · unfold ltK at *; omega
  · unfold ltK; omega
theorem sorted_unique {lt : Int → Int → Prop} (o : STO lt) : ∀ {l1 l2 : List Int}, l1.Perm l2 → l1.Pairwise lt → l2.Pairwise lt → l1 = l2
  | [], l2, hp, _, _ => (List.nil_perm.1 hp).symm
  | x :: l1, [], hp, _, _ => absurd hp.length_eq (by simp)
  | x :: l1, y :: l2, hp, h1, h2 => by
    obtain ⟨a1, a2⟩ := List.pairwise_cons.1 h1
    obtain ⟨b1, b2⟩ := List.pairwise_cons.1 h2
    have hxy : x = y := by
      have hx : x ∈ y :: l2 := hp.mem_iff.1 (by simp)
      have hy : y ∈ x :: l1 := hp.mem_iff.2 (by simp)
      rcases List.mem_cons.1 hx with h | hx
      · exact h
      · rcases List.mem_cons.1 hy with h | hy
        · exact h.symm
        · exact absurd (o.tr (a1 y hy) (b1 x hx)) (o.irr x)
    subst hxy
    rw [sorted_unique o (List.Perm.cons_inv hp) a2 b2]
theorem swapAt_eq (xs : List Int) (j : Nat) : swapAt xs j = swap2 xs (j + 1) j := rfl
theorem insJ_app {cmp : Int → Int → Int} {key : Int → Int} (hk : ∀ x y, cmp x y < 0 ↔ key x < key y) (pre : List Int) (x : Int) : ∀ (n : Nat) (S rest : List Int), S.length = n → S.Pairwise (ltK key) → (∀ z ∈ S, z < x) →
    ∃ M, M.Perm (S ++ [x]) ∧ M.Pairwise (ltK key) ∧ insJ cmp pre.length (pre.length + n) (pre ++ (S ++ (x :: rest))) = pre ++ (M ++ rest)
  | 0, S, rest, hl, hs, hx => by
    have h0 : S = [] := List.eq_nil_of_length_eq_zero hl
    subst h0
    exact ⟨[x], List.Perm.refl _, List.pairwise_singleton _ _, by rw [insJ_stop _ _ _ _ (by omega)]; simp⟩
  | n + 1, S, rest, hl, hs, hx => by
    have hne : S ≠ [] := by intro h0; rw [h0] at hl; cases hl
    obtain ⟨B, z, rfl⟩ : ∃ B z, S = B ++ [z] := ⟨S.dropLast, S.getLast hne, (List.dropLast_concat_getLast hne).symm⟩
    have hB : B.length = n := by simpa using hl
    obtain ⟨s1, s2, s3⟩ := List.pairwise_append.1 hs
    have e1 : pre ++ (B ++ [z] ++ (x :: rest)) = (pre ++ B) ++ (z :: x :: rest) := by simp
    have g1 : gI (pre ++ (B ++ [z] ++ (x :: rest))) (pre.length + n + 1) = x := by
      rw [e1, gI_right (by simp; omega), List.length_append, hB, show pre.length + n + 1 - (pre.length + n) = 0 + 1 by omega, gI_succ, gI_zero]
    have g0 : gI (pre ++ (B ++ [z] ++ (x :: rest))) (pre.length + n) = z := by
      rw [e1, gI_right (by simp; omega), List.length_append, hB, Nat.sub_self, gI_zero]
    by_cases hc : cmp x z < 0
    · have hsw : swapAt (pre ++ (B ++ [z] ++ (x :: rest))) (pre.length + n) = pre ++ (B ++ (x :: (z :: rest))) := by
        have h1 := swap2_next (pre ++ B) rest z x
        rw [swap2_comm _ (by omega), List.length_append, hB] at h1
        rw [swapAt_eq, e1, h1]
        simp
      obtain ⟨M, m1, m2, m3⟩ := insJ_app hk pre x n B (z :: rest) hB s1 (fun y hy => hx y (by simp [hy]))
      refine ⟨M ++ [z], ?_, List.pairwise_append.2 ⟨m2, List.pairwise_singleton _ _, fun y hy w hw => ?_⟩, ?_⟩
      · refine (m1.append_right [z]).trans ?_
        rw [List.append_assoc, List.append_assoc]
        exact List.Perm.append_left _ (List.Perm.swap _ _ _)
      · rw [List.mem_singleton.1 hw]
        rcases List.mem_append.1 (m1.mem_iff.1 hy) with h | h
        · exact s3 y h z (by simp)
        · rw [List.mem_singleton.1 h]; exact .inl ((hk x z).1 hc)
      · show insJ cmp pre.length (pre.length + n + 1) _ = _
        rw [insJ_go _ _ _ _ (by omega) (by rw [g1, g0]; exact hc), hsw, m3]
        simp
    · refine ⟨B ++ [z] ++ [x], List.Perm.refl _, List.pairwise_append.2 ⟨hs, List.pairwise_singleton _ _, fun y hy w hw => ?_⟩, ?_⟩
      · rw [List.mem_singleton.1 hw]
        have hzx : ltK key z x := by
          have h1 := hx z (by simp)
          have h2 : ¬ key x < key z := fun h => hc ((hk x z).2 h)
          unfold ltK; omega
        rcases List.mem_append.1 hy with h | h
        · exact (ltK_sto key).tr (s3 y h z (by simp)) hzx
        · rw [List.mem_singleton.1 h]; exact hzx
      · show insJ cmp pre.length (pre.length + n + 1) _ = _
        rw [insJ_end _ _ _ _ (by rw [g1, g0]; exact hc)]
        simp
theorem insN_app {cmp : Int → Int → Int} {key : Int → Int} (hk : ∀ x y, cmp x y < 0 ↔ key x < key y) (pre ys post : List Int) (hy : ys.Pairwise (· < ·)) : ∀ (c : Nat), c < ys.length →
    ∃ M, M.Perm (ys.take (c + 1)) ∧ M.Pairwise (ltK key) ∧ insN cmp pre.length c (pre ++ (ys ++ post)) = pre ++ (M ++ (ys.drop (c + 1) ++ post))
  | 0, h => by
    match ys, h with
    | y :: ys, _ => exact ⟨[y], List.Perm.refl _, List.pairwise_singleton _ _, rfl⟩
  | c + 1, h => by
    obtain ⟨M, m1, m2, m3⟩ := insN_app hk pre ys post hy c (by omega)
    have hd : ys.drop (c + 1) = ys[c + 1] :: ys.drop (c + 2) := List.drop_eq_getElem_cons h
    have hml : M.length = c + 1 := by rw [m1.length_eq, List.length_take]; omega
    obtain ⟨M2, p1, p2, p3⟩ := insJ_app hk pre ys[c + 1] (c + 1) M (ys.drop (c + 2) ++ post) hml m2 (fun z hz => by
      have hz2 := m1.mem_iff.1 hz
      obtain ⟨i, hi, rfl⟩ := List.getElem_of_mem hz2
      rw [List.getElem_take]
      rw [List.length_take] at hi
      exact List.pairwise_iff_getElem.1 hy i (c + 1) (by omega) h (by omega))
    refine ⟨M2, p1.trans ?_, p2, ?_⟩
    · rw [List.take_succ_eq_append_getElem h]
      exact m1.append_right _
    · show insJ cmp pre.length (pre.length + c + 1) (insN cmp pre.length c _) = _
      rw [m3, hd, show ys[c + 1] :: ys.drop (c + 2) ++ post = ys[c + 1] :: (ys.drop (c + 2) ++ post) from rfl]
      exact p3
/-- A whole range is sorted by insertion. -/
theorem insN_whole {cmp : Int → Int → Int} {key : Int → Int} (hk : ∀ x y, cmp x y < 0 ↔ key x < key y) (pre ys post : List Int) (hy : ys.Pairwise (· < ·)) :
    ∃ M, M.Perm ys ∧ M.Pairwise (ltK key) ∧ insN cmp pre.length (ys.length - 1) (pre ++ (ys ++ post)) = pre ++ (M ++ post) := by
  rcases Nat.eq_zero_or_pos ys.length with h | h
  · have h0 : ys = [] := List.eq_nil_of_length_eq_zero h
    subst h0
    exact ⟨[], List.Perm.refl _, List.Pairwise.nil, rfl⟩
  · obtain ⟨M, m1, m2, m3⟩ := insN_app hk pre ys post hy (ys.length - 1) (by omega)
    have e : ys.length - 1 + 1 = ys.length := by omega
    rw [e, List.take_length] at m1
    rw [e, List.drop_length] at m3
    exact ⟨M, m1, m2, m3⟩

def seg (xs : List Int) (a b : Nat) : List Int := (xs.drop a).take (b - a)
theorem seg_len {xs : List Int} {a b : Nat} (h1 : a ≤ b) (h2 : b ≤ xs.length) : (seg xs a b).length = b - a := by
  unfold seg; rw [List.length_take, List.length_drop]; omega
theorem seg_split (xs : List Int) {a b : Nat} (h : a ≤ b) : xs = xs.take a ++ (seg xs a b ++ xs.drop b) := by
  unfold seg
  have e : xs.drop b = (xs.drop a).drop (b - a) := by rw [List.drop_drop, show a + (b - a) = b by omega]
  rw [e, List.take_append_drop, List.take_append_drop]
theorem seg_split3 (xs : List Int) {a m b : Nat} (h1 : a ≤ m) (h2 : m ≤ b) : xs = xs.take a ++ (seg xs a m ++ (seg xs m b ++ xs.drop b)) := by
  conv => lhs; rw [seg_split xs h1]
  have e : xs.drop m = seg xs m b ++ xs.drop b := by
    unfold seg
    have e : xs.drop b = (xs.drop m).drop (b - m) := by rw [List.drop_drop, show m + (b - m) = b by omega]
    rw [e, List.take_append_drop]
  rw [e]
theorem seg_join (xs : List Int) {a m b : Nat} (h1 : a ≤ m) (h2 : m ≤ b) : seg xs a b = seg xs a m ++ seg xs m b := by
  unfold seg
  have e : b - a = (m - a) + (b - m) := by omega
  rw [e, List.take_add, List.drop_drop, show a + (m - a) = m by omega]
theorem seg_over (xs : List Int) {a b : Nat} (h : xs.length ≤ b) : seg xs a b = xs.drop a := by
  unfold seg; exact List.take_of_length_le (by rw [List.length_drop]; omega)
theorem seg_none (xs : List Int) {a b : Nat} (h : xs.length ≤ a) : seg xs a b = [] := by
  unfold seg; rw [List.drop_eq_nil_of_le h, List.take_nil]
theorem seg_left (A B : List Int) {a b : Nat} (h : b ≤ A.length) : seg (A ++ B) a b = seg A a b := by
  unfold seg
  rcases Nat.lt_or_ge a b with hab | hab
  · rw [List.drop_append_of_le_length (by omega), List.take_append_of_le_length (by rw [List.length_drop]; omega)]
  · rw [show b - a = 0 by omega]; rfl
theorem seg_right (A B : List Int) {a b : Nat} (h : A.length ≤ a) : seg (A ++ B) a b = seg B (a - A.length) (b - A.length) := by
  unfold seg
  rw [List.drop_append, List.drop_eq_nil_of_le h, List.nil_append]
  congr 1
  omega
theorem seg_take (xs : List Int) {a b c : Nat} (h : b ≤ c) : seg (xs.take c) a b = seg xs a b := by
  unfold seg
  rw [List.drop_take, List.take_take]
  congr 1
  omega
/-- Where the midst was put in another order, what lies to the left and to the right is as it was. -/
theorem seg_mid_left {pre M M' post : List Int} {a b : Nat} (h : b ≤ pre.length) : seg (pre ++ (M ++ post)) a b = seg (pre ++ (M' ++ post)) a b := by
  rw [seg_left _ _ h, seg_left _ _ h]
theorem seg_mid_right {pre M M' post : List Int} {a b : Nat} (hl : M.length = M'.length) (h : pre.length + M.length ≤ a) : seg (pre ++ (M ++ post)) a b = seg (pre ++ (M' ++ post)) a b := by
  rw [seg_right _ _ (by omega), seg_right _ _ (by omega), seg_right _ _ (by omega), seg_right _ _ (by omega), hl]
theorem seg_mid {pre M post : List Int} {a b : Nat} (h1 : a = pre.length) (h2 : b = a + M.length) : seg (pre ++ (M ++ post)) a b = M := by
  subst h1 h2
  rw [seg_right _ _ (Nat.le_refl _), seg_left _ _ (by omega)]
  unfold seg
  rw [Nat.sub_self, List.drop_zero]
  exact List.take_of_length_le (by omega)

/-- Block k of size s is sorted, and holds what it held. -/
def BlkOk (key : Int → Int) (ys : List Int) (s k : Nat) (xs : List Int) : Prop := (seg xs (s * k) (s * (k + 1))).Perm (seg ys (s * k) (s * (k + 1))) ∧ (seg xs (s * k) (s * (k + 1))).Pairwise (ltK key)
section
variable {key : Int → Int} {ys xs : List Int} {s k n c : Nat}
theorem BlkOk.none (hx : xs.length = n) (hy : ys.length = n) (h : n ≤ s * k) : BlkOk key ys s k xs := by
  unfold BlkOk
  rw [seg_none xs (by omega), seg_none ys (by omega)]
  exact ⟨List.Perm.refl _, List.Pairwise.nil⟩
/-- The midst [a, b) is put in another order: blocks beside it stay. -/
theorem BlkOk.keep {a b : Nat} {M : List Int} (hab : a ≤ b) (hb : b ≤ xs.length) (hM : M.length = b - a) (h : BlkOk key ys s k xs) (hd : s * (k + 1) ≤ a ∨ b ≤ s * k) : BlkOk key ys s k (xs.take a ++ (M ++ xs.drop b)) := by
  have e := seg_split xs hab
  have hl : (xs.take a).length = a := by rw [List.length_take]; omega
  have hs : (seg xs a b).length = b - a := seg_len hab hb
  have hh : seg (xs.take a ++ (M ++ xs.drop b)) (s * k) (s * (k + 1)) = seg xs (s * k) (s * (k + 1)) := by
    conv => rhs; rw [e]
    rcases hd with hd | hd
    · exact seg_mid_left (by omega)
    · exact seg_mid_right (by omega) (by omega)
  unfold BlkOk at *
  rw [hh]; exact h
theorem put_len {a b : Nat} {M : List Int} (hab : a ≤ b) (hb : b ≤ xs.length) (hM : M.length = b - a) : (xs.take a ++ (M ++ xs.drop b)).length = xs.length := by
  simp only [List.length_append, List.length_take, List.length_drop]; omega
/-- Two blocks beside each other may be merged. -/
theorem SymIn.blocks {cmp : Int → Int → Int} (hk : ∀ x y, cmp x y < 0 ↔ key x < key y) (hy : ys.Pairwise (· < ·)) {a m b : Nat} (ham : a ≤ m) (hmb : m ≤ b) {L R : List Int} (h1 : L.Perm (seg ys a m)) (h2 : L.Pairwise (ltK key)) (h3 : R.Perm (seg ys m b)) (h4 : R.Pairwise (ltK key)) : SymIn cmp (ltK key) L R := by
  refine ⟨h2, h4, fun x hx y hy2 => ?_⟩
  have hx2 := h1.mem_iff.1 hx
  have hy3 := h3.mem_iff.1 hy2
  have hlt : x < y := by
    have hj := seg_join ys ham hmb
    have hp : (seg ys a b).Pairwise (· < ·) := by unfold seg; exact (hy.drop).take
    rw [hj] at hp
    exact (List.pairwise_append.1 hp).2.2 x hx2 y hy3
  refine ⟨by omega, ?_⟩
  rw [hk]; unfold ltK
  constructor
  · exact .inl
  · rintro (h | ⟨_, h⟩)
    · exact h
    · omega
theorem BlkOk.get {a b : Nat} (h : BlkOk key ys s k xs) (ha : s * k = a) (hb : s * (k + 1) = b) : (seg xs a b).Perm (seg ys a b) ∧ (seg xs a b).Pairwise (ltK key) := by subst ha hb; exact h
theorem BlkOk.mk' {a b : Nat} (ha : s * k = a) (hb : s * (k + 1) = b) (h1 : (seg xs a b).Perm (seg ys a b)) (h2 : (seg xs a b).Pairwise (ltK key)) : BlkOk key ys s k xs := by subst ha hb; exact ⟨h1, h2⟩
theorem put_perm {a b : Nat} {M : List Int} (hab : a ≤ b) (hM : M.Perm (seg xs a b)) : (xs.take a ++ (M ++ xs.drop b)).Perm xs := by
  conv => rhs; rw [seg_split xs hab]
  exact List.Perm.append_left _ (hM.append_right _)
/-- While blocks of size s are merged to blocks of size 2 s: c of these are done, p is where they end. -/
structure Mids (key : Int → Int) (ys : List Int) (n s c p : Nat) (zs : List Int) : Prop where
  hy : ys.length = n
  hz : zs.length = n
  perm : zs.Perm ys
  done : ∀ k, k < c → BlkOk key ys (2 * s) k zs
  todo : ∀ k, 2 * c ≤ k → BlkOk key ys s k zs
  at_ : p = 2 * (s * c)
variable {p : Nat}
theorem Mids.num (h : Mids key ys n s c p xs) : s * (2 * c) = p ∧ s * (2 * c + 1) = p + s ∧ s * (2 * c + 1 + 1) = p + 2 * s ∧ 2 * s * c = p ∧ 2 * s * (c + 1) = p + 2 * s := by
  have h1 := h.at_
  have e1 : s * (2 * c) = 2 * (s * c) := Nat.mul_left_comm _ _ _
  have e2 : 2 * s * c = 2 * (s * c) := Nat.mul_assoc _ _ _
  have e3 : s * (2 * c + 1) = s * (2 * c) + s := Nat.mul_succ _ _
  have e4 : s * (2 * c + 1 + 1) = s * (2 * c + 1) + s := Nat.mul_succ _ _
  have e5 : 2 * s * (c + 1) = 2 * s * c + 2 * s := Nat.mul_succ _ _
  omega
theorem Mids.parts (h : Mids key ys n s c p xs) : ((seg xs p (p + s)).Perm (seg ys p (p + s)) ∧ (seg xs p (p + s)).Pairwise (ltK key)) ∧ (seg xs (p + s) (p + 2 * s)).Perm (seg ys (p + s) (p + 2 * s)) ∧ (seg xs (p + s) (p + 2 * s)).Pairwise (ltK key) := by
  obtain ⟨e1, e2, e3, e4, e5⟩ := h.num
  exact ⟨(h.todo (2 * c) (Nat.le_refl _)).get e1 e2, (h.todo (2 * c + 1) (by omega)).get e2 e3⟩
theorem Mids.step (h : Mids key ys n s c p xs) (hq : p + 2 * s ≤ n) {M : List Int} (hM : Mgd (ltK key) (seg xs p (p + s)) (seg xs (p + s) (p + 2 * s)) M) : Mids key ys n s (c + 1) (p + 2 * s) (xs.take p ++ (M ++ xs.drop (p + 2 * s))) := by
  obtain ⟨e1, e2, e3, e4, e5⟩ := h.num
  obtain ⟨⟨l1, l2⟩, r1, r2⟩ := h.parts
  have hz := h.hz
  have hml : M.length = p + 2 * s - p := by rw [hM.len, seg_len (by omega) (by omega), seg_len (by omega) (by omega)]; omega
  have hj := seg_join xs (a := p) (m := p + s) (b := p + 2 * s) (by omega) (by omega)
  have hj2 := seg_join ys (a := p) (m := p + s) (b := p + 2 * s) (by omega) (by omega)
  refine ⟨h.hy, by rw [put_len (by omega) (by omega) hml, hz], (put_perm (by omega) (by rw [hj]; exact hM.1)).trans h.perm, fun k hk => ?_, fun k hk => ?_, by rw [Nat.mul_succ]; have := h.at_; omega⟩
  · rcases Nat.lt_or_ge k c with hk2 | hk2
    · refine (h.done k hk2).keep (by omega) (by omega) hml (.inl ?_)
      have : 2 * s * (k + 1) ≤ 2 * s * c := Nat.mul_le_mul_left _ hk2
      omega
    · obtain rfl : k = c := by omega
      have hs : seg (xs.take p ++ (M ++ xs.drop (p + 2 * s))) p (p + 2 * s) = M := seg_mid (by rw [List.length_take]; omega) (by omega)
      refine BlkOk.mk' e4 e5 ?_ ?_
      · rw [hs, hj2]; exact hM.1.trans (l1.append r1)
      · rw [hs]; exact hM.2
  · refine (h.todo k (by omega)).keep (by omega) (by omega) hml (.inr ?_)
    have : s * (2 * c + 1 + 1) ≤ s * k := Nat.mul_le_mul_left _ (by omega)
    omega
theorem Mids.endParts (h : Mids key ys n s c p xs) (hq : n < p + 2 * s) : (seg xs (p + s) n).Perm (seg ys (p + s) n) ∧ (seg xs (p + s) n).Pairwise (ltK key) := by
  obtain ⟨_, r1, r2⟩ := h.parts
  have hz := h.hz
  have hy := h.hy
  rw [seg_over xs (by omega), seg_over ys (by omega)] at r1
  rw [seg_over xs (by omega)] at r2
  rw [seg_over xs (by omega), seg_over ys (by omega)]
  exact ⟨r1, r2⟩
theorem Mids.endStep (h : Mids key ys n s c p xs) (hq : n < p + 2 * s) (hp : p + s < n) {M : List Int} (hM : Mgd (ltK key) (seg xs p (p + s)) (seg xs (p + s) n) M) :
    (xs.take p ++ (M ++ xs.drop n)).length = n ∧ (xs.take p ++ (M ++ xs.drop n)).Perm ys ∧ ∀ k, BlkOk key ys (2 * s) k (xs.take p ++ (M ++ xs.drop n)) := by
  obtain ⟨e1, e2, e3, e4, e5⟩ := h.num
  obtain ⟨⟨l1, l2⟩, _, _⟩ := h.parts
  obtain ⟨r1, r2⟩ := h.endParts hq
  have hz := h.hz
  have hy := h.hy
  have hml : M.length = n - p := by rw [hM.len, seg_len (by omega) (by omega), seg_len (by omega) (by omega)]; omega
  have hj := seg_join xs (a := p) (m := p + s) (b := n) (by omega) (by omega)
  have hj2 := seg_join ys (a := p) (m := p + s) (b := n) (by omega) (by omega)
  have hlen : (xs.take p ++ (M ++ xs.drop n)).length = n := by rw [put_len (by omega) (by omega) hml, hz]
  refine ⟨hlen, (put_perm (by omega) (by rw [hj]; exact hM.1)).trans h.perm, fun k => ?_⟩
  rcases Nat.lt_trichotomy k c with hk | hk | hk
  · refine (h.done k hk).keep (by omega) (by omega) hml (.inl ?_)
    have : 2 * s * (k + 1) ≤ 2 * s * c := Nat.mul_le_mul_left _ hk
    omega
  · subst hk
    have hs : seg (xs.take p ++ (M ++ xs.drop n)) p n = M := seg_mid (by rw [List.length_take]; omega) (by omega)
    rw [seg_over _ (by omega)] at hs
    rw [seg_over ys (by omega)] at hj2
    refine BlkOk.mk' e4 e5 ?_ ?_
    · rw [seg_over _ (by omega), hs, seg_over ys (by omega), hj2]; exact hM.1.trans (l1.append r1)
    · rw [seg_over _ (by omega), hs]; exact hM.2
  · refine BlkOk.none hlen hy ?_
    have : 2 * s * (c + 1) ≤ 2 * s * k := Nat.mul_le_mul_left _ hk
    omega
theorem Mids.stop (h : Mids key ys n s c p xs) (hp : n ≤ p + s) : ∀ k, BlkOk key ys (2 * s) k xs := fun k => by
  obtain ⟨e1, e2, e3, e4, e5⟩ := h.num
  obtain ⟨⟨l1, l2⟩, _, _⟩ := h.parts
  have hz := h.hz
  have hy := h.hy
  rcases Nat.lt_trichotomy k c with hk | hk | hk
  · exact h.done k hk
  · subst hk
    rw [seg_over xs (by omega), seg_over ys (by omega)] at l1
    rw [seg_over xs (by omega)] at l2
    refine BlkOk.mk' e4 e5 ?_ ?_
    · rw [seg_over xs (by omega), seg_over ys (by omega)]; exact l1
    · rw [seg_over xs (by omega)]; exact l2
  · refine BlkOk.none hz hy ?_
    have : 2 * s * (c + 1) ≤ 2 * s * k := Nat.mul_le_mul_left _ hk
    omega
theorem Mids.start (hy : ys.length = n) (hz : xs.length = n) (hp : xs.Perm ys) (h : ∀ k, BlkOk key ys s k xs) : Mids key ys n s 0 0 xs := ⟨hy, hz, hp, fun _ h => absurd h (Nat.not_lt_zero _), fun k _ => h k, by simp⟩
theorem BlkOk.whole (hy : ys.length = n) (hz : xs.length = n) (h : ∀ k, BlkOk key ys s k xs) (hs : n ≤ s) : xs.Perm ys ∧ xs.Pairwise (ltK key) := by
  have h0 := (h 0).get (a := 0) (b := s) (Nat.mul_zero _) (by simp)
  rw [seg_over xs (by omega), seg_over ys (by omega), List.drop_zero, List.drop_zero] at h0
  exact h0
/-- While blocks are sorted by insertion. -/
structure Inss (key : Int → Int) (ys : List Int) (n s c p : Nat) (zs : List Int) : Prop where
  hy : ys.length = n
  hz : zs.length = n
  perm : zs.Perm ys
  done : ∀ k, k < c → BlkOk key ys s k zs
  rest : zs.drop p = ys.drop p
  at_ : p = s * c
theorem Inss.start (hy : ys.length = n) : Inss key ys n s 0 0 ys := ⟨hy, hy, List.Perm.refl _, fun _ h => absurd h (Nat.not_lt_zero _), rfl, by simp⟩
theorem Inss.step {cmp : Int → Int → Int} (hk : ∀ x y, cmp x y < 0 ↔ key x < key y) (hs : ys.Pairwise (· < ·)) (h : Inss key ys n s c p xs) (hq : p + s ≤ n) : Inss key ys n s (c + 1) (p + s) (insN cmp p (p + s - (p + 1)) xs) := by
  have hz := h.hz
  have hsg : seg xs p (p + s) = seg ys p (p + s) := by unfold seg; rw [h.rest]
  have hpw : (seg xs p (p + s)).Pairwise (· < ·) := by rw [hsg]; unfold seg; exact (hs.drop).take
  obtain ⟨M, m1, m2, m3⟩ := insN_whole hk (xs.take p) (seg xs p (p + s)) (xs.drop (p + s)) hpw
  have hl : (seg xs p (p + s)).length = s := by rw [seg_len (by omega) (by omega)]; omega
  have hta : (xs.take p).length = p := by rw [List.length_take]; omega
  rw [hl, hta, ← seg_split xs (by omega)] at m3
  rw [show p + s - (p + 1) = s - 1 by omega, m3]
  have hml : M.length = p + s - p := by rw [m1.length_eq, hl]; omega
  have hat := h.at_
  refine ⟨h.hy, by rw [put_len (by omega) (by omega) hml, hz], (put_perm (by omega) m1).trans h.perm, fun k hk2 => ?_, ?_, by rw [Nat.mul_succ]; omega⟩
  · rcases Nat.lt_or_ge k c with hk3 | hk3
    · refine (h.done k hk3).keep (by omega) (by omega) hml (.inl ?_)
      have : s * (k + 1) ≤ s * c := Nat.mul_le_mul_left _ hk3
      omega
    · obtain rfl : k = c := by omega
      have hs2 : seg (xs.take p ++ (M ++ xs.drop (p + s))) p (p + s) = M := seg_mid (by omega) (by omega)
      refine BlkOk.mk' (b := p + s) hat.symm (by rw [Nat.mul_succ]; omega) ?_ ?_
      · rw [hs2, ← hsg]; exact m1
      · rw [hs2]; exact m2
  · rw [List.drop_append, List.drop_eq_nil_of_le (by omega), List.nil_append, List.drop_append, List.drop_eq_nil_of_le (by omega), List.nil_append, hta, show p + s - p - M.length = 0 by omega, List.drop_zero]
    have := h.rest
    have e : xs.drop (p + s) = (xs.drop p).drop s := by rw [List.drop_drop]
    rw [e, this, List.drop_drop]
theorem Inss.last {cmp : Int → Int → Int} (hk : ∀ x y, cmp x y < 0 ↔ key x < key y) (hs : ys.Pairwise (· < ·)) (h : Inss key ys n s c p xs) (hp : p ≤ n) (hq : n < p + s) :
    (insN cmp p (n - (p + 1)) xs).length = n ∧ (insN cmp p (n - (p + 1)) xs).Perm ys ∧ ∀ k, BlkOk key ys s k (insN cmp p (n - (p + 1)) xs) := by
  have hz := h.hz
  have hy := h.hy
  have hsg : seg xs p n = seg ys p n := by unfold seg; rw [h.rest]
  have hpw : (seg xs p n).Pairwise (· < ·) := by rw [hsg]; unfold seg; exact (hs.drop).take
  obtain ⟨M, m1, m2, m3⟩ := insN_whole hk (xs.take p) (seg xs p n) (xs.drop n) hpw
  have hl : (seg xs p n).length = n - p := seg_len hp (by omega)
  have hta : (xs.take p).length = p := by rw [List.length_take]; omega
  rw [hl, hta, ← seg_split xs hp] at m3
  rw [show n - (p + 1) = n - p - 1 by omega, m3]
  have hml : M.length = n - p := by rw [m1.length_eq, hl]
  have hat := h.at_
  have hlen : (xs.take p ++ (M ++ xs.drop n)).length = n := by rw [put_len hp (by omega) hml, hz]
  refine ⟨hlen, (put_perm hp m1).trans h.perm, fun k => ?_⟩
  rcases Nat.lt_trichotomy k c with hk3 | hk3 | hk3
  · refine (h.done k hk3).keep hp (by omega) hml (.inl ?_)
    have : s * (k + 1) ≤ s * c := Nat.mul_le_mul_left _ hk3
    omega
  · subst hk3
    have hs2 : seg (xs.take p ++ (M ++ xs.drop n)) p n = M := seg_mid (by omega) (by omega)
    rw [seg_over _ (by omega)] at hs2
    have hy2 := seg_over ys (a := p) (b := n) (by omega)
    refine BlkOk.mk' (b := p + s) hat.symm (by rw [Nat.mul_succ]; omega) ?_ ?_
    · rw [seg_over _ (by omega), hs2, seg_over ys (by omega), ← hy2, ← hsg]; exact m1
    · rw [seg_over _ (by omega), hs2]; exact m2
  · refine BlkOk.none hlen hy ?_
    have : s * (c + 1) ≤ s * k := Nat.mul_le_mul_left _ hk3
    rw [Nat.mul_succ] at this
    omega
end
end Go.Proofs.Ytekplfbfkfiabaa
