/- What Groups and Clear of the program give, in plain words. -/
import Derived.Test.YtekplfbfkfiabaaPlainMp
namespace Go.Proofs.Ytekplfbfkfiabaa
open Go.RowKit
set_option linter.unusedVariables false
set_option linter.unusedSimpArgs false

theorem firstC_none {left G : List Int} {num : Int} {owes : Bool} (h : firstC left G num owes = none) : ∀ a, a < left.length → okC left G num owes a = false := fun a ha => firstI_none _ _ h a (Nat.zero_le _) (by omega)
theorem clrIn_ok {G : List Int} {num : Int} {B n : Nat} (hG : ∀ i, i < n → (gI G i = num ↔ B.testBit i = true)) : ∀ (f : Nat) (left : List Int) (out : List PayD), left.length = n → sumB left B = 0 → cnt left B + 1 ≤ f →
    ∃ left' ps, clrIn G num f left out = some (left', out ++ ps) ∧ Steps G left ps left' ∧ ((ps.length : Int) + 1 ≤ cnt left B ∨ cnt left B = 0 ∧ ps = []) ∧ (∀ i, i < n → B.testBit i = true → gI left' i = 0) ∧ (∀ i, i < n → B.testBit i = false → gI left' i = gI left i)
  | 0, left, out, hl, hz, hf => by have := cnt_nn left B; omega
  | f + 1, left, out, hl, hz, hf => by
    cases h1 : firstC left G num true with
    | none =>
      have hno := firstC_none h1
      have hnn : ∀ i, i < left.length → B.testBit i = true → 0 ≤ gI left i := fun i hi hb => by
        have h2 := hno i hi
        unfold okC at h2
        have h3 := (hG i (by omega)).2 hb
        simp [h3] at h2
        exact h2
      have h0 := sumB_all0 hnn hz
      have hc : cnt left B = 0 := by
        unfold cnt sumB
        rw [List.length_map]
        have hall : ∀ L : List Nat, (∀ i ∈ L, i < left.length) → isum (L.map fun i => if B.testBit i = true then gI (left.map fun x => if x = 0 then (0:Int) else 1) i else 0) = 0 := by
          intro L
          induction L with
          | nil => exact fun _ => rfl
          | cons i L ih =>
            intro hL
            have hi := hL i (by simp)
            simp only [List.map_cons, isum]
            rw [ih (fun j hj => hL j (by simp [hj]))]
            by_cases hb : B.testBit i = true
            · rw [if_pos hb, gI_get (by simpa using hi), List.getElem_map, ← gI_get hi, h0 i hi hb]; rfl
            · rw [if_neg hb]; rfl
        exact hall _ (fun i hi => List.mem_range.1 hi)
      refine ⟨left, [], ?_, .nil left, .inr ⟨hc, rfl⟩, fun i hi hb => h0 i (by omega) hb, fun _ _ _ => rfl⟩
      unfold clrIn
      rw [h1, List.append_nil]
    | some a =>
      obtain ⟨ha, ha2⟩ := firstC_owes h1
      have hak := (firstC_some h1).2
      cases h2 : firstC left G num false with
      | none =>
        exfalso
        have hno := firstC_none h2
        have hnn : ∀ i, i < left.length → B.testBit i = true → gI left i ≤ 0 := fun i hi hb => by
          have h2 := hno i hi
          unfold okC at h2
          have h3 := (hG i (by omega)).2 hb
          simp [h3] at h2
          exact h2
        have hGa : gI G a = num := by unfold okC at hak; simp at hak; exact hak.1
        have := sumB_all0' hnn hz a ha ((hG a (by omega)).1 hGa)
        omega
      | some b =>
        obtain ⟨hb, hb2⟩ := firstC_owed h2
        have hbk := (firstC_some h2).2
        have hGa : gI G a = num := by unfold okC at hak; simp at hak; exact hak.1
        have hGb : gI G b = num := by unfold okC at hbk; simp at hbk; exact hbk.1
        have hBa := (hG a (by omega)).1 hGa
        have hBb := (hG b (by omega)).1 hGb
        have hab : a ≠ b := fun e => by subst e; omega
        have hp : payN left a b = min (-(gI left a)) (gI left b) := rfl
        obtain ⟨p, hpe⟩ : ∃ p, p = payN left a b := ⟨_, rfl⟩
        have hp1 : p ≤ -(gI left a) ∧ p ≤ gI left b ∧ (p = -(gI left a) ∨ p = gI left b) := by rw [hpe, hp]; omega
        have hgb : ∀ x, gI (left.set a x) b = gI left b := fun x => by rw [gI_setN _ _ _ _ ha, if_neg (show ¬ b = a from fun e => hab e.symm)]
        obtain ⟨v1, hv1⟩ : ∃ v, v = (left.set a (gI left a + p)).set b (gI left b - p) := ⟨_, rfl⟩
        have hv1l : v1.length = n := by rw [hv1]; simp [hl]
        have hz1 : sumB v1 B = 0 := by
          rw [hv1, sumB_set _ b _ B (by simpa using hb), sumB_set _ a _ B ha, hz, if_pos hBa, if_pos hBb, hgb]; omega
        have hc1 : cnt v1 B = cnt left B + (if gI left a + p = 0 then 0 else 1) - 1 + (if gI left b - p = 0 then 0 else 1) - 1 := by
          rw [hv1, cnt_set _ _ B (by simpa using hb) hBb, cnt_set _ _ B ha hBa, hgb, if_neg (show ¬ gI left a = 0 by omega), if_neg (show ¬ gI left b = 0 by omega)]
        have hc2 : 2 ≤ cnt left B := by
          have h3 := cnt_nn ((left.set a 0).set b 0) B
          rw [cnt_set _ _ B (by simpa using hb) hBb, cnt_set _ _ B ha hBa, hgb, if_neg (show ¬ gI left a = 0 by omega), if_neg (show ¬ gI left b = 0 by omega)] at h3
          simp at h3; omega
        have hc3 : cnt v1 B ≤ cnt left B - 1 := by
          rw [hc1]
          rcases hp1.2.2 with h | h
          · rw [if_pos (show gI left a + p = 0 by omega)]; split <;> omega
          · rw [if_pos (show gI left b - p = 0 by omega)]; split <;> omega
        obtain ⟨left', ps, q1, q2, q3, q4, q5⟩ := clrIn_ok hG f v1 (out ++ [⟨a, b, p⟩]) hv1l hz1 (by omega)
        refine ⟨left', ⟨a, b, p⟩ :: ps, ?_, ?_, ?_, q4, fun i hi hbf => ?_⟩
        · unfold clrIn
          rw [h1]
          dsimp only
          rw [h2]
          dsimp only
          rw [hgb, ← hp, ← hpe, ← hv1, q1]
          simp
        · rw [hpe]
          refine .cons a b ha hb ha2 hb2 (by rw [hGa, hGb]) ?_
          rw [← hpe, ← hv1]; exact q2
        · left
          rw [List.length_cons]
          push_cast
          rcases q3 with q3 | ⟨_, q3⟩
          · omega
          · rw [q3]; simp; omega
        · rw [q5 i hi hbf, hv1, gI_setN _ _ _ _ (by simpa using hb), if_neg (fun e => by rw [e, hBb] at hbf; cases hbf), gI_setN _ _ _ _ ha, if_neg (fun e => by rw [e, hBa] at hbf; cases hbf)]
theorem clrN_ok {l G : List Int} {n : Nat} (hn : n ≤ 10) (hl : l.length = n) : ∀ (r k t : Nat) (Cs : List Nat) (left : List Int) (out : List PayD), Chain l t Cs → t < 2 ^ n → Cs.length ≤ r →
    (∀ i, i < n → t.testBit i = true → gI G i = (k : Int) + (idx Cs i : Int)) → (∀ i, i < n → t.testBit i = false → gI G i < (k : Int)) → left.length = n →
    (∀ i, i < n → t.testBit i = true → gI left i = gI l i) → (∀ i, i < n → t.testBit i = false → gI left i = 0) →
    ∃ left' ps, clrN G r k left out = some (out ++ ps) ∧ Steps G left ps left' ∧ (∀ i, i < n → gI left' i = 0) ∧ (ps.length : Int) + Cs.length ≤ card n t
  | 0, k, t, Cs, left, out, hch, ht, hr, hg1, hg2, hll, h1, h0 => by
    have hCs : Cs = [] := List.eq_nil_of_length_eq_zero (by omega)
    subst hCs
    have ht0 : t = 0 := hch
    subst ht0
    exact ⟨left, [], by simp [clrN], .nil left, fun i hi => h0 i hi (Nat.zero_testBit i), by simpa using card_nn n 0⟩
  | r + 1, k, t, [], left, out, hch, ht, hr, hg1, hg2, hll, h1, h0 => by
    have ht0 : t = 0 := hch
    subst ht0
    have hG : ∀ i, i < n → (gI G i = (k : Int) ↔ (0 : Nat).testBit i = true) := fun i hi => by
      have := hg2 i hi (Nat.zero_testBit i)
      rw [Nat.zero_testBit]
      constructor
      · intro h; omega
      · intro h; cases h
    have hc0 : cnt left 0 = 0 := sumB_zero _
    obtain ⟨left1, ps1, q1, q2, q3, q4, q5⟩ := clrIn_ok hG 25 left out hll (sumB_zero _) (by omega)
    have hps1 : ps1 = [] := by
      rcases q3 with q3 | ⟨_, q3⟩
      · omega
      · exact q3
    subst hps1
    have hl1 := q2.len
    have e1 : ∀ i, i < n → gI left1 i = gI left i := fun i hi => q5 i hi (Nat.zero_testBit i)
    obtain ⟨left', ps, r1, r2, r3, r4⟩ := clrN_ok (G := G) hn hl r (k + 1) 0 [] left1 out rfl ht (Nat.zero_le _) (fun i hi hb => by rw [Nat.zero_testBit] at hb; cases hb) (fun i hi hb => by have := hg2 i hi hb; push_cast; omega) (by omega)
      (fun i hi hb => by rw [Nat.zero_testBit] at hb; cases hb) (fun i hi hb => by rw [e1 i hi]; exact h0 i hi hb)
    refine ⟨left', ps, ?_, ?_, r3, r4⟩
    · unfold clrN
      rw [q1, List.append_nil]
      exact r1
    · have := q2.app r2
      simpa using this
  | r + 1, k, t, B :: Bs, left, out, hch, ht, hr, hg1, hg2, hll, h1, h0 => by
    obtain ⟨c1, c2, c3, c4⟩ := hch
    have hxl := xor_lt c1 (low_ne c2)
    have hG : ∀ i, i < n → (gI G i = (k : Int) ↔ B.testBit i = true) := fun i hi => by
      cases hti : t.testBit i with
      | true =>
        rw [hg1 i hi hti, idx_cons]
        cases hb : B.testBit i with
        | true => simp
        | false => simp; omega
      | false =>
        have := hg2 i hi hti
        constructor
        · intro h; omega
        · intro h; rw [c1 i h] at hti; cases hti
    have hz : sumB left B = 0 := by rw [sumB_congr (by omega) (fun i hi hb => h1 i (by omega) (c1 i hb)), c3]
    have hcc := cnt_card (v := left) B
    have hcs := card_split (n := n) c1
    have hcp := card_pos (n := n) (s := B) (by have := c1.le; omega) hn (low_ne c2)
    have hct := card_nn n (t ^^^ B)
    have hcf : card n t ≤ n := by
      have h2 := card_split (n := n) (sub_full ht)
      have h3 := card_nn n (2 ^ n - 1 ^^^ t)
      rw [card_full] at h2
      omega
    rw [hll] at hcc
    obtain ⟨left1, ps1, q1, q2, q3, q4, q5⟩ := clrIn_ok hG 25 left out hll hz (by omega)
    have hl1 := q2.len
    have hxb : ∀ i, (t ^^^ B).testBit i = true ↔ t.testBit i = true ∧ B.testBit i = false := fun i => by
      rw [Nat.testBit_xor]
      cases hti : t.testBit i <;> cases hb : B.testBit i <;> simp
      rw [c1 i hb] at hti; cases hti
    have hxf : ∀ i, (t ^^^ B).testBit i = false → t.testBit i = false ∨ B.testBit i = true := fun i h => by
      rw [Nat.testBit_xor] at h
      cases hti : t.testBit i <;> cases hb : B.testBit i <;> simp_all
    obtain ⟨left', ps, r1, r2, r3, r4⟩ := clrN_ok (G := G) hn hl r (k + 1) (t ^^^ B) Bs left1 (out ++ ps1) c4 (by omega) (by simpa using hr) (fun i hi hb => by
        obtain ⟨b1, b2⟩ := (hxb i).1 hb
        rw [hg1 i hi b1, idx_cons, b2]; simp; omega) (fun i hi hb => by
        rcases hxf i hb with h | h
        · have := hg2 i hi h; push_cast; omega
        · rw [(hG i hi).2 h]; push_cast; omega) (by omega)
      (fun i hi hb => by
        obtain ⟨b1, b2⟩ := (hxb i).1 hb
        rw [q5 i hi b2]; exact h1 i hi b1) (fun i hi hb => by
        rcases hxf i hb with h | h
        · cases hbi : B.testBit i with
          | true => exact q4 i hi hbi
          | false => rw [q5 i hi hbi]; exact h0 i hi h
        · exact q4 i hi h)
    refine ⟨left', ps1 ++ ps, ?_, q2.app r2, r3, ?_⟩
    · unfold clrN
      rw [q1]
      dsimp only
      rw [r1]; simp
    · rw [List.length_append, List.length_cons]
      push_cast
      rcases q3 with q3 | ⟨_, q3⟩
      · omega
      · rw [q3]; simp; omega
/-- All of Groups and Clear. -/
structure ClearOk (l G : List Int) (ps : List PayD) (m : Nat) : Prop where
  grp : groupsP l = some G
  clr : clearP l G = some ps
  len : G.length = l.length
  steps : ∃ v, Steps G l ps v ∧ v.length = l.length ∧ ∀ i, i < l.length → gI v i = 0
  num : ps.length + m = l.length
  many : (m : Int) = gI (tM l) (2 ^ l.length - 1)
  rgs : ∀ i, i < l.length → 0 ≤ gI G i ∧ gI G i < m ∧ ∀ j : Nat, (j : Int) < gI G i → ∃ i', i' < i ∧ gI G i' = j
  att : ∀ j, j < m → ∃ i, i < l.length ∧ gI G i = (j : Int)
  sums : ∀ c : Nat, isum ((List.range l.length).map fun i => if gI G i = (c : Int) then gI l i else 0) = 0
theorem chain_rgs {l : List Int} (h10 : 2 ^ l.length ≤ 1024) : ∀ (Cs : List Nat) (t : Nat), Chain l t Cs → t < 2 ^ l.length → ∀ i, t.testBit i = true → idx Cs i < Cs.length ∧ ∀ m, m < idx Cs i → ∃ i', i' < i ∧ t.testBit i' = true ∧ idx Cs i' = m
  | [], t, h, ht, i, hi => by
    have : t = 0 := h
    subst this
    rw [Nat.zero_testBit] at hi; cases hi
  | B :: Bs, t, h, ht, i, hi => by
    obtain ⟨c1, c2, c3, c4⟩ := h
    have hxl := xor_lt c1 (low_ne c2)
    rw [idx_cons]
    cases hb : B.testBit i with
    | true =>
      rw [if_pos rfl]
      exact ⟨by simp, fun m hm => by omega⟩
    | false =>
      have hxi : (t ^^^ B).testBit i = true := by rw [Nat.testBit_xor, hi, hb]; rfl
      obtain ⟨i1, i2⟩ := chain_rgs h10 Bs (t ^^^ B) c4 (by omega) i hxi
      refine ⟨by simp; omega, fun m hm => ?_⟩
      rw [if_neg (by decide)] at hm
      cases m with
      | zero =>
        have ht0 : t ≠ 0 := fun e => by rw [e, Nat.zero_testBit] at hi; cases hi
        obtain ⟨i0, _, hlow, hbit, hlo⟩ := low_bit (t := t) (by omega) ht0
        have hB0 : B.testBit i0 = true := by rw [hlow] at c2; exact and_pow.1 c2
        have hle : i0 ≤ i := by
          rcases Nat.lt_or_ge i i0 with h | h
          · rw [hlo i h] at hi; cases hi
          · exact h
        refine ⟨i0, ?_, hbit, by rw [idx_cons, hB0]; rfl⟩
        rcases Nat.lt_or_eq_of_le hle with h | h
        · exact h
        · rw [h, hb] at hB0; cases hB0
      | succ m =>
        obtain ⟨i', j1, j2, j3⟩ := i2 m (by omega)
        have hbi : B.testBit i' = false := by
          cases hb : B.testBit i' with
          | false => rfl
          | true => rw [Nat.testBit_xor, c1 i' hb, hb] at j2; cases j2
        refine ⟨i', j1, ?_, by rw [idx_cons, hbi, if_neg (by decide), j3]⟩
        rw [Nat.testBit_xor, hbi] at j2
        simpa using j2
theorem chain_att {l : List Int} (h10 : 2 ^ l.length ≤ 1024) : ∀ (Cs : List Nat) (t : Nat), Chain l t Cs → t < 2 ^ l.length → ∀ m, m < Cs.length → ∃ i, t.testBit i = true ∧ idx Cs i = m
  | [], t, h, ht, m, hm => by cases hm
  | B :: Bs, t, h, ht, m, hm => by
    obtain ⟨c1, c2, c3, c4⟩ := h
    have hxl := xor_lt c1 (low_ne c2)
    cases m with
    | zero =>
      obtain ⟨i0, _, _, hbit, _⟩ := low_bit (t := B) (by have := c1.le; omega) (low_ne c2)
      exact ⟨i0, c1 i0 hbit, by rw [idx_cons, hbit]; rfl⟩
    | succ m =>
      obtain ⟨i, j1, j2⟩ := chain_att h10 Bs (t ^^^ B) c4 (by omega) m (by simpa using hm)
      have hbi : B.testBit i = false := by
        cases hb : B.testBit i with
        | false => rfl
        | true => rw [Nat.testBit_xor, c1 i hb, hb] at j1; cases j1
      refine ⟨i, ?_, by rw [idx_cons, hbi, if_neg (by decide), j2]⟩
      rw [Nat.testBit_xor, hbi] at j1
      simpa using j1
theorem chain_sums {l : List Int} : ∀ (Cs : List Nat) (t : Nat), Chain l t Cs → ∀ c, c < Cs.length → isum ((List.range l.length).map fun i => if t.testBit i = true ∧ idx Cs i = c then gI l i else 0) = 0
  | [], t, h, c, hc => by cases hc
  | B :: Bs, t, h, c, hc => by
    obtain ⟨c1, c2, c3, c4⟩ := h
    cases c with
    | zero =>
      have e : isum ((List.range l.length).map fun i => if t.testBit i = true ∧ idx (B :: Bs) i = 0 then gI l i else 0) = sumB l B := by
        unfold sumB
        refine isum_congr fun i _ => ?_
        rw [idx_cons]
        cases hb : B.testBit i with
        | true => simp [c1 i hb]
        | false => simp
      rw [e, c3]
    | succ c =>
      have h := chain_sums Bs (t ^^^ B) c4 c (by simpa using hc)
      refine Eq.trans (isum_congr fun i _ => ?_) h
      rw [idx_cons, Nat.testBit_xor]
      cases hb : B.testBit i with
      | true => simp [c1 i hb]
      | false => simp
theorem clear_ok {l : List Int} (hn : l.length ≤ 10) (hz : isum l = 0) : ∃ G ps m, ClearOk l G ps m := by
  obtain ⟨Bs, G, g1, g2, g3, g4, g5⟩ := groups_ok hn hz
  have hp := Nat.two_pow_pos l.length
  have h10 : 2 ^ l.length ≤ 1024 := Nat.le_trans (Nat.pow_le_pow_right (by omega) hn) (by decide)
  have hc := tM_card hn (2 ^ l.length - 1) (by omega)
  rw [card_full] at hc
  have hf : ∀ i, i < l.length → (2 ^ l.length - 1).testBit i = true := fun i hi => by rw [full_bit]; simpa using hi
  have hnf : ∀ i, i < l.length → ¬ (2 ^ l.length - 1).testBit i = false := fun i hi h => by rw [hf i hi] at h; cases h
  have hfi : ∀ i, (2 ^ l.length - 1).testBit i = true → i < l.length := fun i h => by rw [full_bit] at h; simpa using h
  obtain ⟨v, ps, q1, q2, q3, q4⟩ := clrN_ok (G := G) hn rfl l.length 0 (2 ^ l.length - 1) Bs l [] g3 (by omega) (by omega) (fun i hi _ => by rw [g5 i hi]; simp) (fun i hi h => absurd h (hnf i hi)) rfl (fun _ _ _ => rfl) (fun i hi h => absurd h (hnf i hi))
  rw [card_full] at q4
  have hge := ((q2.inv (PInv.start hn hz)).last (fun i hi => q3 i (by rw [← q2.len]; exact hi)))
  refine ⟨G, ps, Bs.length, g1, q1, g4, ⟨v, q2, q2.len, q3⟩, by omega, g2, fun i hi => ?_, fun j hj => ?_, fun c => ?_⟩
  · obtain ⟨r1, r2⟩ := chain_rgs h10 Bs _ g3 (by omega) i (hf i hi)
    rw [g5 i hi]
    refine ⟨by omega, by omega, fun j hj => ?_⟩
    obtain ⟨i', j1, j2, j3⟩ := r2 j (by omega)
    exact ⟨i', j1, by rw [g5 i' (by omega), j3]⟩
  · obtain ⟨i, j1, j2⟩ := chain_att h10 Bs _ g3 (by omega) j hj
    exact ⟨i, hfi i j1, by rw [g5 i (hfi i j1), j2]⟩
  · rcases Nat.lt_or_ge c Bs.length with h | h
    · have h1 := chain_sums Bs _ g3 c h
      refine Eq.trans (isum_congr fun i hi => ?_) h1
      rw [List.mem_range] at hi
      rw [g5 i hi, hf i hi]
      by_cases h2 : idx Bs i = c
      · rw [if_pos (by omega), if_pos ⟨rfl, h2⟩]
      · rw [if_neg (by omega), if_neg (fun h3 => h2 h3.2)]
    · have hall : ∀ L : List Nat, (∀ i ∈ L, i < l.length) → isum (L.map fun i => if gI G i = (c : Int) then gI l i else 0) = 0 := by
        intro L
        induction L with
        | nil => exact fun _ => rfl
        | cons i L ih =>
          intro hL
          have hi := hL i (by simp)
          have h2 := (chain_rgs h10 Bs _ g3 (by omega) i (hf i hi)).1
          simp only [List.map_cons, isum]
          rw [ih (fun j hj => hL j (by simp [hj])), if_neg (by rw [g5 i hi]; omega)]
          rfl
      exact hall _ (fun i hi => List.mem_range.1 hi)
end Go.Proofs.Ytekplfbfkfiabaa
