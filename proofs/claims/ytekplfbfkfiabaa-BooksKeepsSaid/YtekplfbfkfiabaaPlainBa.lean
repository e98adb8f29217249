/- The balances of a good add up to zero, in plain words. -/
import Derived.Test.YtekplfbfkfiabaaBkSto
namespace Go.Proofs.Ytekplfbfkfiabaa
set_option linter.unusedVariables false

theorem balU_pre (day : Int) : ∀ (xs : List SigD), DaysUp xs → ∃ k, ∀ i : Int, balU i day xs = balA i (xs.take k)
  | [], _ => ⟨0, fun i => rfl⟩
  | x :: xs, h => by
    by_cases hd : x.e.day ≤ day
    · obtain ⟨k, hk⟩ := balU_pre day xs h.2
      refine ⟨k + 1, fun i => ?_⟩
      rw [List.take_succ_cons]
      show (if x.e.day ≤ day then mv i x.e else 0) + balU i day xs = mv i x.e + balA i (xs.take k)
      rw [if_pos hd, hk i]
    · refine ⟨0, fun i => ?_⟩
      rw [List.take_zero]
      refine balU_late i day _ (fun y hy => ?_)
      rcases List.mem_cons.1 hy with rfl | hy
      · omega
      · have := h.1 y hy; omega
theorem NN.day {d : LedD} (h : NN d) (ok : LedOk d) (day : Int) (i : Nat) (hi : i < d.n) (hs : (d.at' i).stock = true) : 0 ≤ balU (i : Int) day d.ents := by
  obtain ⟨k, hk⟩ := balU_pre day d.ents ok.up
  rw [hk]
  exact h k i hi hs
/-- What the accounts of a good among the first k have together. -/
def sg (d : LedD) (f : Nat → Int) (g : Int) : Nat → Int
  | 0 => 0
  | k + 1 => sg d f g k + if (d.at' (k : Int)).good = g then f k else 0
theorem sg_add (d : LedD) (f h : Nat → Int) (g : Int) : ∀ k, sg d (fun i => f i + h i) g k = sg d f g k + sg d h g k
  | 0 => rfl
  | k + 1 => by simp only [sg]; rw [sg_add d f h g k]; split <;> omega
theorem sg_sub (d : LedD) (f h : Nat → Int) (g : Int) : ∀ k, sg d (fun i => f i - h i) g k = sg d f g k - sg d h g k
  | 0 => rfl
  | k + 1 => by simp only [sg]; rw [sg_sub d f h g k]; split <;> omega
theorem sg_zero (d : LedD) (g : Int) : ∀ k, sg d (fun _ => 0) g k = 0
  | 0 => rfl
  | k + 1 => by simp only [sg]; rw [sg_zero d g k]; split <;> rfl
theorem sg_one (d : LedD) (g a : Int) (t : Nat) : ∀ k, sg d (fun i => if (t : Int) = (i : Int) then a else 0) g k = if t < k ∧ (d.at' (t : Int)).good = g then a else 0
  | 0 => by simp [sg]
  | k + 1 => by
    simp only [sg]
    rw [sg_one d g a t k]
    by_cases h : t = k
    · subst h
      rw [if_neg (fun hh => Nat.lt_irrefl _ hh.1), if_pos rfl]
      by_cases h2 : (d.at' (t : Int)).good = g
      · rw [if_pos h2, if_pos ⟨by omega, h2⟩]; omega
      · rw [if_neg h2, if_neg (fun hh => h2 hh.2)]; rfl
    · have h3 : ¬ ((t : Int) = (k : Int)) := by omega
      rw [if_neg h3]
      have h4 : (if (d.at' (k : Int)).good = g then (0:Int) else 0) = 0 := by split <;> rfl
      rw [h4, Int.add_zero]
      by_cases h5 : t < k ∧ (d.at' (t : Int)).good = g
      · rw [if_pos h5, if_pos ⟨by omega, h5.2⟩]
      · rw [if_neg h5, if_neg (fun hh => h5 ⟨by omega, hh.2⟩)]
theorem sg_mv {d : LedD} {x : EntD} (h1 : 0 ≤ x.frm ∧ x.frm < d.n) (h2 : 0 ≤ x.to ∧ x.to < d.n) (hg : (d.at' x.frm).good = (d.at' x.to).good) (g : Int) : sg d (fun i => mv (i : Int) x) g d.n = 0 := by
  obtain ⟨f, hf⟩ : ∃ f : Nat, x.frm = (f : Int) := ⟨x.frm.toNat, by omega⟩
  obtain ⟨t, ht⟩ : ∃ t : Nat, x.to = (t : Int) := ⟨x.to.toNat, by omega⟩
  rw [hf, ht] at hg
  have e : (fun i : Nat => mv (i : Int) x) = fun i : Nat => (if (t : Int) = (i : Int) then x.amt else 0) - (if (f : Int) = (i : Int) then x.amt else 0) := by
    funext i
    unfold mv
    rw [hf, ht]
  rw [e, sg_sub, sg_one, sg_one]
  have a1 : f < d.n := by omega
  have a2 : t < d.n := by omega
  rw [hg]
  simp [a1, a2]
theorem sg_bal {d : LedD} (day g : Int) : ∀ (xs : List SigD), (∀ x ∈ xs, 0 ≤ x.e.frm ∧ x.e.frm < d.n ∧ 0 ≤ x.e.to ∧ x.e.to < d.n ∧ x.e.frm ≠ x.e.to) → (∀ x ∈ xs, (d.at' x.e.frm).good = (d.at' x.e.to).good) → sg d (fun i => balU (i : Int) day xs) g d.n = 0
  | [], _, _ => sg_zero d g d.n
  | x :: xs, h1, h2 => by
    have e : (fun i : Nat => balU (i : Int) day (x :: xs)) = fun i : Nat => (if x.e.day ≤ day then mv (i : Int) x.e else 0) + balU (i : Int) day xs := rfl
    rw [e, sg_add, sg_bal day g xs (fun y hy => h1 y (List.mem_cons_of_mem _ hy)) (fun y hy => h2 y (List.mem_cons_of_mem _ hy)), Int.add_zero]
    obtain ⟨a1, a2, a3, a4, _⟩ := h1 x (by simp)
    by_cases hd : x.e.day ≤ day
    · have e2 : (fun i : Nat => if x.e.day ≤ day then mv (i : Int) x.e else 0) = fun i : Nat => mv (i : Int) x.e := by funext i; rw [if_pos hd]
      rw [e2]
      exact sg_mv ⟨a1, a2⟩ ⟨a3, a4⟩ (h2 x (by simp)) g
    · have e2 : (fun i : Nat => if x.e.day ≤ day then mv (i : Int) x.e else 0) = fun _ => 0 := by funext i; rw [if_neg hd]
      rw [e2]
      exact sg_zero d g d.n

/-- The statement's own two tables. -/
def gN (d : LedD) (i : Nat) : Nat := (d.at' (i : Int)).good.toNat
def sumT (d : LedD) (day : Int) : Nat → List Int
  | 0 => [0, 0, 0, 0, 0]
  | k + 1 => (sumT d day k).set (gN d k) (gI (sumT d day k) (gN d k) + balU (k : Int) day d.ents)
def stkT (d : LedD) (day : Int) : Nat → List Int
  | 0 => [0, 0, 0, 0, 0]
  | k + 1 => if (d.at' (k : Int)).stock = true then (stkT d day k).set (gN d k) (gI (stkT d day k) (gN d k) + balU (k : Int) day d.ents) else stkT d day k
theorem sumT_len (d : LedD) (day : Int) : ∀ k, (sumT d day k).length = 5
  | 0 => rfl
  | k + 1 => by simp only [sumT]; rw [List.length_set, sumT_len d day k]
theorem stkT_len (d : LedD) (day : Int) : ∀ k, (stkT d day k).length = 5
  | 0 => rfl
  | k + 1 => by
    simp only [stkT]
    split
    · rw [List.length_set, stkT_len d day k]
    · exact stkT_len d day k
theorem gI_nil5 (i : Nat) : gI [(0 : Int), 0, 0, 0, 0] i = 0 := by
  unfold gI
  rcases i with _ | _ | _ | _ | _ | i <;> rfl
theorem sumT_sg {d : LedD} (hg : ∀ i : Nat, i < d.n → 1 ≤ (d.at' i).good ∧ (d.at' i).good ≤ 4) (day : Int) : ∀ (k : Nat), k ≤ d.n → ∀ g, g < 5 → gI (sumT d day k) g = sg d (fun i => balU (i : Int) day d.ents) (g : Int) k
  | 0, _, g, _ => gI_nil5 g
  | k + 1, hk, g, h5 => by
    have h1 := hg k (by omega)
    have ih := sumT_sg hg day k (by omega)
    simp only [sumT, sg]
    by_cases e : gN d k = g
    · have e2 : (d.at' (k : Int)).good = (g : Int) := by rw [← e]; unfold gN; omega
      rw [e, gI_setS _ (by rw [sumT_len]; exact h5), ih g h5, if_pos e2]
    · have e2 : (d.at' (k : Int)).good ≠ (g : Int) := fun hh => e (by unfold gN; rw [hh]; omega)
      rw [gI_setO _ (fun hh => e hh.symm), ih g h5, if_neg e2, Int.add_zero]
theorem sumT_zero {d : LedD} (ok : LedOk d) (hg : ∀ i : Nat, i < d.n → 1 ≤ (d.at' i).good ∧ (d.at' i).good ≤ 4) (day : Int) (g : Nat) (h5 : g < 5) : gI (sumT d day d.n) g = 0 := by
  rw [sumT_sg hg day d.n (Nat.le_refl _) g h5]
  exact sg_bal day (g : Int) d.ents ok.idx ok.good
theorem stkT_sto {d : LedD} (hg : ∀ i : Nat, i < d.n → 1 ≤ (d.at' i).good ∧ (d.at' i).good ≤ 4) (day : Int) : ∀ (k : Nat), k ≤ d.n → stoS d day (stkN d.acc k) [0, 0, 0, 0] = (stkT d day k).drop 1
  | 0, _ => rfl
  | k + 1, hk => by
    have h1 := hg k (by omega)
    have ih := stkT_sto hg day k (by omega)
    have e0 : d.acc.getD k default = d.at' (k : Int) := by unfold LedD.at'; rw [Int.toNat_natCast]
    have hl := stkT_len d day k
    rw [stkN_succ, e0]
    simp only [stkT]
    by_cases hs : (d.at' (k : Int)).stock = true
    · rw [if_pos hs, if_pos hs, stoS_snoc, ih]
      have e1 : gN d k = gIdx d k + 1 := by unfold gN gIdx; omega
      have e2 : gIdx d k < 4 := by unfold gIdx; omega
      rw [e1]
      match stkT d day k, hl with
      | a :: r, _ => rfl
    · rw [if_neg hs, if_neg hs, List.append_nil, ih]
theorem sumT_small {d : LedD} (ok : LedOk d) (day : Int) : ∀ k : Nat, Small ((k : Int) * 5000000000000000) (sumT d day k)
  | 0 => fun x hx => by
    have hx2 : x ∈ [(0:Int), 0, 0, 0, 0] := hx
    simp at hx2; subst hx2; omega
  | k + 1 => by
    have ih := sumT_small ok day k
    have hb := ok.balU (k : Int) day d.ents.length
    rw [List.take_length] at hb
    have h2 := gI_small ih (by omega) (gN d k)
    simp only [sumT]
    exact (ih.mono (by push_cast; omega)).set (by push_cast; constructor <;> omega) _
theorem stkT_small {d : LedD} (ok : LedOk d) (day : Int) : ∀ k : Nat, Small ((k : Int) * 5000000000000000) (stkT d day k)
  | 0 => fun x hx => by
    have hx2 : x ∈ [(0:Int), 0, 0, 0, 0] := hx
    simp at hx2; subst hx2; omega
  | k + 1 => by
    have ih := stkT_small ok day k
    have hb := ok.balU (k : Int) day d.ents.length
    rw [List.take_length] at hb
    have h2 := gI_small ih (by omega) (gN d k)
    simp only [stkT]
    split
    · exact (ih.mono (by push_cast; omega)).set (by push_cast; constructor <;> omega) _
    · exact ih.mono (by push_cast; omega)
end Go.Proofs.Ytekplfbfkfiabaa
