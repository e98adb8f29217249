/- RegisterFinds: the plain law: how many marks a shift finds. -/
import Derived.Test.YtafnadaahnkcmaaMatchT
import Derived.Test.YtafnadaahnkcmaaBest
namespace Go.Proofs.Ytafnadaahnkcmaa
open Go.RowKit
set_option linter.unusedVariables false

/-- how many of the places ps have one of ks within the window, if they are shifted by s. -/
def hitN (ks : List Int) (w s : Int) (ps : List Int) : Nat := (ps.filter fun p => ks.any fun x => inB x (p + s - w) (p + s + w)).length
theorem hitN_snoc (ks : List Int) (w s : Int) (ps : List Int) (p : Int) : hitN ks w s (ps ++ [p]) = hitN ks w s ps + if (ks.any fun x => inB x (p + s - w) (p + s + w)) then 1 else 0 := by
  unfold hitN
  rw [List.filter_append, List.length_append]
  cases h : (ks.any fun x => inB x (p + s - w) (p + s + w)) <;> simp [h]
theorem any_mono {ks ls : List Int} (h : ∀ x ∈ ks, x ∈ ls) (f : Int → Bool) (ha : ks.any f = true) : ls.any f = true := by
  rw [List.any_eq_true] at ha ⊢
  obtain ⟨x, h1, h2⟩ := ha
  exact ⟨x, h x h1, h2⟩
theorem filter_len_mono {α : Type} (f g : α → Bool) (h : ∀ a, f a = true → g a = true) : ∀ l : List α, (l.filter f).length ≤ (l.filter g).length := by
  intro l
  induction l with
  | nil => simp
  | cons a l ih =>
    rw [List.filter_cons, List.filter_cons]
    by_cases hf : f a = true
    · rw [if_pos hf, if_pos (h a hf)]; simpa using ih
    · rw [if_neg hf]; split
      · simp; omega
      · exact ih
theorem hitN_mono {ks ls : List Int} (h : ∀ x ∈ ks, x ∈ ls) (w s : Int) (ps : List Int) : hitN ks w s ps ≤ hitN ls w s ps :=
  filter_len_mono _ _ (fun p hp => any_mono h _ hp) ps

theorem fnd_lost (xs : List Int) (lo hi : Int) (hb : ∀ x ∈ xs, x ≤ 200000) : (fnd xs lo hi != 1000000000) = xs.any fun x => inB x lo hi := by
  unfold fnd
  cases h : xs.find? (fun x => inB x lo hi) with
  | none =>
    rw [List.find?_eq_none] at h
    have : (xs.any fun x => inB x lo hi) = false := by rw [List.any_eq_false]; exact h
    simp [this]
  | some y =>
    have h1 := List.find?_some h
    have h2 := List.mem_of_find?_eq_some h
    have h3 := hb y h2
    have : (xs.any fun x => inB x lo hi) = true := List.any_eq_true.2 ⟨y, h2, h1⟩
    rw [this]
    simp; omega
theorem cntL_fit (pat xs : List Int) (w s : Int) (hb : ∀ x ∈ xs, x ≤ 200000) : cntL (fitL pat xs w s) = (hitN xs w s pat : Int) := by
  unfold cntL fitL hitN
  rw [List.filter_map, List.length_map]
  congr 2
  apply List.filter_congr
  intro p hp
  exact fnd_lost xs _ _ hb
theorem fit_take (pat xs : List Int) (w s : Int) (k : Nat) : (fitL pat xs w s).take k = fitL (pat.take k) xs w s := by unfold fitL; rw [List.map_take]
/-- What was found is there, and within the window. -/
theorem fnd_spec (xs : List Int) (lo hi : Int) (h : fnd xs lo hi ≠ 1000000000) : fnd xs lo hi ∈ xs ∧ lo ≤ fnd xs lo hi ∧ fnd xs lo hi ≤ hi := by
  unfold fnd at h ⊢
  cases h' : xs.find? (fun x => inB x lo hi) with
  | none => rw [h'] at h; exact (h rfl).elim
  | some y =>
    have h1 := List.find?_some h'
    exact ⟨List.mem_of_find?_eq_some h', (inB_iff _ _ _).1 h1⟩

theorem cntF_pos (pat seen : List Int) (w s : Int) : 0 ≤ cntF pat seen w s := by unfold cntF cntL; omega
/-- The best shift finds as many as any other. -/
theorem best_most (pat seen : List Int) (w s : Int) (hs : -2000 ≤ s ∧ s ≤ 2000) : cntF pat seen w s ≤ (bestS (cntF pat seen w) (shs 2001)).2 ∧ (bestS (cntF pat seen w) (shs 2001)).2 = cntF pat seen w (bestS (cntF pat seen w) (shs 2001)).1 ∧
    -2000 ≤ (bestS (cntF pat seen w) (shs 2001)).1 ∧ (bestS (cntF pat seen w) (shs 2001)).1 ≤ 2000 := by
  obtain ⟨h1, h2, h3⟩ := shs_best (cntF pat seen w) (cntF_pos pat seen w) 2001 (by omega)
  have h4 := h3 s (shs_mem 2001 s (by omega))
  have h5 := shs_bd 2001 _ h1
  exact ⟨by omega, h2, by omega, by omega⟩

/-- x comes into an ordered list. -/
theorem inc_insert {L : List Int} (hL : Inc L) {j : Nat} {x : Int} (hj : j ≤ L.length) (h1 : ∀ i (h : i < L.length), i < j → L[i] < x) (h2 : ∀ i (h : i < L.length), j ≤ i → x < L[i]) : Inc (L.take j ++ [x] ++ L.drop j) := by
  have hlen : (L.take j ++ [x] ++ L.drop j).length = L.length + 1 := by simp; omega
  have get : ∀ i (h : i < (L.take j ++ [x] ++ L.drop j).length), (L.take j ++ [x] ++ L.drop j)[i] = if h1 : i < j then L[i]'(by omega) else if h2 : i = j then x else L[i - 1]'(by rw [hlen] at h; omega) := by
    intro i h
    have h0 : i < L.length + 1 := by omega
    by_cases hij : i < j
    · rw [dif_pos hij, List.getElem_append_left (by simp; omega), List.getElem_append_left (by simp; omega), List.getElem_take]
    · rw [dif_neg hij]
      by_cases he : i = j
      · subst he
        rw [dif_pos rfl, List.getElem_append_left (by simp; omega), List.getElem_append_right (by simp; omega)]
        simp
      · rw [dif_neg he, List.getElem_append_right (by simp; omega), List.getElem_drop]
        congr 1
        simp; omega
  intro a b hab hb
  rw [get a (by omega), get b hb]
  have hb' : b < L.length + 1 := by omega
  by_cases haj : a < j
  · rw [dif_pos haj]
    by_cases hbj : b < j
    · rw [dif_pos hbj]; exact hL a b hab (by omega)
    · rw [dif_neg hbj]
      split
      · exact h1 a (by omega) haj
      · exact hL a (b - 1) (by omega) (by omega)
  · rw [dif_neg haj]
    have hbj : ¬ b < j := by omega
    rw [dif_neg hbj, dif_neg (show ¬ b = j by omega)]
    split
    · exact h2 (b - 1) (by omega) (by omega)
    · exact hL (a - 1) (b - 1) (by omega) (by omega)
theorem mem_insert {L : List Int} (j : Nat) (x y : Int) : y ∈ L.take j ++ [x] ++ L.drop j ↔ y = x ∨ y ∈ L := by
  rw [List.mem_append, List.mem_append, List.mem_singleton]
  constructor
  · rintro ((h | h) | h)
    · exact .inr (List.mem_of_mem_take h)
    · exact .inl h
    · exact .inr (List.mem_of_mem_drop h)
  · rintro (h | h)
    · exact .inl (.inr h)
    · rw [← List.take_append_drop j L, List.mem_append] at h
      exact h.elim (fun h => .inl (.inl h)) .inr
theorem inc_seen {L : List Int} (hL : Inc L) (hb : ∀ x ∈ L, -100000 ≤ x ∧ x ≤ 200000) : SeenOk L := fun j h =>
  ⟨(hb _ (List.getElem_mem h)).1, (hb _ (List.getElem_mem h)).2, fun h0 => hL (j - 1) j (by omega) h⟩
theorem hit_same {ks : List Int} {w s : Int} {P : List Int} {k tr : Nat} (hk : k < P.length) (h : tr ≤ hitN ks w s (P.take k)) : tr ≤ hitN ks w s (P.take (k + 1)) := by
  rw [List.take_succ_eq_append_getElem hk, hitN_snoc]; omega
theorem hit_more {ks : List Int} {w s x : Int} {P : List Int} {k tr : Nat} (hk : k < P.length) (h : tr ≤ hitN ks w s (P.take k)) (h1 : P[k] + s - w ≤ x) (h2 : x ≤ P[k] + s + w) : tr + 1 ≤ hitN (ks ++ [x]) w s (P.take (k + 1)) := by
  have hm := hitN_mono (ks := ks) (ls := ks ++ [x]) (fun y hy => List.mem_append_left _ hy) w s (P.take k)
  rw [List.take_succ_eq_append_getElem hk, hitN_snoc]
  have : ((ks ++ [x]).any fun x => inB x (P[k] + s - w) (P[k] + s + w)) = true := List.any_eq_true.2 ⟨x, by simp, (inB_iff _ _ _).2 ⟨h1, h2⟩⟩
  rw [this, if_pos rfl]; omega
theorem hit_put {ks : List Int} {w s : Int} {P : List Int} {tr : Nat} (x : Int) (h : tr ≤ hitN ks w s P) : tr ≤ hitN (ks ++ [x]) w s P :=
  Nat.le_trans h (hitN_mono (fun y hy => List.mem_append_left _ hy) w s P)
theorem hitN_le (ks : List Int) (w s : Int) (P : List Int) : hitN ks w s P ≤ P.length := List.length_filter_le _ _
/-- What a map's keys are bound to be. -/
def KeyBd (ks : List Int) : Prop := ∀ x ∈ ks, -100000 ≤ x ∧ x ≤ 200000
theorem KeyBd.put {ks : List Int} (h : KeyBd ks) {x : Int} (hx : -100000 ≤ x ∧ x ≤ 200000) : KeyBd (ks ++ [x]) := fun y hy => by
  rcases List.mem_append.1 hy with hy | hy
  · exact h y hy
  · rw [List.mem_singleton.1 hy]; exact hx
def bestOf (pat seen : List Int) (w : Int) : Int × Int := bestS (cntF pat seen w) (shs 2001)
theorem best_pair (pat seen : List Int) (w : Int) : ∃ b c, bestS (cntF pat seen w) (shs 2001) = (b, c) ∧ (-2000 ≤ b ∧ b ≤ 2000) ∧ c = cntL (fitL pat seen w b) ∧ ∀ s, -2000 ≤ s → s ≤ 2000 → cntL (fitL pat seen w s) ≤ c := by
  have key := fun s h1 h2 => best_most pat seen w s ⟨h1, h2⟩
  obtain ⟨p, hp⟩ : ∃ p, bestOf pat seen w = p := ⟨_, rfl⟩
  have key2 : ∀ s, -2000 ≤ s → s ≤ 2000 → cntF pat seen w s ≤ p.2 ∧ p.2 = cntF pat seen w p.1 ∧ -2000 ≤ p.1 ∧ p.1 ≤ 2000 := fun s h1 h2 => by
    have := key s h1 h2
    rw [← hp]; exact this
  exact ⟨p.1, p.2, hp, (key2 0 (by omega) (by omega)).2.2, (key2 0 (by omega) (by omega)).2.1, fun s h1 h2 => (key2 s h1 h2).1⟩
end Go.Proofs.Ytafnadaahnkcmaa
