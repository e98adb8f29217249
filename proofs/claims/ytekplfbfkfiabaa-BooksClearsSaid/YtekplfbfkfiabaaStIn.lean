/- Slices of structs, told by a function from an element to its cells. -/
import Derived.Test.YtekplfbfkfiabaaSteps
namespace Go.Proofs.Ytekplfbfkfiabaa
open Go.RowKit
set_option linter.unusedVariables false
set_option linter.unusedSimpArgs false

section
variable {α : Type} {z : Nat} {f : α → List Value}
theorem fl_len (hz : ∀ x, (f x).length = z) (us : List α) : (us.flatMap f).length = us.length * z := by
  induction us with
  | nil => simp
  | cons u us ih => rw [List.flatMap_cons, List.length_append, ih, List.length_cons, Nat.succ_mul, hz]; omega
theorem fl_get (hz : ∀ x, (f x).length = z) : ∀ (us : List α) (i j : Nat) (hi : i < us.length), j < z → (us.flatMap f)[i * z + j]? = (f us[i])[j]? := by
  intro us
  induction us with
  | nil => intro i j hi; simp at hi
  | cons u us ih =>
    intro i j hi hj
    rw [List.flatMap_cons]
    cases i with
    | zero => rw [Nat.zero_mul, Nat.zero_add, List.getElem?_append_left (by rw [hz]; exact hj)]; rfl
    | succ i =>
      have e : (i + 1) * z + j = z + (i * z + j) := by rw [Nat.succ_mul]; omega
      rw [e, List.getElem?_append_right (by rw [hz]; omega), hz, Nat.add_sub_cancel_left]
      exact ih i j (by simpa using hi) hj
theorem fl_one (h1 : ∀ x, ∀ v ∈ f x, v.oneCell' = true) (us : List α) : ∀ v ∈ us.flatMap f, v.oneCell' = true := fun v hv => by
  obtain ⟨u, _, h⟩ := List.mem_flatMap.1 hv
  exact h1 u v h

/-- A slice of structs. -/
def StIn (z : Nat) (f : α → List Value) (w : World) (v : Value) (us : List α) : Prop :=
  us.length ≤ 9223372036854775807 ∧ ∃ a c, v = .slice a us.length c ∧ (a = none → c = 0) ∧ (0 < us.length → ∃ b o, a = some ⟨b, o, none⟩ ∧ ∀ i (h : i < us.length), ∀ j, j < z → w.cell? ⟨b, o + i * z + j, none⟩ = (f us[i])[j]?)
theorem fl_some (hz : ∀ x, (f x).length = z) (u : α) (j : Nat) (hj : j < z) : ∃ x, (f u)[j]? = some x := ⟨_, List.getElem?_eq_getElem (show j < (f u).length by rw [hz]; exact hj)⟩
theorem StIn.only (hz : ∀ x, (f x).length = z) {w w' : World} {v : Value} {us : List α} {S : Nat → Prop} (h : StIn z f w v us) (k : Only S w w') (hs : ∀ b, v.ownBlock = some b → ¬ S b) : StIn z f w' v us := by
  obtain ⟨h0, a, c, h1, hn, h2⟩ := h
  refine ⟨h0, a, c, h1, hn, fun h3 => ?_⟩
  obtain ⟨b, o, h4, h5⟩ := h2 h3
  refine ⟨b, o, h4, fun i hi j hj => ?_⟩
  obtain ⟨x, hx⟩ := fl_some hz us[i] j hj
  have h6 := h5 i hi j hj
  rw [hx] at h6 ⊢
  exact k.cell h6 (hs b (by rw [h1, h4]; rfl))
theorem StIn.ext (hz : ∀ x, (f x).length = z) {w w' : World} {v : Value} {us : List α} (h : StIn z f w v us) (k : Ext w w') : StIn z f w' v us :=
  h.only hz (S := fun _ => False) (Only.of_ext k) fun _ _ h => h
theorem StIn.nil (w : World) : StIn z f w (.slice none 0 0) [] := ⟨by simp, none, 0, rfl, fun _ => rfl, fun h => by simp at h⟩
theorem StIn.form {w : World} {v : Value} {us : List α} (h : StIn z f w v us) : ∃ a c, v = .slice a us.length c ∧ Hid (StIn z f w (.slice a us.length c) us) := by
  have h' := h
  obtain ⟨_, a, c, rfl, _⟩ := h
  exact ⟨a, c, rfl, h'⟩
theorem StIn.cells {w : World} {a : Option Addr} {n c : Nat} {us : List α} (h : StIn z f w (.slice a n c) us) (h0 : 0 < us.length) :
    ∃ b o, a = some ⟨b, o, none⟩ ∧ ∀ i (h : i < us.length), ∀ j, j < z → w.cell? ⟨b, o + i * z + j, none⟩ = (f us[i])[j]? := by
  obtain ⟨_, a', c', h1, _, h2⟩ := h
  cases h1
  exact h2 h0
theorem StIn.of_owns (hz : ∀ x, (f x).length = z) {w : World} {B : Nat} {e : TypeId} {v : Value} {us : List α} (h : w.ownsRow B e z v us.length (us.flatMap f)) (hl : us.length ≤ 9223372036854775807) : StIn z f w v us := by
  obtain ⟨a, c, hv, hac⟩ : ∃ a c, v = .slice a us.length c ∧ (a = none → c = 0) := by
    rcases h.2 with ⟨hv, e⟩ | ⟨g, cap, cur, hv, _⟩
    · exact ⟨none, 0, by rw [hv, e], fun _ => rfl⟩
    · exact ⟨_, cap, hv, fun h => by cases h⟩
  refine ⟨hl, a, c, hv, hac, fun h0 => ?_⟩
  obtain ⟨g, c', hv', hc⟩ := owns_pos h h0
  rw [hv] at hv'
  cases hv'
  refine ⟨g, 0, rfl, fun i hi j hj => ?_⟩
  obtain ⟨x, hx⟩ := fl_some hz us[i] j hj
  have h1 := fl_get hz us i j hi hj
  rw [hx] at h1
  rw [Nat.zero_add, hx]
  exact hc (i * z + j) x h1
/-- To be appended or cloned. -/
theorem StIn.src (hz : ∀ x, (f x).length = z) (h0 : 0 < z) {w : World} {v : Value} {us : List α} (h : StIn z f w v us) : Src z w v us.length (us.flatMap f) := by
  obtain ⟨_, a, c, h1, hn, h2⟩ := h
  refine ⟨fl_len hz us, a, c, h1, fun e => ⟨?_, hn e⟩, fun ad had p u hp => ?_⟩
  · rcases Nat.eq_zero_or_pos us.length with h0 | h0
    · exact h0
    · obtain ⟨b, o, e', _⟩ := h2 h0; rw [e] at e'; cases e'
  · have hpl : p < us.length * z := by rw [← fl_len hz us]; exact (List.getElem?_eq_some_iff.1 hp).1
    have hi : p / z < us.length := (Nat.div_lt_iff_lt_mul h0).2 hpl
    have hj : p % z < z := Nat.mod_lt _ h0
    obtain ⟨b, o, e, h4⟩ := h2 (Nat.lt_of_le_of_lt (Nat.zero_le _) hi)
    rw [had] at e
    cases e
    have hpd : p / z * z + p % z = p := by rw [Nat.mul_comm]; exact Nat.div_add_mod p z
    have hq := fl_get hz us (p / z) (p % z) hi hj
    rw [hpd, hp] at hq
    have h6 := h4 (p / z) hi (p % z) hj
    have e1 : (⟨b, o, none⟩ : Addr).add p = ⟨b, o + p / z * z + p % z, none⟩ := by
      have : o + p / z * z + p % z = o + p := by omega
      rw [this]
      clear hpd hq h6 this hp h4 hpl hi hj
      unfold Addr.add; split <;> simp_all
    rw [e1, h6]
    exact hq.symm
end
end Go.Proofs.Ytekplfbfkfiabaa
