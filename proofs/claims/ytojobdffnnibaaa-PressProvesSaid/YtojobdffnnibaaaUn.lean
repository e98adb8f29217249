/- Towers, presses and states in memory. -/
import Derived.Test.YtojobdffnnibaaaSteps
import Derived.Test.YtojobdffnnibaaaPressPl
namespace Go.Proofs.Ytojobdffnnibaaa
open Go.RowKit
set_option linter.unusedVariables false
set_option linter.unusedSimpArgs false

def uC (u : UnitD) : List Value := [.bool u.op, .bool u.th, .bool u.cl, .bool u.pr, .int .i64 u.ink]
def uV (u : UnitD) : Value := .agg #[.bool u.op, .bool u.th, .bool u.cl, .bool u.pr, .int .i64 u.ink]
def uL (us : List UnitD) : List Value := us.flatMap uC
theorem uL_len (us : List UnitD) : (uL us).length = us.length * 5 := by
  unfold uL
  induction us with
  | nil => rfl
  | cons u us ih => rw [List.flatMap_cons, List.length_append, ih, List.length_cons, Nat.succ_mul]; simp [uC]; omega
theorem uL_get (us : List UnitD) (i j : Nat) (hi : i < us.length) (hj : j < 5) : (uL us)[i * 5 + j]? = (uC us[i])[j]? := by
  have e : uL us = (List.range us.length).flatMap fun i => uC (us.getD i default) := by
    unfold uL
    have h : us = (List.range us.length).map fun i => us.getD i default := by
      apply List.ext_getElem
      · simp
      · intro k h1 h2; simp [h1]
    conv => lhs; rw [h]
    rw [List.flatMap_map]
  rw [e, flat_get (f := fun i => uC (us.getD i default)) (fun _ => rfl) us.length i j hi hj]
  simp [List.getD, hi]
theorem uL_one (us : List UnitD) : ∀ v ∈ uL us, v.oneCell' = true := fun v hv => by
  unfold uL at hv
  obtain ⟨u, _, h⟩ := List.mem_flatMap.1 hv
  unfold uC at h
  simp at h
  rcases h with rfl | rfl | rfl | rfl | rfl <;> rfl

/-- A slice of towers. -/
def UnIn (w : World) (v : Value) (us : List UnitD) : Prop :=
  us.length ≤ 9223372036854775807 ∧ ∃ a c, v = .slice a us.length c ∧ (a = none → c = 0) ∧ (0 < us.length → ∃ b o, a = some ⟨b, o, none⟩ ∧ ∀ i (h : i < us.length), ∀ j, j < 5 → w.cell? ⟨b, o + i * 5 + j, none⟩ = (uC us[i])[j]?)
theorem uC_some (u : UnitD) (j : Nat) (hj : j < 5) : ∃ x, (uC u)[j]? = some x := ⟨_, List.getElem?_eq_getElem (show j < (uC u).length from hj)⟩
theorem UnIn.only {w w' : World} {v : Value} {us : List UnitD} {S : Nat → Prop} (h : UnIn w v us) (k : Only S w w') (hs : ∀ b, v.ownBlock = some b → ¬ S b) : UnIn w' v us := by
  obtain ⟨h0, a, c, h1, hn, h2⟩ := h
  refine ⟨h0, a, c, h1, hn, fun h3 => ?_⟩
  obtain ⟨b, o, h4, h5⟩ := h2 h3
  refine ⟨b, o, h4, fun i hi j hj => ?_⟩
  obtain ⟨x, hx⟩ := uC_some us[i] j hj
  have h6 := h5 i hi j hj
  rw [hx] at h6 ⊢
  exact k.cell h6 (hs b (by rw [h1, h4]; rfl))
theorem UnIn.ext {w w' : World} {v : Value} {us : List UnitD} (h : UnIn w v us) (k : Ext w w') : UnIn w' v us :=
  h.only (S := fun _ => False) (Only.of_ext k) fun _ _ h => h
theorem UnIn.nil (w : World) : UnIn w (.slice none 0 0) [] := ⟨by simp, none, 0, rfl, fun _ => rfl, fun h => by simp at h⟩
theorem UnIn.form {w : World} {v : Value} {us : List UnitD} (h : UnIn w v us) : ∃ a c, v = .slice a us.length c ∧ Hid (UnIn w (.slice a us.length c) us) := by
  have h' := h
  obtain ⟨_, a, c, rfl, _⟩ := h
  exact ⟨a, c, rfl, h'⟩
theorem UnIn.cells {w : World} {a : Option Addr} {n c : Nat} {us : List UnitD} (h : UnIn w (.slice a n c) us) (h0 : 0 < us.length) :
    ∃ b o, a = some ⟨b, o, none⟩ ∧ ∀ i (h : i < us.length), w.cell? ⟨b, o + i * 5, none⟩ = some (.bool us[i].op) ∧ w.cell? ⟨b, o + i * 5 + 1, none⟩ = some (.bool us[i].th) ∧ w.cell? ⟨b, o + i * 5 + 2, none⟩ = some (.bool us[i].cl) ∧ w.cell? ⟨b, o + i * 5 + 3, none⟩ = some (.bool us[i].pr) ∧ w.cell? ⟨b, o + i * 5 + 4, none⟩ = some (.int .i64 us[i].ink) := by
  obtain ⟨_, a', c', h1, _, h2⟩ := h
  cases h1
  obtain ⟨b, o, h4, h5⟩ := h2 h0
  exact ⟨b, o, h4, fun i hi => ⟨h5 i hi 0 (by omega), h5 i hi 1 (by omega), h5 i hi 2 (by omega), h5 i hi 3 (by omega), h5 i hi 4 (by omega)⟩⟩
theorem UnIn.of_owns {w : World} {B : Nat} {e : TypeId} {v : Value} {us : List UnitD} (h : w.ownsRow B e 5 v us.length (uL us)) (hl : us.length ≤ 9223372036854775807) : UnIn w v us := by
  obtain ⟨a, c, hv, hac⟩ : ∃ a c, v = .slice a us.length c ∧ (a = none → c = 0) := by
    rcases h.2 with ⟨hv, e⟩ | ⟨g, cap, cur, hv, _⟩
    · exact ⟨none, 0, by rw [hv, e], fun _ => rfl⟩
    · exact ⟨_, cap, hv, fun h => by cases h⟩
  refine ⟨hl, a, c, hv, hac, fun h0 => ?_⟩
  obtain ⟨g, c', hv', hc⟩ := owns_pos h h0
  rw [hv] at hv'
  cases hv'
  refine ⟨g, 0, rfl, fun i hi j hj => ?_⟩
  obtain ⟨x, hx⟩ := uC_some us[i] j hj
  have h1 := uL_get us i j hi hj
  rw [hx] at h1
  rw [Nat.zero_add, hx]
  exact hc (i * 5 + j) x h1
/-- To be appended or cloned. -/
theorem UnIn.src {w : World} {v : Value} {us : List UnitD} (h : UnIn w v us) : Src 5 w v us.length (uL us) := by
  obtain ⟨_, a, c, h1, hn, h2⟩ := h
  refine ⟨uL_len us, a, c, h1, fun e => ⟨?_, hn e⟩, fun ad had p u hp => ?_⟩
  · rcases Nat.eq_zero_or_pos us.length with h0 | h0
    · exact h0
    · obtain ⟨b, o, e', _⟩ := h2 h0; rw [e] at e'; cases e'
  · have hpl : p < us.length * 5 := by rw [← uL_len us]; exact (List.getElem?_eq_some_iff.1 hp).1
    obtain ⟨b, o, e, h4⟩ := h2 (by omega)
    rw [had] at e
    cases e
    have hpd : p = p / 5 * 5 + p % 5 := by omega
    have hq := uL_get us (p / 5) (p % 5) (by omega) (by omega)
    rw [← hpd, hp] at hq
    have h6 := h4 (p / 5) (by omega) (p % 5) (by omega)
    have e1 : (⟨b, o, none⟩ : Addr).add p = ⟨b, o + p / 5 * 5 + p % 5, none⟩ := by
      have : o + p / 5 * 5 + p % 5 = o + p := by omega
      rw [this]
      clear hpd hq h6 this hp h4 hpl
      unfold Addr.add; split <;> simp_all
    rw [e1, h6]
    exact hq.symm

/-- A slice of truths. -/
abbrev Truths (w : World) (v : Value) (bs : List Bool) : Prop := Sl w v (bs.map Value.bool)
/-- The numbers of a press fit. -/
def PressD.fits (p : PressD) : Prop := I64 p.warm ∧ I64 p.tail ∧ I64 p.dirt
def StD.fits (s : StD) : Prop := I64 s.drive ∧ I64 s.fresh ∧ ∀ u ∈ s.units, I64 u.ink
end Go.Proofs.Ytojobdffnnibaaa
