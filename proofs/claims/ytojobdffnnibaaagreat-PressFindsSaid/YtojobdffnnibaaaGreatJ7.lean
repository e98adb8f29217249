/- Actions, breaks and copies lead from a right state to a right one, in plain words. press.Do, press.Safe. -/
import Derived.Test.YtojobdffnnibaaaGreatJ6
import Derived.Test.YtojobdffnnibaaaGreatPBreak
import Derived.Test.YtojobdffnnibaaaGreatPPrint
namespace Go.Proofs.YtojobdffnnibaaaGreat
set_option linter.unusedVariables false

/-- What a right state is, limb by limb. -/
structure Good (p : PressD) (s : StD) : Prop where
  pe : pErr p = 0
  len : s.units.length = p.jam.length
  dr : 0 ≤ s.drive ∧ s.drive ≤ 2
  fr : 0 ≤ s.fresh ∧ s.fresh ≤ 1000000
  run : s.drive ≠ 2 → s.fresh = 0
  ink : ∀ u ∈ s.units, 0 ≤ u.ink ∧ u.ink ≤ 1000000
  shut : s.drive ≠ 0 → s.folder = false ∧ ∀ u ∈ s.units, u.op = false
  web : ∀ u ∈ s.units, u.pr = true → u.th = true ∧ s.drive ≠ 0
  some_ : s.drive = 2 → ∃ u ∈ s.units, u.pr = true
theorem good_iff (p : PressD) (s : StD) : stErr p s = 0 ↔ Good p s := by
  constructor
  · intro h
    obtain ⟨h1, h2, h3⟩ := stErr_ok h
    obtain ⟨d1, d2, d3⟩ := shaped_nums h2
    have hl := shaped_len h2
    unfold shapedD at h2
    simp only [Bool.and_eq_true, Bool.not_eq_true', Bool.and_eq_false_iff, bne_eq_false_iff_eq] at h2
    unfold safeD opened anyPr at h3
    simp only [Bool.and_eq_true, Bool.not_eq_true', Bool.and_eq_false_iff, bne_eq_false_iff_eq, Bool.or_eq_false_iff, Bool.or_eq_true, bne_iff_ne] at h3
    obtain ⟨⟨g1, g2⟩, g3⟩ := h3
    refine ⟨h1, hl, d1, d2, fun hd => ?_, d3, fun hd => ?_, fun u hu hp => ?_, fun hd => ?_⟩
    · rcases h2.1.2 with h | h
      · exact absurd h hd
      · exact h
    · rcases g1 with h | h
      · exact absurd h hd
      · exact ⟨h.1, fun u hu => by have := List.any_eq_false.1 h.2 u hu; simpa using this⟩
    · have := List.any_eq_false.1 g2 u hu
      rw [hp] at this
      simp at this
      exact ⟨this.1, this.2⟩
    · rcases g3 with h | h
      · exact absurd hd h
      · obtain ⟨u, hu, hp⟩ := List.any_eq_true.1 h
        exact ⟨u, hu, hp⟩
  · rintro ⟨h1, hl, d1, d2, d3, d4, g1, g2, g3⟩
    have hs : shapedD p s = true := by
      unfold shapedD okInk
      simp only [Bool.and_eq_true, decide_eq_true_eq, beq_iff_eq, Bool.not_eq_true', Bool.and_eq_false_iff, bne_eq_false_iff_eq, List.all_eq_true]
      refine ⟨⟨⟨⟨hl, d1⟩, d2⟩, ?_⟩, fun u hu => d4 u hu⟩
      by_cases h : s.drive = 2
      · exact .inl h
      · exact .inr (d3 h)
    have hf : safeD s = true := by
      unfold safeD opened anyPr
      simp only [Bool.and_eq_true, Bool.not_eq_true', Bool.and_eq_false_iff, bne_eq_false_iff_eq, Bool.or_eq_false_iff, Bool.or_eq_true, bne_iff_ne]
      refine ⟨⟨?_, ?_⟩, ?_⟩
      · by_cases h : s.drive = 0
        · exact .inl h
        · exact .inr ⟨(g1 h).1, List.any_eq_false.2 fun u hu => by simp [(g1 h).2 u hu]⟩
      · refine List.any_eq_false.2 fun u hu => ?_
        by_cases hp : u.pr = true
        · have := g2 u hu hp
          simp [this.1, this.2]
        · simp [hp]
      · by_cases h : s.drive = 2
        · obtain ⟨u, hu, hp⟩ := g3 h
          exact .inr (List.any_eq_true.2 ⟨u, hu, hp⟩)
        · exact .inl h
    unfold stErr
    rw [if_neg (by simp [h1]), hs, hf]; rfl

theorem mem_set' {α : Type} {l : List α} {i : Nat} {v u : α} (h : u ∈ l.set i v) : u = v ∨ u ∈ l := by
  rcases List.mem_or_eq_of_mem_set h with h | h
  · exact .inr h
  · exact .inl h
theorem getD_mem {s : StD} {i : Nat} (h : i < s.units.length) : s.units.getD i default ∈ s.units := by
  rw [List.getD_eq_getElem?_getD, List.getElem?_eq_getElem h]; exact List.getElem_mem h
theorem other_pr {us : List UnitD} {i : Nat} (hi : i < us.length) (hp : us[i].pr = true) (h : 1 < (us.filter (·.pr)).length) : ∃ u ∈ us.set i (unitD 6 us[i]), u.pr = true := by
  apply Classical.byContradiction
  intro hn
  have hno : ∀ j (hj : j < us.length), j ≠ i → us[j].pr = false := fun j hj hne => by
    cases hb : us[j].pr
    · rfl
    · exact absurd ⟨us[j], by rw [List.mem_iff_getElem]; exact ⟨j, by rw [List.length_set]; exact hj, by rw [List.getElem_set_ne (fun e => hne e.symm)]⟩, hb⟩ hn
  have e : us = us.take i ++ us[i] :: us.drop (i + 1) := by rw [List.getElem_cons_drop, List.take_append_drop]
  have h1 : (us.take i).filter (·.pr) = [] := by
    rw [List.filter_eq_nil_iff]
    intro u hu
    obtain ⟨j, hj, rfl⟩ := List.mem_iff_getElem.1 hu
    rw [List.length_take] at hj
    rw [List.getElem_take, hno j (by omega) (by omega)]; simp
  have h2 : (us.drop (i + 1)).filter (·.pr) = [] := by
    rw [List.filter_eq_nil_iff]
    intro u hu
    obtain ⟨j, hj, rfl⟩ := List.mem_iff_getElem.1 hu
    rw [List.length_drop] at hj
    rw [List.getElem_drop, hno (i + 1 + j) (by omega) (by omega)]; simp
  rw [e, List.filter_append, List.filter_cons, h1, h2, if_pos hp] at h
  simp at h

theorem act_good {p : PressD} {s : StD} {k x : Int} (g : Good p s) (h : actErr p s k x = 0) : Good p (doD s k x.toNat) := by
  have h' := h
  unfold actErr at h
  split at h
  · simp at h
  rename_i hk
  split at h
  · simp at h
  rename_i hx
  have ha : allowD p s k x.toNat = true := by
    split at h
    · assumption
    · simp at h
  clear h
  obtain ⟨i, hi⟩ : ∃ i, x.toNat = i := ⟨_, rfl⟩
  rw [hi] at ha ⊢
  have hil : i < s.units.length := by omega
  obtain ⟨u, hu⟩ : ∃ u, s.units.getD i default = u := ⟨_, rfl⟩
  have hum : u ∈ s.units := by rw [← hu]; exact getD_mem hil
  have hui : s.units[i] = u := by rw [← hu, List.getD_eq_getElem?_getD, List.getElem?_eq_getElem hil]; rfl
  obtain ⟨h1, hl, d1, d2, d3, d4, g1, g2, g3⟩ := g
  have hkk : k = 1 ∨ k = 2 ∨ k = 3 ∨ k = 4 ∨ k = 5 ∨ k = 6 ∨ k = 7 ∨ k = 8 ∨ k = 9 ∨ k = 10 ∨ k = 11 ∨ k = 12 := by omega
  -- a tower turned: what is asked of it alone
  have turn : ∀ v : UnitD, (0 ≤ v.ink ∧ v.ink ≤ 1000000) → (s.drive ≠ 0 → v.op = false) → (v.pr = true → v.th = true ∧ s.drive ≠ 0) → (s.drive = 2 → ∃ z ∈ s.units.set i v, z.pr = true) → Good p { s with units := s.units.set i v } := fun v k1 k2 k3 k4 => by
    refine ⟨h1, by simpa using hl, d1, d2, d3, fun z hz => ?_, fun hd => ⟨(g1 hd).1, fun z hz => ?_⟩, fun z hz hp => ?_, k4⟩
    · rcases mem_set' hz with rfl | hz
      · exact k1
      · exact d4 z hz
    · rcases mem_set' hz with rfl | hz
      · exact k2 hd
      · exact (g1 hd).2 z hz
    · rcases mem_set' hz with rfl | hz
      · exact k3 hp
      · exact g2 z hz hp
  have i0 := d4 u hum
  rcases hkk with rfl | rfl | rfl | rfl | rfl | rfl | rfl | rfl | rfl | rfl | rfl | rfl
  all_goals
    unfold allowD at ha
    unfold doD
    rw [hu] at ha ⊢
    simp at ha
    simp only [unitD]
    simp only [Int.reduceEq, if_true, if_false]
  · exact turn _ i0 (fun hd => absurd ha.1 hd) (fun hp => g2 u hum hp) (fun hd => by omega)
  · exact turn _ i0 (fun _ => rfl) (fun hp => g2 u hum hp) (fun hd => by have := (g1 (by omega)).2 u hum; rw [ha] at this; cases this)
  · exact turn _ i0 (fun hd => (g1 hd).2 u hum) (fun hp => ⟨rfl, by omega⟩) (fun hd => by omega)
  · exact turn _ ⟨by simp, by simp⟩ (fun hd => (g1 hd).2 u hum) (fun hp => g2 u hum hp) (fun hd => by omega)
  · exact turn _ i0 (fun hd => (g1 hd).2 u hum) (fun hp => ⟨ha.1.1.2, ha.1.1.1⟩) (fun hd => ⟨_, List.mem_iff_getElem.2 ⟨i, by rw [List.length_set]; exact hil, List.getElem_set_self _⟩, rfl⟩)
  · refine turn _ i0 (fun hd => (g1 hd).2 u hum) (fun hp => by cases hp) (fun hd => ?_)
    have h6 : 1 < (s.units.filter (·.pr)).length := by
      rcases ha.2 with h | h
      · exact absurd hd h
      · exact h
    have := other_pr hil (by rw [hui]; exact ha.1) h6
    rw [hui] at this
    exact this
  · exact ⟨h1, hl, by simp, by simp, fun _ => rfl, d4, fun _ => by
      have h7 := ha.2
      unfold opened at h7
      simp at h7
      exact ⟨h7.1, fun z hz => h7.2 z hz⟩, fun z hz hp => ⟨(g2 z hz hp).1, by simp⟩, fun hd => by simp at hd⟩
  · exact ⟨h1, hl, by simp, by simp, fun _ => rfl, d4, fun _ => g1 (by omega), fun z hz hp => ⟨(g2 z hz hp).1, by simp⟩, fun _ => by
      have h7 := ha.2
      unfold anyPr at h7
      obtain ⟨z, hz, hp⟩ := List.any_eq_true.1 h7
      exact ⟨z, hz, hp⟩⟩
  · exact ⟨h1, hl, by simp, by simp, fun _ => rfl, d4, fun hd => absurd rfl hd, fun z hz hp => by
      have h7 := ha.2
      unfold anyPr at h7
      have := List.any_eq_false.1 h7 z hz
      simp [hp] at this, fun hd => by simp at hd⟩
  · exact ⟨h1, hl, d1, d2, d3, d4, fun hd => absurd ha.1 hd, g2, g3⟩
  · exact ⟨h1, hl, d1, d2, d3, d4, fun hd => ⟨rfl, (g1 hd).2⟩, g2, g3⟩
  · refine turn _ i0 (fun hd => absurd ha.1.1 hd) (fun hp => absurd ha.1.1 (g2 u hum hp).2) (fun hd => by omega)

/-- Something moves against an open guard, or an impression is on where no web is. -/
def againstD (s : StD) : Bool := (s.units.any fun u => (s.drive != 0 && u.op) || (u.pr && (!u.th || !(s.drive != 0)))) || ((s.drive != 0 && s.folder) || (s.drive == 2 && nPr s == 0))
end Go.Proofs.YtojobdffnnibaaaGreat

namespace Go.Proofs.YtojobdffnnibaaaGreat
open Go.RowKit
set_option linter.unusedVariables false
set_option linter.unusedSimpArgs false

/-- The state that comes with an error. -/
def zD : StD := ⟨0, false, [], 0⟩
/-- The error of Do, and the state. -/
def doErr (p : PressD) (s : StD) (k x : Int) : Int := if stErr p s ≠ 0 then stErr p s else actErr p s k x
def doS (p : PressD) (s : StD) (k x : Int) : StD := if doErr p s k x = 0 then doD s k x.toNat else zD
/-- The towers of a state lie in a row of the call's own. -/
def OwU (w : World) (v : Value) (s : StD) : Prop := w.ownsRow 0 82 5 v s.units.length (uL s.units)
def DoAns (w : World) (p : PressD) (s : StD) (k x : Int) (e : Ending) (w' : World) : Prop :=
  ∃ vu, e = .returned (.tuple #[sV vu (doS p s k x), .int .i64 (doErr p s k x)]) ∧ OwU w' vu (doS p s k x) ∧ Ext w w'
/-- The same, and the row is as new as the call. -/
def DoAnsF (w : World) (p : PressD) (s : StD) (k x : Int) (e : Ending) (w' : World) : Prop :=
  ∃ vu, e = .returned (.tuple #[sV vu (doS p s k x), .int .i64 (doErr p s k x)]) ∧ w'.ownsRow w.heap.size 82 5 vu (doS p s k x).units.length (uL (doS p s k x).units) ∧ Ext w w'
/-- What Safe answers. -/
def safeE (p : PressD) (s : StD) : Int := if pErr p ≠ 0 then pErr p else if shapedD p s then 0 else 9
def safeB (p : PressD) (s : StD) : Bool := decide (safeE p s = 0) && safeD s
end Go.Proofs.YtojobdffnnibaaaGreat
