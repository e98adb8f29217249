/- What printing does, in plain words and in memory. -/
import Derived.Test.YtojobdffnnibaaaPPtr
namespace Go.Proofs.Ytojobdffnnibaaa
open Go.RowKit
set_option linter.unusedVariables false
set_option linter.unusedSimpArgs false

theorem tWastes : SliceT Try.prog 38 54 (.agg #[.int .i64 0, .int .i64 0, .int .i64 0]) 3 24 := ⟨by kernel_rfl, by kernel_rfl, rfl, by decide, by decide⟩
def spC (x : SpanD) : List Value := [.int .i64 x.cause, .int .i64 x.lo, .int .i64 x.hi]
def spL (l : List SpanD) : List Value := l.flatMap spC
/-- The state that comes with an error. -/
def sZ : Value := .agg #[.int .i64 0, .bool false, .slice none 0 0, .int .i64 0]

def PrPost (w : World) (p : PressD) (s : StD) (n : Int) (e : Ending) (w' : World) : Prop :=
  (prErr p s n ≠ 0 ∧ e = .returned (.tuple #[sZ, .slice none 0 0, .int .i64 (prErr p s n)]) ∧ Ext w w') ∨
  (prErr p s n = 0 ∧ ∃ vu vw, e = .returned (.tuple #[sV vu (prD s n), vw, .int .i64 0]) ∧ w'.ownsRow w.heap.size 50 5 vu s.units.length (uL (prD s n).units) ∧
    w'.ownsRow w.heap.size 54 3 vw (prW p s n).length (spL (prW p s n)) ∧ Ext w w')

section
variable {B : Nat} {w w' : World} {mb pb ub c : Nat} {p : PressD} {s : StD} {vj : Value}
/-- The cells of a tower. -/
theorem MOw.at (h : MOw B w mb pb ub c p s vj) {i : Nat} (hi : i < s.units.length) :
    w.cell? ⟨ub, i * 5, none⟩ = some (.bool s.units[i].op) ∧ w.cell? ⟨ub, i * 5 + 1, none⟩ = some (.bool s.units[i].th) ∧ w.cell? ⟨ub, i * 5 + 2, none⟩ = some (.bool s.units[i].cl) ∧ w.cell? ⟨ub, i * 5 + 3, none⟩ = some (.bool s.units[i].pr) ∧ w.cell? ⟨ub, i * 5 + 4, none⟩ = some (.int .i64 s.units[i].ink) := by
  obtain ⟨cs, hb, ⟨h1, h2, h3⟩, ht⟩ := h.bu
  have e : ∀ j, j < 5 → w.cell? ⟨ub, i * 5 + j, none⟩ = (uC s.units[i])[j]? := fun j hj => by
    rw [hb.cell, ← uL_get s.units i j hi hj, ← ht, List.getElem?_take_of_lt (by omega), Array.getElem?_toList]
  exact ⟨e 0 (by omega), e 1 (by omega), e 2 (by omega), e 3 (by omega), e 4 (by omega)⟩
/-- Room for a tower's cells. -/
theorem MOw.room (h : MOw B w mb pb ub c p s vj) : ∃ cs, Blk w ub cs 50 ∧ s.units.length * 5 ≤ cs.size := by
  obtain ⟨cs, hb, ⟨h1, h2, h3⟩, ht⟩ := h.bu
  exact ⟨cs, hb, by omega⟩
end

/-- The first k towers are inked. -/
def midU (n : Int) (us : List UnitD) (k : Nat) : List UnitD := (us.take k).map (inked n) ++ us.drop k
theorem midU_len (n : Int) (us : List UnitD) (k : Nat) : (midU n us k).length = us.length := by
  unfold midU; simp; omega
theorem midU_zero (n : Int) (us : List UnitD) : midU n us 0 = us := by simp [midU]
theorem midU_end (n : Int) (us : List UnitD) (k : Nat) (hk : us.length ≤ k) : midU n us k = us.map (inked n) := by
  simp [midU, List.take_of_length_le hk, List.drop_of_length_le hk]
theorem midU_at (n : Int) (us : List UnitD) (k : Nat) (hk : k < us.length) : (midU n us k)[k]'(by rw [midU_len]; exact hk) = us[k] := by
  unfold midU
  rw [List.getElem_append_right (by simp; omega)]
  simp [Nat.min_eq_left (Nat.le_of_lt hk)]
theorem midU_succ (n : Int) (us : List UnitD) (k : Nat) (hk : k < us.length) : midU n us (k + 1) = (midU n us k).set k (inked n us[k]) := by
  unfold midU
  rw [List.set_append_right _ _ (by simp; omega)]
  have e : k - ((us.take k).map (inked n)).length = 0 := by simp; omega
  rw [e, List.drop_eq_getElem_cons hk, List.set_cons_zero, List.take_succ_eq_append_getElem hk, List.map_append, List.append_assoc]
  rfl
theorem inkM_snoc (us : List UnitD) (k : Nat) (hk : k < us.length) : inkM (us.take (k + 1)) = if us[k].pr then max (inkM (us.take k)) us[k].ink else inkM (us.take k) := by
  unfold inkM
  rw [List.take_succ_eq_append_getElem hk, List.foldl_append]
  rfl
theorem shaped_nums {p : PressD} {s : StD} (h : shapedD p s = true) : (0 ≤ s.drive ∧ s.drive ≤ 2) ∧ (0 ≤ s.fresh ∧ s.fresh ≤ 1000000) ∧ ∀ u ∈ s.units, 0 ≤ u.ink ∧ u.ink ≤ 1000000 := by
  unfold shapedD okInk at h
  simp only [Bool.and_eq_true, decide_eq_true_eq, List.all_eq_true, beq_iff_eq] at h
  obtain ⟨⟨⟨⟨_, h1⟩, h2⟩, _⟩, h3⟩ := h
  exact ⟨h1, h2, h3⟩
theorem pErr_nums {p : PressD} (h : pErr p = 0) : (0 ≤ p.warm ∧ p.warm ≤ 10000) ∧ (0 ≤ p.tail ∧ p.tail ≤ 10000) ∧ (0 ≤ p.dirt ∧ p.dirt ≤ 10000) := by
  unfold pErr at h
  split at h
  · simp at h
  · split at h
    · rename_i h2
      unfold okN at h2
      simp only [Bool.and_eq_true, decide_eq_true_eq] at h2
      exact ⟨h2.1.1, h2.1.2, h2.2⟩
    · simp at h
theorem inkM_bd {us : List UnitD} (h : ∀ u ∈ us, 0 ≤ u.ink ∧ u.ink ≤ 1000000) : 0 ≤ inkM us ∧ inkM us ≤ 1000000 := by
  refine ⟨(inkM_ge us 0).1, ?_⟩
  rcases inkM_at us 0 with h0 | ⟨u, hu, _, h0⟩
  · unfold inkM; omega
  · unfold inkM; have := h u hu; omega
theorem inkM_take_bd {us : List UnitD} (h : ∀ u ∈ us, 0 ≤ u.ink ∧ u.ink ≤ 1000000) (k : Nat) : 0 ≤ inkM (us.take k) ∧ inkM (us.take k) ≤ 1000000 :=
  inkM_bd fun u hu => h u (List.mem_of_mem_take hu)
end Go.Proofs.Ytojobdffnnibaaa
