/- What the reference's Print keeps in memory, and what it counts, in plain words. -/
import Derived.Test.YtojobdffnnibaaaRLeaf2
namespace Go.Proofs.Ytojobdffnnibaaa
open Go.RowKit
set_option linter.unusedVariables false
set_option linter.unusedSimpArgs false

theorem tRUnits : SliceT Try.prog 25 98 (.agg #[.bool false, .bool false, .bool false, .bool false, .int .i64 0]) 5 16 := ⟨by kernel_rfl, by kernel_rfl, rfl, by decide, by decide⟩
theorem tRWastes : SliceT Try.prog 42 110 (.agg #[.int .i64 0, .int .i64 0, .int .i64 0]) 3 24 := ⟨by kernel_rfl, by kernel_rfl, rfl, by decide, by decide⟩

/-- A state of the reference that is the call's own. -/
structure RS (B : Nat) (w : World) (sb ub c : Nat) (s : StD) : Prop where
  bs : Blk w sb #[.int .i64 s.drive, .bool s.folder, .slice (some ⟨ub, 0, none⟩) s.units.length c, .int .i64 s.fresh] 27
  bu : ∃ cs, Blk w ub cs 98 ∧ (s.units.length ≤ c ∧ c ≤ maxLen ∧ cs.size = c * 5) ∧ cs.toList.take (s.units.length * 5) = uL s.units
  ls : B ≤ sb
  lu : B ≤ ub

section
variable {B : Nat} {w w' : World} {sb ub c : Nat} {s : StD}
theorem RS.only {S : Nat → Prop} (h : RS B w sb ub c s) (k : Only S w w') (hm : ¬ S sb) (hu : ¬ S ub) : RS B w' sb ub c s := by
  obtain ⟨cs, hb, hn, ht⟩ := h.bu
  exact ⟨h.bs.only k hm, ⟨cs, hb.only k hu, hn, ht⟩, h.ls, h.lu⟩
theorem RS.ext (h : RS B w sb ub c s) (k : Ext w w') : RS B w' sb ub c s :=
  h.only (S := fun _ => False) (Only.of_ext k) id id
theorem RS.su (h : RS B w sb ub c s) : sb ≠ ub := fun e => by
  obtain ⟨cs, hb, _⟩ := h.bu
  exact absurd (blk_ty h.bs (e ▸ hb)) (by decide)
theorem RS.at (h : RS B w sb ub c s) {i : Nat} (hi : i < s.units.length) :
    w.cell? ⟨ub, i * 5, none⟩ = some (.bool s.units[i].op) ∧ w.cell? ⟨ub, i * 5 + 1, none⟩ = some (.bool s.units[i].th) ∧ w.cell? ⟨ub, i * 5 + 2, none⟩ = some (.bool s.units[i].cl) ∧ w.cell? ⟨ub, i * 5 + 3, none⟩ = some (.bool s.units[i].pr) ∧ w.cell? ⟨ub, i * 5 + 4, none⟩ = some (.int .i64 s.units[i].ink) := by
  obtain ⟨cs, hb, ⟨h1, h2, h3⟩, ht⟩ := h.bu
  have e : ∀ j, j < 5 → w.cell? ⟨ub, i * 5 + j, none⟩ = (uC s.units[i])[j]? := fun j hj => by
    rw [hb.cell, ← uL_get s.units i j hi hj, ← ht, List.getElem?_take_of_lt (by omega), Array.getElem?_toList]
  exact ⟨e 0 (by omega), e 1 (by omega), e 2 (by omega), e 3 (by omega), e 4 (by omega)⟩
theorem RS.room (h : RS B w sb ub c s) : ∃ cs, Blk w ub cs 98 ∧ s.units.length * 5 ≤ cs.size := by
  obtain ⟨cs, hb, ⟨h1, h2, h3⟩, ht⟩ := h.bu
  exact ⟨cs, hb, by omega⟩
theorem RS.own (h : RS B w sb ub c s) : w.ownsRow B 98 5 (.slice (some ⟨ub, 0, none⟩) s.units.length c) s.units.length (uL s.units) := by
  obtain ⟨cs, hb, ⟨h1, h2, h3⟩, ht⟩ := h.bu
  exact ⟨uL_len _, .inr ⟨ub, c, cs, rfl, h.lu, hb, h1, h2, h3, ht⟩⟩
theorem RS.setU {cs : Array Value} {i j : Nat} {u : UnitD} {v : Value} (h : RS B w sb ub c s) (hb : Blk w ub cs 98) (hi : i < s.units.length) (hj : j < 5) (hu : uC u = (uC s.units[i]).set j v)
    (hb1 : Blk w' ub (cs.setIfInBounds (i * 5 + j) v) 98) (ho : Only (fun k => k = ub) w w') : RS B w' sb ub c { s with units := s.units.set i u } := by
  obtain ⟨cs', hb', ⟨h1, h2, h3⟩, ht⟩ := h.bu
  have e : cs' = cs := by
    have := hb'.symm.trans hb
    simp only [Option.some.injEq, Obj.cells.injEq] at this
    exact this.1
  subst e
  have hl : ({ s with units := s.units.set i u } : StD).units.length = s.units.length := List.length_set
  refine ⟨?_, ⟨_, hb1, ⟨?_, h2, ?_⟩, ?_⟩, h.ls, h.lu⟩
  · rw [hl]; exact h.bs.only ho h.su
  · rw [hl]; exact h1
  · rw [Array.size_setIfInBounds]; exact h3
  · rw [hl, Array.toList_setIfInBounds, List.take_set, ht]
    exact uL_set hi hj hu
theorem RS.setS {s' : StD} (h : RS B w sb ub c s) (hu : s'.units = s.units) (hb : Blk w' sb #[.int .i64 s'.drive, .bool s'.folder, .slice (some ⟨ub, 0, none⟩) s.units.length c, .int .i64 s'.fresh] 27)
    (ho : Only (fun k => k = sb) w w') : RS B w' sb ub c s' := by
  obtain ⟨cs, hbu, hn, ht⟩ := h.bu
  exact ⟨by rw [hu]; exact hb, ⟨cs, hbu.only ho (fun e => h.su e.symm), by rw [hu]; exact hn, by rw [hu]; exact ht⟩, h.ls, h.lu⟩
theorem RS.bs' (h : RS B w sb ub c s) {dr f : Int} {fo : Bool} {l : Nat} (h1 : s.drive = dr) (h2 : s.folder = fo) (h3 : s.units.length = l) (h4 : s.fresh = f) :
    Blk w sb #[.int .i64 dr, .bool fo, .slice (some ⟨ub, 0, none⟩) l c, .int .i64 f] 27 := by
  subst h1; subst h2; subst h3; subst h4; exact h.bs
/-- The row that is made. -/
theorem RS.mk' {v : Value} (hv : v = .slice (some ⟨ub, 0, none⟩) s.units.length c) (hs : Blk w sb #[.int .i64 s.drive, .bool s.folder, v, .int .i64 s.fresh] 27)
    (hu : w.ownsRow B 98 5 v s.units.length (uL s.units)) (h0 : 0 < s.units.length) (ls : B ≤ sb) : RS B w sb ub c s := by
  have hlu := (hu.lt ub (by rw [hv]; rfl)).1
  subst hv
  refine ⟨hs, ?_, ls, hlu⟩
  rcases hu.2 with ⟨_, e⟩ | ⟨g, cap, cur, hv, _, hb, hc, hm, hs, ht⟩
  · omega
  · cases hv
    exact ⟨cur, hb, ⟨hc, hm, hs⟩, ht⟩
end

theorem inked_zero (u : UnitD) : inked 0 u = u := by
  unfold inked; split
  · simp
  · rfl
theorem inked_add (a b : Int) (u : UnitD) : inked b (inked a u) = inked (a + b) u := by
  unfold inked
  split
  · rename_i h
    simp [h, Int.add_assoc]
  · rename_i h
    first | rfl | rw [if_neg h]
theorem map_inked_zero (us : List UnitD) : us.map (inked 0) = us := by
  have : inked 0 = id := funext inked_zero
  rw [this, List.map_id]
theorem map_inked_succ (us : List UnitD) (n : Int) : (us.map (inked n)).map (inked 1) = us.map (inked (n + 1)) := by
  rw [List.map_map]
  congr 1
  funext u
  exact inked_add n 1 u
theorem prD_zero (s : StD) : prD s 0 = s := by
  unfold prD; rw [map_inked_zero, Int.add_zero]
theorem prD_len (s : StD) (n : Int) : (prD s n).units.length = s.units.length := by unfold prD; simp
/-- A pressed tower is dirty. -/
def dirtyU (D : Int) (u : UnitD) : Bool := u.pr && decide (D ≤ u.ink)
theorem any_dirty (us : List UnitD) (D n : Int) : (us.map (inked n)).any (dirtyU D) = us.any fun u => u.pr && decide (D ≤ u.ink + n) := by
  rw [List.any_map]
  congr 1
  funext u
  unfold dirtyU inked
  simp only [Function.comp]
  split
  · rename_i h; simp [h]
  · rename_i h
    have : u.pr = false := by simpa using h
    simp [this]
theorem any_snoc (f : UnitD → Bool) (us : List UnitD) (k : Nat) (hk : k < us.length) : (us.take (k + 1)).any f = ((us.take k).any f || f us[k]) := by
  rw [List.take_succ_eq_append_getElem hk, List.any_append]; simp

theorem midU_same (n : Int) (us : List UnitD) (k : Nat) (hk : k < us.length) (h : us[k].pr = false) : midU n us (k + 1) = midU n us k := by
  rw [midU_succ n us k hk]
  have h1 : inked n us[k] = us[k] := by unfold inked; rw [if_neg (by simp [h])]
  have h2 := midU_at n us k hk
  rw [h1]
  conv => lhs; rw [← h2]
  rw [List.set_getElem_self]
/-- One cell of a row of one's own is another. -/
theorem owns_putN {w w' : World} {B sz : Nat} {e : TypeId} {g c n i : Nat} {cur : Array Value} {u : Value} {xs : List Value} (h : w.ownsRow B e sz (.slice (some ⟨g, 0, none⟩) n c) n xs) (hb : Blk w g cur e) (hb1 : Blk w' g (cur.setIfInBounds i u) e) :
    w'.ownsRow B e sz (.slice (some ⟨g, 0, none⟩) n c) n (xs.set i u) := by
  obtain ⟨h1, h2⟩ := h
  refine ⟨by rw [List.length_set]; exact h1, ?_⟩
  rcases h2 with ⟨hv, _⟩ | ⟨g', c', cur', hv, h3, hh, h4, h5, h6, h7⟩
  · cases hv
  · cases hv
    have e1 : cur' = cur := by
      have := hh.symm.trans hb
      simp only [Option.some.injEq, Obj.cells.injEq] at this
      exact this.1
    subst e1
    refine .inr ⟨g, c, _, rfl, h3, hb1, h4, h5, by rw [Array.size_setIfInBounds]; exact h6, ?_⟩
    rw [Array.toList_setIfInBounds, List.take_set, h7]
theorem owns_blkN {w : World} {B sz : Nat} {e : TypeId} {v : Value} {n : Nat} {xs : List Value} (h : w.ownsRow B e sz v n xs) (hn : 0 < n) : ∃ g c cur, v = .slice (some ⟨g, 0, none⟩) n c ∧ Blk w g cur e ∧ n * sz ≤ cur.size ∧ cur.toList.take (n * sz) = xs := by
  obtain ⟨h1, h2⟩ := h
  rcases h2 with ⟨_, h0⟩ | ⟨g, c, cur, hv, _, hh, h3, _, h5, h6⟩
  · omega
  · exact ⟨g, c, cur, hv, hh, by rw [h5]; exact Nat.mul_le_mul_right _ h3, h6⟩
theorem spL_len (l : List SpanD) : (spL l).length = l.length * 3 := by
  unfold spL
  induction l with
  | nil => rfl
  | cons x l ih => rw [List.flatMap_cons, List.length_append, ih, List.length_cons, Nat.succ_mul]; simp [spC]; omega
theorem spL_snoc (l : List SpanD) (x : SpanD) : spL (l ++ [x]) = spL l ++ spC x := by unfold spL; rw [List.flatMap_append]; simp
/-- The last span reaches further. -/
theorem spL_set (l : List SpanD) (x : SpanD) (n : Int) : (spL (l ++ [x])).set (l.length * 3 + 2) (.int .i64 n) = spL (l ++ [⟨x.cause, x.lo, n⟩]) := by
  rw [spL_snoc, spL_snoc, List.set_append_right _ _ (by rw [spL_len]; omega), spL_len, show l.length * 3 + 2 - l.length * 3 = 2 by omega]
  rfl
theorem spL_last (l : List SpanD) (x : SpanD) : (spL (l ++ [x]))[l.length * 3]? = some (.int .i64 x.cause) ∧ (spL (l ++ [x]))[l.length * 3 + 1]? = some (.int .i64 x.lo) ∧ (spL (l ++ [x]))[l.length * 3 + 2]? = some (.int .i64 x.hi) := by
  rw [spL_snoc]
  have e : ∀ j, (spL l ++ spC x)[l.length * 3 + j]? = (spC x)[j]? := fun j => by
    rw [List.getElem?_append_right (by rw [spL_len]; omega), spL_len, show l.length * 3 + j - l.length * 3 = j by omega]
  exact ⟨e 0, e 1, e 2⟩
/-- At most two spans. -/
theorem spansN_len (W f D k n : Int) : (spansN W f D k n).length ≤ 2 := by
  unfold spansN; rw [List.length_append]; split <;> split <;> simp
theorem safe_any {p : PressD} {s : StD} (h : stErr p s = 0) (h2 : s.drive = 2) : s.units.any (·.pr) = true := by
  obtain ⟨_, _, h3⟩ := stErr_ok h
  unfold safeD at h3
  simp only [Bool.and_eq_true, Bool.or_eq_true] at h3
  rcases h3.2 with h4 | h4
  · rw [h2] at h4; simp at h4
  · exact h4

/-- What the reference's Print answers. -/
def RPrPost (w : World) (p : PressD) (s : StD) (n : Int) (e : Ending) (w' : World) : Prop :=
  (prErr p s n ≠ 0 ∧ e = .returned (.tuple #[sZ, .slice none 0 0, .int .i64 (prErr p s n)]) ∧ Ext w w') ∨
  (prErr p s n = 0 ∧ ∃ vu vw, e = .returned (.tuple #[sV vu (prD s n), vw, .int .i64 0]) ∧ w'.ownsRow w.heap.size 98 5 vu s.units.length (uL (prD s n).units) ∧
    w'.ownsRow w.heap.size 110 3 vw (prW p s n).length (spL (prW p s n)) ∧ Ext w w')
end Go.Proofs.Ytojobdffnnibaaa
