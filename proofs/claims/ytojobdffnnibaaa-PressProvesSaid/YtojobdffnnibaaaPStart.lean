/- A press that is started: Clone, start. -/
import Derived.Test.YtojobdffnnibaaaPMach
import Derived.Lib.SliceRun
namespace Go.Proofs.Ytojobdffnnibaaa
open Go.RowKit
set_option linter.unusedVariables false
set_option linter.unusedSimpArgs false

theorem tUnits : SliceT Try.prog 34 50 (.agg #[.bool false, .bool false, .bool false, .bool false, .int .i64 0]) 5 16 := ⟨by kernel_rfl, by kernel_rfl, rfl, by decide, by decide⟩

set_option maxRecDepth 100000 in
theorem clone_any (us : List UnitD) (va : Value) (w : World) (ha : UnIn w va us) (hl : us.length ≤ 1000000) :
    Calls Try.prog 65 #[va] w fun e w' => ∃ v, e = .returned v ∧ w'.ownsRow w.heap.size 50 5 v us.length (uL us) ∧ Ext w w' := by
  obtain ⟨a, c, rfl, Ha⟩ := ha.form
  clear ha
  have HL := Lib.hid hl
  clear hl
  cases a with
  | none =>
    have h0 : us.length = 0 := by
      obtain ⟨_, a', c', h1, _, h2⟩ := Ha.out
      cases h1
      rcases Nat.eq_zero_or_pos us.length with h | h
      · exact h
      · obtain ⟨b, o, e, _⟩ := h2 h; cases e
    have hc : c = 0 := by
      obtain ⟨_, a', c', h1, h3, h2⟩ := Ha.out
      cases h1
      exact h3 rfl
    subst hc
    have hus : us = [] := List.eq_nil_of_length_eq_zero h0
    subst hus
    have q0 : ∀ (w : World), (binOp .eql 34 (.slice none 0 0) (.slice none 0 0)).run Try.prog w = .ok (.bool true) w := fun w => Lib.run_eql_slice_nil w _ _ none 0 0 0 0 tUnits.ht
    go_enter Try.func65, Try.ntmps65
    go_wp2
    go_ret
    exact ⟨_, rfl, World.ownsRow_nil _ _ _ _, Below.refl _ _⟩
  | some ad =>
    have q0 : ∀ (w : World), (binOp .eql 34 (.slice (some ad) us.length c) (.slice none 0 0)).run Try.prog w = .ok (.bool false) w := fun w => Lib.run_eql_slice_nil w _ _ (some ad) us.length c 0 0 tUnits.ht
    go_enter Try.func65, Try.ntmps65
    go_wp2_with (first
      | (with_reducible refine wpList_build0 tUnits rfl rfl ?_
         intro v0 w1 hx1 hown1
         obtain ⟨a1, c1, hv1⟩ := row_form hown1
         subst hv1
         have HO := Lib.hid hown1
         have HX := Lib.hid hx1
         clear hx1 hown1)
      | (at_builtin
         refine wpList_app tUnits rfl rfl (v := .slice a1 0 c1) rfl HO.out rfl (UnIn.src (Ha.out.ext HX.out)) (uL_one us) (by have := HL.out; omega) HX.out.size ?_
         intro v w2 hown2 hgr2 hf2
         rw [Nat.zero_add, List.nil_append] at hown2
         have hx2 := ext_grown HX.out HO.out hgr2
         have HO2 := Lib.hid hown2
         have HX2 := Lib.hid hx2
         obtain ⟨a2, c2, hv2⟩ := row_form hown2
         subst hv2
         clear hown2 hgr2 hf2 hx2 HO HX))
    go_ret
    exact ⟨_, rfl, HO2.out, HX2.out⟩

/-- A state as it is handed on. -/
def sV (vu : Value) (s : StD) : Value := .agg #[.int .i64 s.drive, .bool s.folder, vu, .int .i64 s.fresh]

/-- A press at work that is the call's own: its blocks lie at B or above, what is jammed below. -/
structure MOw (B : Nat) (w : World) (mb pb ub c : Nat) (p : PressD) (s : StD) (vj : Value) : Prop where
  bm : Blk w mb #[.pointer (some ⟨pb, 0, none⟩), .int .i64 s.drive, .bool s.folder, .slice (some ⟨ub, 0, none⟩) s.units.length c, .int .i64 s.fresh] 104
  bp : Blk w pb #[vj, .int .i64 p.warm, .int .i64 p.tail, .int .i64 p.dirt] 32
  bu : ∃ cs, Blk w ub cs 50 ∧ (s.units.length ≤ c ∧ c ≤ maxLen ∧ cs.size = c * 5) ∧ cs.toList.take (s.units.length * 5) = uL s.units
  jm : Truths w vj p.jam
  jl : ∀ b, vj.ownBlock = some b → b < B
  lm : B ≤ mb
  lp : B ≤ pb
  lu : B ≤ ub

section
variable {B : Nat} {w w' : World} {mb pb ub c : Nat} {p : PressD} {s : StD} {vj : Value}
theorem MOw.un (h : MOw B w mb pb ub c p s vj) (hl : s.units.length ≤ 9223372036854775807) : UnIn w (.slice (some ⟨ub, 0, none⟩) s.units.length c) s.units := by
  obtain ⟨cs, hb, hn, ht⟩ := h.bu
  refine ⟨hl, _, _, rfl, (fun h => by cases h), fun h0 => ⟨ub, 0, rfl, fun i hi j hj => ?_⟩⟩
  obtain ⟨hn1, hn2, hn3⟩ := hn
  rw [hb.cell, Nat.zero_add, ← uL_get s.units i j hi hj, ← ht, List.getElem?_take_of_lt (by omega), Array.getElem?_toList]
theorem MOw.st (h : MOw B w mb pb ub c p s vj) (hl : s.units.length ≤ 9223372036854775807) : MSt w mb pb p s vj (.slice (some ⟨ub, 0, none⟩) s.units.length c) :=
  ⟨h.bm, h.bp, h.un hl, h.jm⟩
theorem Sl.only {w w' : World} {v : Value} {xs : List Value} {S : Nat → Prop} (h : Sl w v xs) (k : Only S w w') (hs : ∀ b, v.ownBlock = some b → ¬ S b) : Sl w' v xs := by
  obtain ⟨hm, a, c, hv, hn, hc⟩ := h
  refine ⟨hm, a, c, hv, hn, fun h => ?_⟩
  obtain ⟨b, o, e, hh⟩ := hc h
  exact ⟨b, o, e, fun i u hu => k.cell (hh i u hu) (hs b (by rw [hv, e]; rfl))⟩
theorem MOw.only {S : Nat → Prop} (h : MOw B w mb pb ub c p s vj) (k : Only S w w') (hm : ¬ S mb) (hp : ¬ S pb) (hu : ¬ S ub) (hj : ∀ b, b < B → ¬ S b) : MOw B w' mb pb ub c p s vj := by
  obtain ⟨cs, hb, hn, ht⟩ := h.bu
  exact ⟨h.bm.only k hm, h.bp.only k hp, ⟨cs, hb.only k hu, hn, ht⟩, Sl.only h.jm k fun b hb => hj b (h.jl b hb), h.jl, h.lm, h.lp, h.lu⟩
theorem MOw.ext (h : MOw B w mb pb ub c p s vj) (k : Ext w w') : MOw B w' mb pb ub c p s vj :=
  h.only (S := fun _ => False) (Only.of_ext k) id id id fun _ _ => id
/-- Blocks of one place have one type. -/
theorem blk_ty {b : Nat} {cs cs' : Array Value} {t t' : TypeId} (h : Blk w b cs t) (h' : Blk w b cs' t') : t = t' := by
  have := h.symm.trans h'
  cases this
  rfl
theorem MOw.mp (h : MOw B w mb pb ub c p s vj) : mb ≠ pb := fun e => absurd (blk_ty h.bm (e ▸ h.bp)) (by decide)
theorem MOw.mu (h : MOw B w mb pb ub c p s vj) : mb ≠ ub := fun e => by
  obtain ⟨cs, hb, _⟩ := h.bu
  exact absurd (blk_ty h.bm (e ▸ hb)) (by decide)
theorem MOw.pu (h : MOw B w mb pb ub c p s vj) : pb ≠ ub := fun e => by
  obtain ⟨cs, hb, _⟩ := h.bu
  exact absurd (blk_ty h.bp (e ▸ hb)) (by decide)
end

theorem uL_set {us : List UnitD} {i j : Nat} {u : UnitD} {v : Value} (hi : i < us.length) (hj : j < 5) (hu : uC u = (uC us[i]).set j v) : (uL us).set (i * 5 + j) v = uL (us.set i u) := by
  apply List.ext_getElem?
  intro k
  by_cases hk : k < us.length * 5
  · have hkd : k = k / 5 * 5 + k % 5 := by omega
    have h1 := uL_get us (k / 5) (k % 5) (by omega) (by omega)
    have h2 := uL_get (us.set i u) (k / 5) (k % 5) (by rw [List.length_set]; omega) (by omega)
    rw [← hkd] at h1 h2
    rw [h2, List.getElem?_set]
    by_cases e : i * 5 + j = k
    · have e1 : k / 5 = i := by omega
      have e2 : k % 5 = j := by omega
      rw [if_pos e, if_pos (by rw [uL_len]; omega)]
      simp only [e1, e2, List.getElem_set_self]
      rw [hu, List.getElem?_set_self (show j < (uC us[i]).length from hj)]
    · rw [if_neg e, h1]
      by_cases e1 : k / 5 = i
      · have e2 : k % 5 ≠ j := by omega
        simp only [e1, List.getElem_set_self]
        rw [hu, List.getElem?_set_ne (fun h => e2 h.symm)]
      · rw [List.getElem_set_ne (fun h => e1 h.symm)]
  · rw [List.getElem?_eq_none (by rw [List.length_set, uL_len]; omega), List.getElem?_eq_none (by rw [uL_len, List.length_set]; omega)]

section
variable {B : Nat} {w w' : World} {mb pb ub c : Nat} {p : PressD} {s : StD} {vj : Value}
/-- The towers' row. -/
theorem MOw.own (h : MOw B w mb pb ub c p s vj) : w.ownsRow B 50 5 (.slice (some ⟨ub, 0, none⟩) s.units.length c) s.units.length (uL s.units) := by
  obtain ⟨cs, hb, ⟨h1, h2, h3⟩, ht⟩ := h.bu
  exact ⟨uL_len _, .inr ⟨ub, c, cs, rfl, h.lu, hb, h1, h2, h3, ht⟩⟩
/-- A cell of a tower is another. -/
theorem MOw.setU {cs : Array Value} {i j : Nat} {u : UnitD} {v : Value} (h : MOw B w mb pb ub c p s vj) (hb : Blk w ub cs 50) (hi : i < s.units.length) (hj : j < 5) (hu : uC u = (uC s.units[i]).set j v)
    (hb1 : Blk w' ub (cs.setIfInBounds (i * 5 + j) v) 50) (ho : Only (fun k => k = ub) w w') : MOw B w' mb pb ub c p { s with units := s.units.set i u } vj := by
  obtain ⟨cs', hb', ⟨h1, h2, h3⟩, ht⟩ := h.bu
  have e : cs' = cs := by
    have := hb'.symm.trans hb
    simp only [Option.some.injEq, Obj.cells.injEq] at this
    exact this.1
  subst e
  have hl : ({ s with units := s.units.set i u } : StD).units.length = s.units.length := List.length_set
  refine ⟨?_, h.bp.only ho h.pu, ⟨_, hb1, ⟨?_, h2, ?_⟩, ?_⟩, Sl.only h.jm ho fun b hb e => ?_, h.jl, h.lm, h.lp, h.lu⟩
  · rw [hl]; exact h.bm.only ho h.mu
  · rw [hl]; exact h1
  · rw [Array.size_setIfInBounds]; exact h3
  · rw [hl, Array.toList_setIfInBounds, List.take_set, ht]
    exact uL_set hi hj hu
  · have := h.jl b hb
    have := h.lu
    omega
/-- The machine's own cells are others. -/
theorem MOw.setM {s' : StD} (h : MOw B w mb pb ub c p s vj) (hu : s'.units = s.units) (hb : Blk w' mb #[.pointer (some ⟨pb, 0, none⟩), .int .i64 s'.drive, .bool s'.folder, .slice (some ⟨ub, 0, none⟩) s.units.length c, .int .i64 s'.fresh] 104)
    (ho : Only (fun k => k = mb) w w') : MOw B w' mb pb ub c p s' vj := by
  obtain ⟨cs, hbu, hn, ht⟩ := h.bu
  refine ⟨by rw [hu]; exact hb, h.bp.only ho (fun e => h.mp e.symm), ⟨cs, hbu.only ho (fun e => h.mu e.symm), by rw [hu]; exact hn, by rw [hu]; exact ht⟩, Sl.only h.jm ho fun b hb e => ?_, h.jl, h.lm, h.lp, h.lu⟩
  have := h.jl b hb
  have := h.lm
  omega
end

/-- What start does. -/
def StartPost (w : World) (p : PressD) (s : StD) (vj : Value) (e : Ending) (w' : World) : Prop :=
  (stErr p s ≠ 0 ∧ e = .returned (.tuple #[.pointer none, .int .i64 (stErr p s)]) ∧ Ext w w') ∨
  (stErr p s = 0 ∧ ∃ mb pb ub c, e = .returned (.tuple #[.pointer (some ⟨mb, 0, none⟩), .int .i64 0]) ∧ MOw w.heap.size w' mb pb ub c p s vj ∧ Ext w w')

theorem stErr_ok {p : PressD} {s : StD} (h : stErr p s = 0) : pErr p = 0 ∧ shapedD p s = true ∧ safeD s = true := by
  unfold stErr at h
  split at h
  · contradiction
  · split at h
    · rename_i h1 h2
      simp only [Bool.and_eq_true] at h2
      exact ⟨by simpa using h1, h2.1, h2.2⟩
    · simp at h
theorem pErr_len {p : PressD} (h : pErr p = 0) : 1 ≤ p.jam.length ∧ p.jam.length ≤ 3 := by
  unfold pErr at h
  split at h
  · simp at h
  · omega
theorem shaped_len {p : PressD} {s : StD} (h : shapedD p s = true) : s.units.length = p.jam.length := by
  unfold shapedD at h
  simp only [Bool.and_eq_true, beq_iff_eq] at h
  exact h.1.1.1.1
end Go.Proofs.Ytojobdffnnibaaa
