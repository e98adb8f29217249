/- The chapter's example, reckoned. -/
import Derived.Test.YtojobdffnnibaaaPBegin
import Derived.Test.YtojobdffnnibaaaPBreak
import Derived.Test.YtojobdffnnibaaaPFind
import Derived.Test.YtojobdffnnibaaaPProg
import Derived.Test.YtojobdffnnibaaaPPrint
namespace Go.Proofs.Ytojobdffnnibaaa
open Go.RowKit
set_option linter.unusedVariables false

def axP : PressD := ⟨[false], 3, 0, 5⟩
def axQ : PressD := ⟨[true], 3, 0, 5⟩
def axG : GoalD := ⟨2, [true]⟩
def axL : List (Int × Int) := [(7, 0), (4, 0), (3, 0), (5, 0), (8, 0)]
def ax0 : StD := ⟨0, false, [⟨false, false, false, false, 0⟩], 0⟩
def ax1 : StD := ⟨2, false, [⟨false, true, true, true, 0⟩], 0⟩
def ax2 : StD := ⟨2, false, [⟨false, true, true, true, 8⟩], 8⟩
def ax3 : StD := ⟨0, false, [⟨false, false, false, false, 8⟩], 0⟩
theorem ax_begin : pErr axP = 0 := by decide +kernel
theorem ax_begin2 : beginD axP = ax0 := rfl
theorem ax_find : fiErr axP ax0 axG = 0 := by decide +kernel
theorem ax_find2 : findL axP ax0 axG = axL := by decide +kernel
theorem ax_prog : pgErr axP ax0 axL = 0 := by decide +kernel
theorem ax_prog2 : progR axP ax0 0 axL = (ax1, 5, 0) := by kernel_rfl
theorem ax_print : prErr axP ax1 8 = 0 := by decide +kernel
theorem ax_print2 : prD ax1 8 = ax2 := by kernel_rfl
theorem ax_print3 : prW axP ax1 8 = [⟨1, 0, 2⟩, ⟨2, 5, 7⟩] := by kernel_rfl
theorem ax_break : brErr axP ax2 0 = 0 := by decide +kernel
theorem ax_break2 : brD ax2 0 = ax3 := by kernel_rfl
theorem ax_again : fiErr axP ax3 axG = 0 := by decide +kernel
theorem ax_again2 : (findL axP ax3 axG).length = 5 := by decide +kernel
theorem ax_none : fiErr axQ ax3 axG = 4 := by decide +kernel

theorem truths1 {w : World} {b : Nat} {x : Bool} {t : TypeId} (h : Blk w b #[.bool x] t) : Truths w (.slice (some ⟨b, 0, none⟩) 1 1) [x] := by
  refine ⟨by simp, some ⟨b, 0, none⟩, 1, rfl, fun h => (by cases h), fun _ => ⟨b, 0, rfl, fun i u hu => ?_⟩⟩
  rw [Nat.zero_add, h.cell]
  rcases i with _ | i
  · simpa using hu
  · simp at hu
theorem AcIn.lit {w : World} {b : Nat} {l : List (Int × Int)} {t : TypeId} (h : Blk w b (acL l).toArray t) (hl : l.length ≤ 1000000) : AcIn w (.slice (some ⟨b, 0, none⟩) l.length l.length) l := by
  refine ⟨by omega, some ⟨b, 0, none⟩, l.length, rfl, fun _ => ⟨b, 0, rfl, fun i hi => ⟨?_, ?_⟩⟩⟩
  · have := acL_get l i 0 hi (by omega)
    rw [Nat.add_zero] at this
    rw [Nat.zero_add, h.cell, List.getElem?_toArray, this]; rfl
  · have := acL_get l i 1 hi (by omega)
    rw [Nat.zero_add, h.cell, List.getElem?_toArray, this]; rfl
theorem AcIn.cells {w : World} {a : Option Addr} {n c : Nat} {l : List (Int × Int)} (h : AcIn w (.slice a n c) l) (h0 : 0 < l.length) :
    ∃ b o, a = some ⟨b, o, none⟩ ∧ ∀ i (h : i < l.length), w.cell? ⟨b, o + i * 2, none⟩ = some (.int .i64 l[i].1) ∧ w.cell? ⟨b, o + i * 2 + 1, none⟩ = some (.int .i64 l[i].2) := by
  obtain ⟨_, a', c', h1, h2⟩ := h
  cases h1
  exact h2 h0

/-- What each call of the example does. -/
theorem ax_c1 {vj : Value} (W : World) (hj : Truths W vj [false]) : Calls Try.prog 20 #[.agg #[vj, .int .i64 3, .int .i64 0, .int .i64 5]] W fun e w' =>
    ∃ vu, e = .returned (.tuple #[.agg #[.int .i64 0, .bool false, vu, .int .i64 0], .int .i64 0]) ∧ UnIn w' vu ax0.units ∧ Ext W w' :=
  (begin_any axP vj W hj).mono fun e w' h => by
    obtain ⟨_, vu, he, hown, hx⟩ := h.resolve_left fun h => h.1 ax_begin
    exact ⟨vu, he, UnIn.of_owns (us := ax0.units) hown (by decide), hx⟩
theorem ax_c2 {vj vu vg : Value} (W : World) (hj : Truths W vj [false]) (hu : UnIn W vu ax0.units) (hg : Truths W vg [true]) : Calls Try.prog 25 #[.agg #[vj, .int .i64 3, .int .i64 0, .int .i64 5], .agg #[.int .i64 0, .bool false, vu, .int .i64 0], .agg #[.int .i64 2, vg]] W fun e w' =>
    ∃ a c, e = .returned (.tuple #[.slice a 5 c, .int .i64 0]) ∧ AcIn w' (.slice a 5 c) axL ∧ Ext W w' :=
  (find_any axP ax0 axG vj vu vg W hj hu hg (by decide)).mono fun e w' h => by
    obtain ⟨va, he, hown, hx⟩ := h
    rw [ax_find] at he
    rw [ax_find2] at hown
    obtain ⟨a, c, rfl⟩ := row_form hown
    exact ⟨a, c, he, AcIn.of_owns hown (by decide), hx⟩
theorem ax_c3 {vj vu vl : Value} (W : World) (hj : Truths W vj [false]) (hu : UnIn W vu ax0.units) (hl : AcIn W vl axL) : Calls Try.prog 33 #[.agg #[vj, .int .i64 3, .int .i64 0, .int .i64 5], .agg #[.int .i64 0, .bool false, vu, .int .i64 0], vl] W fun e w' =>
    ∃ vu, e = .returned (.tuple #[.agg #[.int .i64 2, .bool false, vu, .int .i64 0], .int .i64 5, .int .i64 0]) ∧ w'.ownsRow W.heap.size 50 5 vu 1 (uL ax1.units) ∧ Ext W w' :=
  (program_any axP ax0 axL vj vu vl W hj hu (by decide) hl (by unfold axL I64; decide)).mono fun e w' h => by
    obtain ⟨_, vu, he, hown, hx⟩ := h.resolve_left fun h => h.1 ax_prog
    rw [ax_prog2] at he hown
    exact ⟨vu, he, hown, hx⟩
theorem ax_c4 {vj vu : Value} (W : World) (hj : Truths W vj [false]) (hu : UnIn W vu ax1.units) : Calls Try.prog 13 #[.agg #[vj, .int .i64 3, .int .i64 0, .int .i64 5], .agg #[.int .i64 2, .bool false, vu, .int .i64 0], .int .i64 8] W fun e w' =>
    ∃ vu g c, e = .returned (.tuple #[.agg #[.int .i64 2, .bool false, vu, .int .i64 8], .slice (some ⟨g, 0, none⟩) 2 c, .int .i64 0]) ∧ UnIn w' vu ax2.units ∧
      (∀ j u, (spL [⟨1, 0, 2⟩, ⟨2, 5, 7⟩])[j]? = some u → w'.cell? ⟨g, j, none⟩ = some u) ∧ Ext W w' :=
  (print_any axP ax1 8 vj vu W hj hu (by decide) (by unfold I64; decide)).mono fun e w' h => by
    obtain ⟨_, vu, vw, he, hown, how, hx⟩ := h.resolve_left fun h => h.1 ax_print
    rw [ax_print2] at he hown
    rw [ax_print3] at how
    obtain ⟨g, c, rfl, hc⟩ := owns_pos how (by decide)
    exact ⟨vu, g, c, he, UnIn.of_owns (us := ax2.units) hown (by decide), hc, hx⟩
theorem ax_c5 {vj vu : Value} (W : World) (hj : Truths W vj [false]) (hu : UnIn W vu ax2.units) : Calls Try.prog 21 #[.agg #[vj, .int .i64 3, .int .i64 0, .int .i64 5], .agg #[.int .i64 2, .bool false, vu, .int .i64 8], .int .i64 0] W fun e w' =>
    ∃ vu, e = .returned (.tuple #[.agg #[.int .i64 0, .bool false, vu, .int .i64 0], .int .i64 0, .int .i64 0]) ∧ w'.ownsRow W.heap.size 50 5 vu 1 (uL ax3.units) ∧ Ext W w' :=
  (break_any axP ax2 0 vj vu W hj hu (by decide) (by unfold I64; decide)).mono fun e w' h => by
    obtain ⟨_, vu, he, hown, hx⟩ := h.resolve_left fun h => h.1 ax_break
    have e0 : brD ax2 (0:Int).toNat = ax3 := ax_break2
    rw [e0] at he hown
    exact ⟨vu, he, hown, hx⟩
theorem ax_c6 {vj vu vg : Value} (W : World) (hj : Truths W vj [false]) (hu : UnIn W vu ax3.units) (hg : Truths W vg [true]) : Calls Try.prog 25 #[.agg #[vj, .int .i64 3, .int .i64 0, .int .i64 5], .agg #[.int .i64 0, .bool false, vu, .int .i64 0], .agg #[.int .i64 2, vg]] W fun e w' =>
    ∃ a c, e = .returned (.tuple #[.slice a 5 c, .int .i64 0]) ∧ Ext W w' :=
  (find_any axP ax3 axG vj vu vg W hj hu hg (by decide)).mono fun e w' h => by
    obtain ⟨va, he, hown, hx⟩ := h
    rw [ax_again] at he
    obtain ⟨a, c, rfl⟩ := row_form hown
    rw [ax_again2] at he
    exact ⟨a, c, he, hx⟩
theorem ax_c7 {vj vu vg : Value} (W : World) (hj : Truths W vj [true]) (hu : UnIn W vu ax3.units) (hg : Truths W vg [true]) : Calls Try.prog 25 #[.agg #[vj, .int .i64 3, .int .i64 0, .int .i64 5], .agg #[.int .i64 0, .bool false, vu, .int .i64 0], .agg #[.int .i64 2, vg]] W fun e w' =>
    ∃ va, e = .returned (.tuple #[va, .int .i64 4]) ∧ Ext W w' :=
  (find_any axQ ax3 axG vj vu vg W hj hu hg (by decide)).mono fun e w' h => by
    obtain ⟨va, he, hown, hx⟩ := h
    rw [ax_none] at he
    exact ⟨va, he, hx⟩
end Go.Proofs.Ytojobdffnnibaaa
