/- PressSmall: what the functions answer at three towers. -/
import Derived.Test.YtojobdffnnibaaaGreatJ14
import Derived.Test.YtojobdffnnibaaaGreatPRefute
import Derived.Test.YtojobdffnnibaaaGreatJ10
import Derived.Test.YtojobdffnnibaaaGreatJ11
import Derived.Test.YtojobdffnnibaaaGreatPClosed
namespace Go.Proofs.YtojobdffnnibaaaGreat
open Go.RowKit
set_option linter.unusedVariables false
set_option linter.unusedSimpArgs false
theorem small_l : ∃ l : List (Int × Int), l = findL p3 b3 g3 ∧ l.length = 8 ∧ vfErr p3 b3 g3 l = 0 ∧ ∀ a ∈ l, I64 a.1 := ⟨_, rfl, small_find.2.1, small_find.2.2, findL_i64 _ _ _⟩
theorem find3 (vj vu vg : Value) (w : World) (hj : Truths w vj p3.jam) (hu : UnIn w vu b3.units) (hg : Truths w vg g3.pressed) : Calls Tryz.prog 10 #[.agg #[vj, .int .i64 0, .int .i64 0, .int .i64 0], .agg #[.int .i64 0, .bool false, vu, .int .i64 0], .agg #[.int .i64 2, vg]] w fun e w' =>
 ∃ va l, e = .returned (.tuple #[va, .int .i64 0]) ∧ w'.ownsRow w.heap.size 72 2 va 8 (acL l) ∧ l.length = 8 ∧ vfErr p3 b3 g3 l = 0 ∧ (∀ a ∈ l, I64 a.1) ∧ Ext w w' := by
 obtain ⟨l, hl, h8, hv, hi⟩ := small_l; have hf := small_find.1; have h := find_any p3 b3 g3 vj vu vg w hj hu hg (by decide); unfold FindPost at h; rw [hf, ← hl, h8] at h; refine Calls.mono (show Calls _ _ _ _ _ from h) fun e w' ⟨va, he, ho, hx⟩ => ⟨va, l, he, ho, h8, hv, hi, hx⟩
theorem find3no (vj vu vg : Value) (w : World) (hj : Truths w vj p3.jam) (hu : UnIn w vu b3.units) (hg : Truths w vg h3.pressed) : Calls Tryz.prog 10 #[.agg #[vj, .int .i64 0, .int .i64 0, .int .i64 0], .agg #[.int .i64 0, .bool false, vu, .int .i64 0], .agg #[.int .i64 2, vg]] w fun e w' =>
 ∃ va, e = .returned (.tuple #[va, .int .i64 4]) ∧ Ext w w' := by
 have h := find_any p3 b3 h3 vj vu vg w hj hu hg (by decide); unfold FindPost at h; rw [small_none] at h; refine Calls.mono (show Calls _ _ _ _ _ from h) fun e w' ⟨va, he, ho, hx⟩ => ⟨va, he, hx⟩
theorem verify3 (vj vu vg : Value) (w : World) (hj : Truths w vj p3.jam) (hu : UnIn w vu b3.units) (hg : Truths w vg g3.pressed) (l : List (Int × Int)) (vl : Value) (hv : AcIn w vl l) (hi : ∀ a ∈ l, I64 a.1) (E : Int) (hE : vfErr p3 b3 g3 l = E) : Calls Tryz.prog 13 #[.agg #[vj, .int .i64 0, .int .i64 0, .int .i64 0], .agg #[.int .i64 0, .bool false, vu, .int .i64 0], .agg #[.int .i64 2, vg], vl] w fun e w' =>
 e = .returned (.int .i64 E) ∧ Ext w w' := by
 have h := verify_any p3 b3 g3 l vj vu vg vl w hj hu hg (by decide) hv hi; rw [hE] at h; exact h
theorem refute3many (vj vu vg : Value) (w : World) (hj : Truths w vj p3.jam) (hu : UnIn w vu b3.units) (hg : Truths w vg g3.pressed) (cs : List Int) (vc : Value) (hc : Ints w vc cs) (hi : ∀ c ∈ cs, I64 c) (hn : 30000 < cs.length) : Calls Tryz.prog 20 #[.agg #[vj, .int .i64 0, .int .i64 0, .int .i64 0], .agg #[.int .i64 0, .bool false, vu, .int .i64 0], .agg #[.int .i64 2, vg], vc] w fun e w' =>
 e = .returned (.int .i64 2) ∧ Ext w w' := by
 have h := refute_any p3 b3 g3 cs vj vu vg vc w hj hu hg (by decide) hc hi; rw [small_codes hn] at h; exact h
theorem closed3 (vj vu : Value) (w : World) (hj : Truths w vj p3.jam) (hu : UnIn w vu b3.units) : Calls Tryz.prog 16 #[.agg #[vj, .int .i64 0, .int .i64 0, .int .i64 0], .agg #[.int .i64 0, .bool false, vu, .int .i64 0]] w fun e w' =>
 ∃ v cs, e = .returned (.tuple #[v, .int .i64 0]) ∧ Ints w' v cs ∧ (∀ c ∈ cs, I64 c) ∧ refD p3 b3 h3 cs = 0 ∧ Ext w w' := by
 have h := closed_any p3 b3 vj vu w hj hu (by decide); obtain ⟨cs, hcs⟩ : ∃ cs, codesS p3 b3 = cs := ⟨_, rfl⟩; have hr := small_refute; have hi := codesS_i64 b3_good; unfold ClosedPost at h; rw [hcs] at hr hi h; refine Calls.mono (show Calls _ _ _ _ _ from h) fun e w' hp => ?_
 rcases hp with ⟨h1, _⟩ | ⟨_, v, h2, h3, h4⟩
 · exact absurd b3_st h1
 · exact ⟨v, cs, h2, Sl.of_owns h3, hi, hr, h4⟩
theorem refute3 (vj vu vg : Value) (w : World) (hj : Truths w vj p3.jam) (hu : UnIn w vu b3.units) (hg : Truths w vg h3.pressed) (cs : List Int) (vc : Value) (hc : Ints w vc cs) (hi : ∀ c ∈ cs, I64 c) (hr : refD p3 b3 h3 cs = 0) : Calls Tryz.prog 20 #[.agg #[vj, .int .i64 0, .int .i64 0, .int .i64 0], .agg #[.int .i64 0, .bool false, vu, .int .i64 0], .agg #[.int .i64 2, vg], vc] w fun e w' =>
 e = .returned (.int .i64 0) ∧ Ext w w' := by
 have h := refute_any p3 b3 h3 cs vj vu vg vc w hj hu hg (by decide) hc hi; rw [hr] at h; exact h
end Go.Proofs.YtojobdffnnibaaaGreat