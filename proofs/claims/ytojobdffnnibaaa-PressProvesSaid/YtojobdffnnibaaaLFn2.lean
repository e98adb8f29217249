/- The statements' own helpers: Same, sameWaste, big. -/
import Derived.Test.YtojobdffnnibaaaLFn
namespace Go.Proofs.Ytojobdffnnibaaa
open Go.RowKit
set_option linter.unusedVariables false
set_option linter.unusedSimpArgs false

set_option maxRecDepth 100000 in
set_option maxHeartbeats 2000000 in
theorem same_eq (s : StD) (va vb : Value) (w : World) (ha : UnIn w va s.units) (hb : UnIn w vb s.units) :
    Calls Try.prog 15 #[sV va s, sV vb s] w fun e w' => e = .returned (.bool true) ∧ Ext w w' := by
  obtain ⟨a, c, rfl, Ha⟩ := ha.form
  obtain ⟨b, d, rfl, Hb⟩ := hb.form
  have hl := ha.1
  clear ha hb
  unfold sV
  go_enter Try.func15, Try.ntmps15
  go_upto_region 1 with (first
    | (with_reducible refine wpList_boxA (t := 36) (cs := #[.int .i64 s.drive, .bool s.folder, .slice a s.units.length c, .int .i64 s.fresh]) rfl rfl rfl ?_
       rintro xb w1 hx1 hx2 hx3
       have XB := Lib.hid hx1
       have X1 := Lib.hid hx2
       clear hx1 hx2
       clear hx3)
    | (with_reducible refine wpList_boxA (t := 27) (cs := #[.int .i64 s.drive, .bool s.folder, .slice b s.units.length d, .int .i64 s.fresh]) rfl rfl rfl ?_
       rintro yb w2 hy1 hy2 hy3
       have x2 := X1.out.tr hy2
       have xb2 := XB.out.ext hy2
       have c1 := xb2.cell
       have c2 := hy1.cell
       clear XB X1
       have XB := Lib.hid xb2
       have YB := Lib.hid hy1
       have X1 := Lib.hid x2
       clear xb2 hy1 x2
       clear hy3 hy2))
  go_wp2
  clear c1 c2
  go_loopw [5] (fun t5 wr => ∃ k : Nat, k ≤ s.units.length ∧ t5 = .int .i64 k ∧ Hid (Ext w2 wr)) (fun t5 _ => s.units.length - (intOf t5).toNat)
  case atStart => exact ⟨0, by omega, rfl, Below.refl _ _⟩
  case round =>
    obtain ⟨k, hk, rfl, HX⟩ := hrel
    have c1 := (XB.out.ext HX.out).cell
    have c2 := (YB.out.ext HX.out).cell
    by_cases hlt : k < s.units.length
    · obtain ⟨b1, o1, rfl, hc⟩ := UnIn.cells (Ha.out.ext (X1.out.tr HX.out)) (by omega)
      obtain ⟨d0, d1, d2, d3, d4⟩ := hc k hlt
      obtain ⟨b2, o2, rfl, hc2⟩ := UnIn.cells (Hb.out.ext (X1.out.tr HX.out)) (by omega)
      obtain ⟨e0, e1, e2, e3, e4⟩ := hc2 k hlt
      obtain ⟨u, hu⟩ : ∃ u, s.units[k] = u := ⟨_, rfl⟩
      rw [hu] at d0 d1 d2 d3 d4 e0 e1 e2 e3 e4
      obtain ⟨uo, ut, uc, up, ui⟩ := u
      dsimp only at *
      have i1 : (0:Int) ≤ (k:Int) := by omega
      have i2 : (k:Int) < (s.units.length:Int) := by omega
      clear hu hc hc2
      go_upto_region 6 with (fail)
      go_quiet (fail)
      have xq := HX.out.tr (Ext.of_drewN wr nq)
      generalize wr.drewN nq = wq at *
      have XQ := Lib.hid xq
      clear xq
      go_wp2
      go_roundw
      case rel => exact ⟨k + 1, by omega, by go_num, XQ⟩
      case measure => first | (simp [intOf]; done) | (simp [intOf]; omega)
    · have i2 : decide ((k:Int) < (s.units.length:Int)) = false := decide_eq_false (by omega)
      obtain rfl : k = s.units.length := by omega
      go_wp2_with (fail)
      go_ret
      exact ⟨rfl, X1.out.tr HX.out⟩

/-- Rows of spans that come in. -/
def SpIn (w : World) (v : Value) (l : List SpanD) : Prop :=
  l.length ≤ 1000 ∧ ∃ a c, v = .slice a l.length c ∧ (0 < l.length → ∃ b o, a = some ⟨b, o, none⟩ ∧ ∀ i (h : i < l.length), w.cell? ⟨b, o + i * 3, none⟩ = some (.int .i64 l[i].cause) ∧ w.cell? ⟨b, o + i * 3 + 1, none⟩ = some (.int .i64 l[i].lo) ∧ w.cell? ⟨b, o + i * 3 + 2, none⟩ = some (.int .i64 l[i].hi))
theorem spL_get (l : List SpanD) (i : Nat) (hi : i < l.length) : (spL l)[i * 3]? = some (.int .i64 l[i].cause) ∧ (spL l)[i * 3 + 1]? = some (.int .i64 l[i].lo) ∧ (spL l)[i * 3 + 2]? = some (.int .i64 l[i].hi) := by
  have e : spL l = (List.range l.length).flatMap fun i => spC (l.getD i ⟨0, 0, 0⟩) := by
    unfold spL
    have h : l = (List.range l.length).map fun i => l.getD i ⟨0, 0, 0⟩ := by
      apply List.ext_getElem
      · simp
      · intro k h1 h2; simp [h1]
    conv => lhs; rw [h]
    rw [List.flatMap_map]
  have h : ∀ j, j < 3 → (spL l)[i * 3 + j]? = (spC l[i])[j]? := fun j hj => by
    rw [e, flat_get (f := fun i => spC (l.getD i ⟨0, 0, 0⟩)) (fun _ => rfl) l.length i j hi hj]
    simp [List.getD, hi]
  exact ⟨h 0 (by omega), h 1 (by omega), h 2 (by omega)⟩
theorem SpIn.of_owns {w : World} {B : Nat} {e : TypeId} {v : Value} {l : List SpanD} (h : w.ownsRow B e 3 v l.length (spL l)) (hl : l.length ≤ 1000) : SpIn w v l := by
  obtain ⟨a, c, hv⟩ := row_form h
  refine ⟨hl, a, c, hv, fun h0 => ?_⟩
  obtain ⟨g, c', hv', hc⟩ := owns_pos h h0
  rw [hv] at hv'
  cases hv'
  refine ⟨g, 0, rfl, fun i hi => ?_⟩
  obtain ⟨h1, h2, h3⟩ := spL_get l i hi
  rw [Nat.zero_add]
  exact ⟨hc _ _ h1, hc _ _ h2, hc _ _ h3⟩
theorem SpIn.ext {w w' : World} {v : Value} {l : List SpanD} (h : SpIn w v l) (k : Ext w w') : SpIn w' v l := by
  obtain ⟨h0, a, c, h1, h2⟩ := h
  refine ⟨h0, a, c, h1, fun h3 => ?_⟩
  obtain ⟨b, o, h4, h5⟩ := h2 h3
  exact ⟨b, o, h4, fun i hi => ⟨k.cellSome (h5 i hi).1, k.cellSome (h5 i hi).2.1, k.cellSome (h5 i hi).2.2⟩⟩
theorem SpIn.nil (w : World) : SpIn w (.slice none 0 0) [] := ⟨by simp, none, 0, rfl, fun h => by simp at h⟩
theorem SpIn.cells {w : World} {a : Option Addr} {n c : Nat} {l : List SpanD} (h : SpIn w (.slice a n c) l) (h0 : 0 < l.length) :
    ∃ b o, a = some ⟨b, o, none⟩ ∧ ∀ i (h : i < l.length), w.cell? ⟨b, o + i * 3, none⟩ = some (.int .i64 l[i].cause) ∧ w.cell? ⟨b, o + i * 3 + 1, none⟩ = some (.int .i64 l[i].lo) ∧ w.cell? ⟨b, o + i * 3 + 2, none⟩ = some (.int .i64 l[i].hi) := by
  obtain ⟨_, a', c', h1, h2⟩ := h
  cases h1
  exact h2 h0

set_option maxRecDepth 100000 in
set_option maxHeartbeats 2000000 in
theorem sameWaste_eq (l : List SpanD) (va vb : Value) (w : World) (ha : SpIn w va l) (hb : SpIn w vb l) :
    Calls Try.prog 16 #[va, vb] w fun e w' => e = .returned (.bool true) ∧ Ext w w' := by
  obtain ⟨a, c, hva⟩ : ∃ a c, va = .slice a l.length c := by obtain ⟨_, a, c, h, _⟩ := ha; exact ⟨a, c, h⟩
  obtain ⟨b, d, hvb⟩ : ∃ a c, vb = .slice a l.length c := by obtain ⟨_, a, c, h, _⟩ := hb; exact ⟨a, c, h⟩
  subst hva
  subst hvb
  have hl := ha.1
  have Ha := Lib.hid ha
  have Hb := Lib.hid hb
  clear ha hb
  go_enter Try.func16, Try.ntmps16
  go_wp2
  go_loopw [5] (fun t5 wr => ∃ k : Nat, k ≤ l.length ∧ t5 = .int .i64 k ∧ Hid (Ext w wr)) (fun t5 _ => l.length - (intOf t5).toNat)
  case atStart => exact ⟨0, by omega, rfl, Below.refl _ _⟩
  case round =>
    obtain ⟨k, hk, rfl, HX⟩ := hrel
    by_cases hlt : k < l.length
    · obtain ⟨b1, o1, rfl, hc⟩ := SpIn.cells (Ha.out.ext HX.out) (by omega)
      obtain ⟨d0, d1, d2⟩ := hc k hlt
      obtain ⟨b2, o2, rfl, hc2⟩ := SpIn.cells (Hb.out.ext HX.out) (by omega)
      obtain ⟨e0, e1, e2⟩ := hc2 k hlt
      obtain ⟨u, hu⟩ : ∃ u, l[k] = u := ⟨_, rfl⟩
      rw [hu] at d0 d1 d2 e0 e1 e2
      obtain ⟨uo, ut, uc⟩ := u
      dsimp only at *
      have i1 : (0:Int) ≤ (k:Int) := by omega
      have i2 : (k:Int) < (l.length:Int) := by omega
      clear hu hc hc2
      go_upto_region 6 with (fail)
      go_quiet (fail)
      have xq := HX.out.tr (Ext.of_drewN wr nq)
      generalize wr.drewN nq = wq at *
      have XQ := Lib.hid xq
      clear xq
      go_wp2
      go_roundw
      case rel => exact ⟨k + 1, by omega, by go_num, XQ⟩
      case measure => first | (simp [intOf]; done) | (simp [intOf]; omega)
    · have i2 : decide ((k:Int) < (l.length:Int)) = false := decide_eq_false (by omega)
      obtain rfl : k = l.length := by omega
      go_wp2_with (fail)
      go_ret
      exact ⟨rfl, HX.out⟩

set_option maxRecDepth 100000 in
set_option maxHeartbeats 2000000 in
theorem big_any (p : PressD) (s : StD) (g : Int) (vj vu va : Value) (nu nj ng cu cj cg : Nat) (au aj ag : Option Addr) (w : World) (hn : nu ≤ 9223372036854775807 ∧ nj ≤ 9223372036854775807 ∧ ng ≤ 9223372036854775807) :
    Calls Try.prog 9 #[.agg #[.slice aj nj cj, .int .i64 p.warm, .int .i64 p.tail, .int .i64 p.dirt], .agg #[.int .i64 s.drive, .bool s.folder, .slice au nu cu, .int .i64 s.fresh], .agg #[.int .i64 g, .slice ag ng cg]] w fun e w' => e = .returned (.bool (decide (20 < nj) || decide (20 < nu) || decide (20 < ng))) ∧ Ext w w' := by
  obtain ⟨h1, h2, h3⟩ := hn
  go_enter Try.func9, Try.ntmps9
  go_upto_region 1 with (first
    | (with_reducible refine wpList_boxA (t := 24) (cs := #[.slice aj nj cj, .int .i64 p.warm, .int .i64 p.tail, .int .i64 p.dirt]) rfl rfl rfl ?_
       rintro xb w1 hx1 hx2 hx3
       have XB := Lib.hid hx1
       have X1 := Lib.hid hx2
       clear hx1 hx2
       clear hx3)
    | (with_reducible refine wpList_boxA (t := 27) (cs := #[.int .i64 s.drive, .bool s.folder, .slice au nu cu, .int .i64 s.fresh]) rfl rfl rfl ?_
       rintro yb w2 hy1 hy2 hy3
       have x2 := X1.out.tr hy2
       have xb2 := XB.out.ext hy2
       clear XB X1
       have XB := Lib.hid xb2
       have YB := Lib.hid hy1
       have X1 := Lib.hid x2
       clear xb2 hy1 x2
       clear hy3 hy2)
    | (with_reducible refine wpList_boxA (t := 30) (cs := #[.int .i64 g, .slice ag ng cg]) rfl rfl rfl ?_
       rintro zb w2 hy1 hy2 hy3
       have x2 := X1.out.tr hy2
       have c1 := (XB.out.ext hy2).cell
       have c2 := (YB.out.ext hy2).cell
       have c3 := hy1.cell
       clear XB X1 YB
       have X1 := Lib.hid x2
       clear x2
       clear hy3 hy2))
  by_cases i1 : 20 < nj
  · have j1 : (20:Int) < (nj:Int) := by omega
    go_wp2
    go_ret
    exact ⟨ret_bool (by simp [i1]), X1.out⟩
  · have j1 : ¬ (20:Int) < (nj:Int) := by omega
    by_cases i2 : 20 < nu
    · have j2 : (20:Int) < (nu:Int) := by omega
      go_wp2
      go_ret
      exact ⟨ret_bool (by simp [i1, i2]), X1.out⟩
    · have j2 : ¬ (20:Int) < (nu:Int) := by omega
      by_cases i3 : 20 < ng
      · have j3 : (20:Int) < (ng:Int) := by omega
        go_wp2
        go_ret
        exact ⟨ret_bool (by simp [i1, i2, i3]), X1.out⟩
      · have j3 : ¬ (20:Int) < (ng:Int) := by omega
        go_wp2
        go_ret
        exact ⟨ret_bool (by simp [i1, i2, i3]), X1.out⟩
end Go.Proofs.Ytojobdffnnibaaa
