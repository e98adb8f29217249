/- RegisterDesks: the reference's decision; copies compared; loops copied. -/
import Derived.Test.YtafnadaahnkcmaaKeep1
import Derived.Test.YtafnadaahnkcmaaCtl
namespace Go.Proofs.Ytafnadaahnkcmaa
open Go.RowKit
set_option linter.unusedVariables false
set_option linter.unusedSimpArgs false

theorem sumL_drop_bd (xs : List Int) (h : ∀ x ∈ xs, -10000 ≤ x ∧ x ≤ 10000) (j : Nat) (hj : j ≤ xs.length) : -(10000 * (j : Int)) ≤ sumL (xs.drop (xs.length - j)) ∧ sumL (xs.drop (xs.length - j)) ≤ 10000 * (j : Int) := by
  have h1 := sumL_bound (xs.drop (xs.length - j)) 10000 (by omega) (fun x hx => h x (List.mem_of_mem_drop hx)) (xs.drop (xs.length - j)).length (Nat.le_refl _)
  rw [List.take_length] at h1
  have h2 : (xs.drop (xs.length - j)).length = j := by rw [List.length_drop]; omega
  rw [h2] at h1
  exact h1
theorem sumL_drop_succ (xs : List Int) (j : Nat) (hj : j < xs.length) : sumL (xs.drop (xs.length - (j + 1))) = gD xs (xs.length - 1 - j) + sumL (xs.drop (xs.length - j)) := by
  have e1 : xs.length - (j + 1) = xs.length - 1 - j := by omega
  have hlt : xs.length - 1 - j < xs.length := by omega
  rw [e1, List.drop_eq_getElem_cons hlt, sumL_cons, gD_lt hlt]
  have e2 : xs.length - 1 - j + 1 = xs.length - j := by omega
  rw [e2]

set_option maxRecDepth 100000 in
set_option maxHeartbeats 2000000 in
theorem decided_any (l : Loop) (ms : List Int) (vm : Value) (x : Int) (w : World) (hl : l.Ok) (hm : Ints w vm ms) (hmb : ∀ y ∈ ms, -10000 ≤ y ∧ y ≤ 10000) (hx : -2000000000 ≤ x ∧ x ≤ 2000000000) (hml : ms.length ≤ 5000) :
    Calls Try.prog 46 #[l.val, vm, .int .i64 ms.length, .int .i64 x] w fun e w' => e = .returned (.int .i64 (clamp l.step (-(x + sumL (ms.drop (ms.length - l.dead.toNat)))))) ∧ Ext w w' := by
  obtain ⟨ld, ln, lb, lst⟩ := l
  unfold Loop.val
  dsimp only
  obtain ⟨⟨a1, a2⟩, ⟨a3, a4⟩, ⟨a5, a6⟩, a7, a8, a9⟩ := hl
  dsimp only at a1 a2 a8 a9
  obtain ⟨D, rfl⟩ := Int.eq_ofNat_of_zero_le a1
  obtain ⟨am, cm, rfl, HM⟩ := hm.form
  obtain ⟨x1, x2⟩ := hx
  have HMB := Lib.hid hmb
  clear hmb
  clear hm a3 a4 a5 a6 a7
  have eD : ((D : Nat) : Int).toNat = D := by omega
  rw [eD]
  clear eD
  have fin : ∀ v, v = clamp lst (-(x + sumL (ms.drop (ms.length - D)))) → Ending.returned (Value.int .i64 v) = .returned (.int .i64 (clamp lst (-(x + sumL (ms.drop (ms.length - D)))))) := fun v h => by rw [h]
  have FIN := Lib.hid fin
  clear fin
  go_enter Try.func46, Try.ntmps46
  go_wp2_with (with_reducible refine wpList_boxA (cs := #[.int .i64 D, .int .i64 ln, .int .i64 lb, .int .i64 lst]) rfl rfl rfl ?_
               rintro lb1 w1 hb1 hx1 hl1
               have c1 := hb1.cell
               have LB := Lib.hid hb1
               have HX := Lib.hid hx1
               clear hb1 hx1)
  have h0 : sumL (ms.drop (ms.length - 0)) = 0 := by simp [sumL]
  go_loopw [9, 10] (fun v t wr => ∃ j : Nat, j ≤ ms.length ∧ j ≤ D ∧ t = .int .i64 ((ms.length : Int) - 1 - (j : Int)) ∧ Hid (v = .int .i64 (x + sumL (ms.drop (ms.length - j)))) ∧ Hid (Ext w1 wr)) (fun _ t _ => ((intOf t) + 1).toNat)
  case atStart => exact ⟨0, Nat.zero_le _, Nat.zero_le _, by simp, (congrArg (Value.int .i64) (by rw [h0]; omega) : Value.int .i64 x = Value.int .i64 (x + sumL (ms.drop (ms.length - 0)))), Below.refl _ _⟩
  case round =>
    obtain ⟨j, hj, hjd, rfl, HV, HXR⟩ := hrel
    have hv := HV.out
    subst hv
    obtain ⟨s0, hs0⟩ : ∃ s, s = sumL (ms.drop (ms.length - j)) := ⟨_, rfl⟩
    have hsb := sumL_drop_bd ms HMB.out j hj
    rw [← hs0] at hsb ⊢
    obtain ⟨sb1, sb2⟩ := hsb
    have e1 : IntKind.i64.wrap ((ms.length : Int) - (D : Int)) = (ms.length : Int) - (D : Int) := i64_eq _ (by omega)
    have c2 := (LB.out.ext HXR.out).cell
    clear c1
    have HS0 := Lib.hid hs0
    clear hs0
    by_cases h1 : j < ms.length
    · obtain ⟨iq, hiq⟩ : ∃ iq : Nat, iq = ms.length - 1 - j := ⟨_, rfl⟩
      have ei : (ms.length : Int) - 1 - (j : Int) = (iq : Int) := by omega
      rw [ei]
      by_cases h2 : j < D
      · obtain ⟨b1, o1, rfl, hc1⟩ := Ints.cells (xs := ms) (HM.out.ext (HX.out.tr HXR.out)) (by omega)
        have k1 := hc1 iq (by omega)
        have hlq : iq < ms.length := by omega
        obtain ⟨y, hy⟩ : ∃ y, y = gD ms iq := ⟨_, rfl⟩
        rw [← gD_lt hlq, ← hy] at k1
        have hyb := HMB.out y (by rw [hy, gD_lt hlq]; exact List.getElem_mem _)
        obtain ⟨y1, y2⟩ := hyb
        have d2 : decide ((ms.length : Int) - (D : Int) ≤ (iq : Int)) = true := decide_eq_true (by omega)
        have e2 : IntKind.i64.wrap (x + s0 + y) = x + s0 + y := i64_eq _ (by omega)
        have e3 : IntKind.i64.wrap ((iq : Int) - 1) = (iq : Int) - 1 := i64_eq _ (by omega)
        have j1 : (iq : Int) < (ms.length : Int) := by omega
        clear hc1
        have HY := Lib.hid hy
        have HIQ := Lib.hid hiq
        clear hy hiq
        go_wp2
        go_roundw
        case rel =>
          refine ⟨j + 1, by omega, by omega, ?_, ?_, HXR.out⟩
          · congr 1; have := HIQ.out; omega
          · show _ = _
            congr 1
            rw [sumL_drop_succ ms j h1, ← HS0.out, ← HIQ.out, ← HY.out]
            omega
        case measure => first | (simp [intOf]; done) | (simp [intOf]; omega)
      · have d2 : decide ((ms.length : Int) - (D : Int) ≤ (iq : Int)) = false := decide_eq_false (by omega)
        have hjD : j = D := by omega
        have e4 : IntKind.i64.wrap (-(x + s0)) = -(x + s0) := i64_eq _ (by omega)
        have e5 : IntKind.i64.wrap (-lst) = -lst := i64_eq _ (by omega)
        clear ei
        go_wp2
        all_goals
          go_ret
          refine ⟨FIN.out _ ?_, HX.out.tr HXR.out⟩
          rw [← hjD, ← HS0.out]
          unfold clamp
          omega
    · have hjl : j = ms.length := by omega
      have ei : (ms.length : Int) - 1 - (j : Int) = -1 := by omega
      rw [ei]
      have e4 : IntKind.i64.wrap (-(x + s0)) = -(x + s0) := i64_eq _ (by omega)
      have e5 : IntKind.i64.wrap (-lst) = -lst := i64_eq _ (by omega)
      clear ei
      go_wp2
      all_goals
        go_ret
        refine ⟨FIN.out _ ?_, HX.out.tr HXR.out⟩
        have e6 : ms.length - D = ms.length - j := by omega
        rw [e6, ← HS0.out]
        unfold clamp
        omega

theorem sameInts_true (xs : List Int) (va vb : Value) (w : World) (ha : Ints w va xs) (hb : Ints w vb xs) : Calls Try.prog 13 #[va, vb] w fun e w' => e = .returned (.bool true) ∧ Ext w w' :=
  (sameInts_any xs xs va vb w ha hb).mono fun e w' h => ⟨by rw [h.1, decide_eq_true rfl], by obtain ⟨_, n, hn⟩ := h; rw [hn]; exact Ext.of_drewN _ _⟩

set_option maxRecDepth 100000 in
set_option maxHeartbeats 2000000 in
theorem sameCopy_true (g : Bool) (s : Int) (es ms : List Int) (ve vm ve' vm' : Value) (w : World) (h1 : Ints w ve es) (h2 : Ints w vm ms) (h3 : Ints w ve' es) (h4 : Ints w vm' ms) :
    Calls Try.prog 27 #[.agg #[.bool g, .int .i64 s, ve, vm], .agg #[.bool g, .int .i64 s, ve', vm']] w fun e w' => e = .returned (.bool true) ∧ Ext w w' := by
  obtain ⟨ae, ce, rfl, H1⟩ := h1.form
  obtain ⟨am, cm, rfl, H2⟩ := h2.form
  obtain ⟨be, de, rfl, H3⟩ := h3.form
  obtain ⟨bm, dm, rfl, H4⟩ := h4.form
  clear h1 h2 h3 h4
  go_enter Try.func27, Try.ntmps27
  go_wp2_with (first
    | (with_reducible refine wpList_boxA (t := 59) (cs := #[.bool g, .int .i64 s, .slice ae es.length ce, .slice am ms.length cm]) rfl rfl rfl ?_
       rintro b1 w1 hb1 hx1 hl1
       have c1 := hb1.cell
       have B1 := Lib.hid hb1
       have X1 := Lib.hid hx1
       clear hb1 hx1)
    | (with_reducible refine wpList_boxA (cs := #[.bool g, .int .i64 s, .slice be es.length de, .slice bm ms.length dm]) rfl rfl rfl ?_
       rintro b2 w2 hb2 hx2 hl2
       have b12 := B1.out.ext hx2
       have c1 := b12.cell
       have c2 := hb2.cell
       have x2 := X1.out.tr hx2
       have X2 := Lib.hid x2
       have B12 := Lib.hid b12
       have B2 := Lib.hid hb2
       clear x2 b12 hb2
       clear hx2)
    | (go_at_call 13
       have hgd := H1.out
       refine (sameInts_true es _ _ w2 (H1.out.ext X2.out) (H3.out.ext X2.out)).mono ?_
       rintro e w3 ⟨rfl, hx3⟩
       have c3 := (B12.out.ext hx3).cell
       have c4 := (B2.out.ext hx3).cell
       have X3 := Lib.hid hx3
       clear hx3
       clear H1 hgd)
    | (go_at_call 13
       refine (sameInts_true ms _ _ w3 (H2.out.ext (X2.out.tr X3.out)) (H4.out.ext (X2.out.tr X3.out))).mono ?_
       rintro e w4 ⟨rfl, hx4⟩
       have X4 := Lib.hid hx4
       clear hx4))
  go_ret
  exact ⟨rfl, (X2.out.tr X3.out).tr X4.out⟩
end Go.Proofs.Ytafnadaahnkcmaa
