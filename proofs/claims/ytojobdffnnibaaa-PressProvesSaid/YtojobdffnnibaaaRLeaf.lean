/- The reference's leaf functions: Check, shaped, count. -/
import Derived.Test.YtojobdffnnibaaaPPrint0
namespace Go.Proofs.Ytojobdffnnibaaa
open Go.RowKit
set_option linter.unusedVariables false
set_option linter.unusedSimpArgs false

def n3 (p : PressD) (j : Nat) : Int := if j = 0 then p.warm else if j = 1 then p.tail else p.dirt

set_option maxRecDepth 100000 in
set_option maxHeartbeats 2000000 in
theorem rCheck_any (p : PressD) (vj : Value) (w : World) (hj : Truths w vj p.jam) :
    Calls Try.prog 29 #[pV vj p] w fun e w' => e = .returned (.int .i64 (pErr p)) ∧ Ext w w' := by
  obtain ⟨_, aj, cj, rfl, _⟩ := hj
  rw [List.length_map]
  unfold pV
  have hp2 : ¬ (1 ≤ p.jam.length ∧ p.jam.length ≤ 3) → pErr p = 2 := fun h => by unfold pErr; rw [if_pos (by omega)]
  have hp81 : (1 ≤ p.jam.length ∧ p.jam.length ≤ 3) → (∃ j, j < 3 ∧ okN (n3 p j) = false) → pErr p = 81 := fun h ⟨j, hj, h2⟩ => by
    unfold pErr; rw [if_neg (by omega), if_neg]
    intro h3
    simp only [Bool.and_eq_true] at h3
    have : j = 0 ∨ j = 1 ∨ j = 2 := by omega
    rcases this with rfl | rfl | rfl
    · rw [show n3 p 0 = p.warm from rfl, h3.1.1] at h2; cases h2
    · rw [show n3 p 1 = p.tail from rfl, h3.1.2] at h2; cases h2
    · rw [show n3 p 2 = p.dirt from rfl, h3.2] at h2; cases h2
  have hp0 : (1 ≤ p.jam.length ∧ p.jam.length ≤ 3) → (∀ j, j < 3 → okN (n3 p j) = true) → pErr p = 0 := fun h h2 => by
    unfold pErr; rw [if_neg (by omega), if_pos]
    simp only [Bool.and_eq_true]
    exact ⟨⟨h2 0 (by omega), h2 1 (by omega)⟩, h2 2 (by omega)⟩
  have HP2 := Lib.hid hp2
  have HP81 := Lib.hid hp81
  have HP0 := Lib.hid hp0
  clear hp2 hp81 hp0
  go_enter Try.func29, Try.ntmps29
  go_upto_region 1 with (
    with_reducible refine wpList_boxA (t := 24) (cs := #[.slice aj p.jam.length cj, .int .i64 p.warm, .int .i64 p.tail, .int .i64 p.dirt]) rfl rfl rfl ?_
    rintro xb w1 hx1 hx2 hx3
    have c1 := hx1.cell
    have XB := Lib.hid hx1
    have X1 := Lib.hid hx2
    clear hx1 hx2
    clear hx3)
  by_cases h1 : p.jam.length < 1
  · have i1 : (p.jam.length : Int) < 1 := by omega
    go_wp2
    go_ret
    exact ⟨ret_int (by rw [HP2.out (by omega)]), X1.out⟩
  · by_cases h2 : 3 < p.jam.length
    · have i1 : ¬ (p.jam.length : Int) < 1 := by omega
      have i2 : (3:Int) < (p.jam.length : Int) := by omega
      go_wp2
      go_ret
      exact ⟨ret_int (by rw [HP2.out (by omega)]), X1.out⟩
    · have i1 : ¬ (p.jam.length : Int) < 1 := by omega
      have i2 : ¬ (3:Int) < (p.jam.length : Int) := by omega
      have hg : 1 ≤ p.jam.length ∧ p.jam.length ≤ 3 := by omega
      have HG := Lib.hid hg
      clear hg
      go_upto_region 4 with (fail)
      have hn := newB w1 #[.int .i64 p.warm, .int .i64 p.tail, .int .i64 p.dirt] 3
      generalize w1.alloc (.cells #[.int .i64 p.warm, .int .i64 p.tail, .int .i64 p.dirt] 3) = w2 at *
      generalize w1.heap.size = lb at *
      obtain ⟨hb2, hx2, _⟩ := hn
      have x2 := X1.out.tr hx2
      have hb3 : Blk w2 lb #[.int .i64 p.warm, .int .i64 p.tail, .int .i64 p.dirt] 3 := hb2
      clear X1 hx2 c1 hb2
      have X1 := Lib.hid x2
      have LB := Lib.hid hb3
      clear x2 hb3
      go_wp2
      go_loopw [4] (fun t4 wr => ∃ k : Nat, k ≤ 3 ∧ t4 = .int .i64 k ∧ Hid (∀ j, j < k → okN (n3 p j) = true) ∧ Hid (Ext w2 wr)) (fun t4 _ => 3 - (intOf t4).toNat)
      case atStart => exact ⟨0, by omega, rfl, (fun j h => absurd h (Nat.not_lt_zero _)), Below.refl _ _⟩
      case round =>
        obtain ⟨k, hk, rfl, HR, HX⟩ := hrel
        by_cases hlt : k < 3
        · have hc := (LB.out.ext HX.out).cell
          have c9 : wr.cell? ⟨lb, k, none⟩ = some (.int .i64 (n3 p k)) := by
            rw [hc]
            have : k = 0 ∨ k = 1 ∨ k = 2 := by omega
            rcases this with rfl | rfl | rfl <;> rfl
          have h81 : okN (n3 p k) = false → pErr p = 81 := fun h => HP81.out HG.out ⟨k, hlt, h⟩
          have hr2 : okN (n3 p k) = true → ∀ j, j < k + 1 → okN (n3 p j) = true := fun h j hj => by
            rcases Nat.lt_or_ge j k with h1 | h1
            · exact HR.out j h1
            · obtain rfl : j = k := by omega
              exact h
          obtain ⟨x, hx⟩ : ∃ x, n3 p k = x := ⟨_, rfl⟩
          rw [hx] at c9 h81 hr2
          have i1 : (0:Int) ≤ (k:Int) := by omega
          have i2 : (k:Int) < 3 := by omega
          have H81 := Lib.hid h81
          have HR2 := Lib.hid hr2
          clear h81 hr2
          clear hx hc
          by_cases hx0 : x < 0
          · go_wp2_with (fail)
            go_ret
            exact ⟨ret_int (by rw [H81.out (by unfold okN; simp; omega)]), X1.out.tr HX.out⟩
          · by_cases hx1 : 10000 < x
            · go_wp2_with (fail)
              go_ret
              exact ⟨ret_int (by rw [H81.out (by unfold okN; simp; omega)]), X1.out.tr HX.out⟩
            · go_wp2_with (fail)
              go_roundw
              case rel => exact ⟨k + 1, by omega, by go_num, HR2.out (by unfold okN; simp; omega), HX⟩
              case measure => first | (simp [intOf]; done) | (simp [intOf]; omega)
        · have i2 : decide ((k:Int) < 3) = false := decide_eq_false (by omega)
          obtain rfl : k = 3 := by omega
          go_wp2_with (fail)
          go_ret
          exact ⟨ret_int (by rw [HP0.out HG.out HR.out]), X1.out.tr HX.out⟩

/-- The first tests of a state. -/
def shGood (p : PressD) (s : StD) : Prop := s.units.length = p.jam.length ∧ 0 ≤ s.drive ∧ s.drive ≤ 2 ∧ 0 ≤ s.fresh ∧ s.fresh ≤ 1000000 ∧ ¬ (s.drive < 2 ∧ 0 < s.fresh)
theorem shaped_good {p : PressD} {s : StD} (h : shGood p s) : shapedD p s = s.units.all fun u => okInk u.ink := by
  obtain ⟨h1, h2, h3, h4, h5, h6⟩ := h
  unfold shapedD
  have e1 : (s.units.length == p.jam.length) = true := by simpa using h1
  have e2 : okInk s.fresh = true := by unfold okInk; simp; omega
  have e3 : (s.drive != 2 && s.fresh != 0) = false := by
    by_cases h : s.drive = 2
    · simp [h]
    · have : s.fresh = 0 := by omega
      simp [this]
  rw [e1, e2, e3, decide_eq_true h2, decide_eq_true h3]
  simp
theorem shaped_bad {p : PressD} {s : StD} (h : ¬ shGood p s) : shapedD p s = false := by
  cases e : shapedD p s with
  | false => rfl
  | true =>
    refine absurd ?_ h
    have hl := shaped_len e
    obtain ⟨h1, h2, h3⟩ := shaped_nums e
    refine ⟨hl, h1.1, h1.2, h2.1, h2.2, fun h4 => ?_⟩
    unfold shapedD at e
    simp only [Bool.and_eq_true, Bool.not_eq_true', Bool.and_eq_false_iff, bne_eq_false_iff_eq] at e
    have := e.1.2
    omega
theorem all_take {f : UnitD → Bool} {us : List UnitD} (h : ∀ j (h : j < us.length), f us[j] = true) : us.all f = true := by
  rw [List.all_eq_true]
  intro u hu
  obtain ⟨j, hj, rfl⟩ := List.mem_iff_getElem.1 hu
  exact h j hj
theorem all_not {f : UnitD → Bool} {us : List UnitD} {j : Nat} (hj : j < us.length) (h : f us[j] = false) : us.all f = false := by
  cases e : us.all f with
  | false => rfl
  | true => rw [List.all_eq_true] at e; rw [e _ (List.getElem_mem hj)] at h; cases h

set_option maxRecDepth 100000 in
set_option maxHeartbeats 2000000 in
theorem rShaped_any (p : PressD) (s : StD) (vj vu : Value) (w : World) (hj : Truths w vj p.jam) (hu : UnIn w vu s.units) :
    Calls Try.prog 55 #[pV vj p, sV vu s] w fun e w' => e = .returned (.bool (shapedD p s)) ∧ Ext w w' := by
  have hlu := hu.1
  obtain ⟨a, c, rfl, Hu⟩ := hu.form
  obtain ⟨_, aj, cj, rfl, _⟩ := hj
  rw [List.length_map]
  clear hu
  unfold pV sV
  have hsb : ¬ shGood p s → shapedD p s = false := shaped_bad
  have hsg : shGood p s → shapedD p s = s.units.all fun u => okInk u.ink := shaped_good
  unfold shGood at hsb hsg
  have HSB := Lib.hid hsb
  have HSG := Lib.hid hsg
  clear hsb hsg
  go_enter Try.func55, Try.ntmps55
  go_upto_region 1 with (first
    | (with_reducible refine wpList_boxA (t := 24) (cs := #[.slice aj p.jam.length cj, .int .i64 p.warm, .int .i64 p.tail, .int .i64 p.dirt]) rfl rfl rfl ?_
       rintro xb w1 hx1 hx2 hx3
       have c1 := hx1.cell
       have XB := Lib.hid hx1
       have X1 := Lib.hid hx2
       clear hx1 hx2
       clear hx3)
    | (with_reducible refine wpList_boxA (t := 27) (cs := #[.int .i64 s.drive, .bool s.folder, .slice a s.units.length c, .int .i64 s.fresh]) rfl rfl rfl ?_
       rintro sb w2 hy1 hy2 hy3
       have c2 := (XB.out.ext hy2).cell
       have x2 := X1.out.tr hy2
       have c3 := hy1.cell
       clear X1 c1 XB
       have SB := Lib.hid hy1
       have X1 := Lib.hid x2
       clear hy1 x2
       clear hy3 hy2))
  by_cases h1 : s.units.length = p.jam.length
  · have q1 : ((s.units.length : Int) != (p.jam.length : Int)) = false := by simp [h1]
    by_cases h2 : s.drive < 0
    · go_wp2_with (fail)
      go_ret
      exact ⟨ret_bool (by rw [HSB.out (by omega)]), X1.out⟩
    · by_cases h3 : 2 < s.drive
      · go_wp2_with (fail)
        go_ret
        exact ⟨ret_bool (by rw [HSB.out (by omega)]), X1.out⟩
      · by_cases h4 : s.fresh < 0
        · go_wp2_with (fail)
          go_ret
          exact ⟨ret_bool (by rw [HSB.out (by omega)]), X1.out⟩
        · by_cases h5 : 1000000 < s.fresh
          · go_wp2_with (fail)
            go_ret
            exact ⟨ret_bool (by rw [HSB.out (by omega)]), X1.out⟩
          · by_cases h6 : s.drive < 2
            · by_cases h7 : 0 < s.fresh
              · go_wp2_with (fail)
                go_ret
                exact ⟨ret_bool (by rw [HSB.out (by omega)]), X1.out⟩
              · have hg := HSG.out (by omega)
                have HG := Lib.hid hg
                clear hg
                go_upto_region 3 with (fail)
                clear c2
                go_wp2
                go_loopw [5] (fun t5 wr => ∃ k : Nat, k ≤ s.units.length ∧ t5 = .int .i64 k ∧ Hid (∀ j (h : j < s.units.length), j < k → okInk s.units[j].ink = true) ∧ Hid (Ext w2 wr)) (fun t5 _ => s.units.length - (intOf t5).toNat)
                case atStart => exact ⟨0, by omega, rfl, (fun j _ h => absurd h (Nat.not_lt_zero _)), Below.refl _ _⟩
                case round =>
                  obtain ⟨k, hk, rfl, HR, HX⟩ := hrel
                  have d := (SB.out.ext HX.out).cell
                  by_cases hlt : k < s.units.length
                  · obtain ⟨b, o, rfl, hc⟩ := UnIn.cells (Hu.out.ext (X1.out.tr HX.out)) (by omega)
                    obtain ⟨_, _, _, _, d4⟩ := hc k hlt
                    have hbad : okInk s.units[k].ink = false → shapedD p s = false := fun h => by rw [HG.out]; exact all_not hlt h
                    have hr2 : okInk s.units[k].ink = true → ∀ j (h : j < s.units.length), j < k + 1 → okInk s.units[j].ink = true := fun h j hj hjk => by
                      rcases Nat.lt_or_ge j k with h1 | h1
                      · exact HR.out j hj h1
                      · obtain rfl : j = k := by omega
                        exact h
                    obtain ⟨x, hx⟩ : ∃ x, s.units[k].ink = x := ⟨_, rfl⟩
                    rw [hx] at d4 hbad hr2
                    have i1 : (0:Int) ≤ (k:Int) := by omega
                    have i2 : (k:Int) < (s.units.length:Int) := by omega
                    have HB := Lib.hid hbad
                    have HR2 := Lib.hid hr2
                    clear hbad hr2
                    clear hx hc
                    by_cases hx0 : x < 0
                    · go_wp2_with (fail)
                      go_ret
                      exact ⟨ret_bool (by rw [HB.out (by unfold okInk; simp; omega)]), X1.out.tr HX.out⟩
                    · by_cases hx1 : 1000000 < x
                      · go_wp2_with (fail)
                        go_ret
                        exact ⟨ret_bool (by rw [HB.out (by unfold okInk; simp; omega)]), X1.out.tr HX.out⟩
                      · go_wp2_with (fail)
                        go_roundw
                        case rel => exact ⟨k + 1, by omega, by go_num, HR2.out (by unfold okInk; simp; omega), HX⟩
                        case measure => first | (simp [intOf]; done) | (simp [intOf]; omega)
                  · have i2 : decide ((k:Int) < (s.units.length:Int)) = false := decide_eq_false (by omega)
                    obtain rfl : k = s.units.length := by omega
                    go_wp2_with (fail)
                    go_ret
                    exact ⟨ret_bool (by rw [HG.out, all_take (fun j h => HR.out j h h)]), X1.out.tr HX.out⟩
            · have hg := HSG.out (by omega)
              have HG := Lib.hid hg
              clear hg
              go_upto_region 3 with (fail)
              clear c2
              go_wp2
              go_loopw [5] (fun t5 wr => ∃ k : Nat, k ≤ s.units.length ∧ t5 = .int .i64 k ∧ Hid (∀ j (h : j < s.units.length), j < k → okInk s.units[j].ink = true) ∧ Hid (Ext w2 wr)) (fun t5 _ => s.units.length - (intOf t5).toNat)
              case atStart => exact ⟨0, by omega, rfl, (fun j _ h => absurd h (Nat.not_lt_zero _)), Below.refl _ _⟩
              case round =>
                obtain ⟨k, hk, rfl, HR, HX⟩ := hrel
                have d := (SB.out.ext HX.out).cell
                by_cases hlt : k < s.units.length
                · obtain ⟨b, o, rfl, hc⟩ := UnIn.cells (Hu.out.ext (X1.out.tr HX.out)) (by omega)
                  obtain ⟨_, _, _, _, d4⟩ := hc k hlt
                  have hbad : okInk s.units[k].ink = false → shapedD p s = false := fun h => by rw [HG.out]; exact all_not hlt h
                  have hr2 : okInk s.units[k].ink = true → ∀ j (h : j < s.units.length), j < k + 1 → okInk s.units[j].ink = true := fun h j hj hjk => by
                    rcases Nat.lt_or_ge j k with h1 | h1
                    · exact HR.out j hj h1
                    · obtain rfl : j = k := by omega
                      exact h
                  obtain ⟨x, hx⟩ : ∃ x, s.units[k].ink = x := ⟨_, rfl⟩
                  rw [hx] at d4 hbad hr2
                  have i1 : (0:Int) ≤ (k:Int) := by omega
                  have i2 : (k:Int) < (s.units.length:Int) := by omega
                  have HB := Lib.hid hbad
                  have HR2 := Lib.hid hr2
                  clear hbad hr2
                  clear hx hc
                  by_cases hx0 : x < 0
                  · go_wp2_with (fail)
                    go_ret
                    exact ⟨ret_bool (by rw [HB.out (by unfold okInk; simp; omega)]), X1.out.tr HX.out⟩
                  · by_cases hx1 : 1000000 < x
                    · go_wp2_with (fail)
                      go_ret
                      exact ⟨ret_bool (by rw [HB.out (by unfold okInk; simp; omega)]), X1.out.tr HX.out⟩
                    · go_wp2_with (fail)
                      go_roundw
                      case rel => exact ⟨k + 1, by omega, by go_num, HR2.out (by unfold okInk; simp; omega), HX⟩
                      case measure => first | (simp [intOf]; done) | (simp [intOf]; omega)
                · have i2 : decide ((k:Int) < (s.units.length:Int)) = false := decide_eq_false (by omega)
                  obtain rfl : k = s.units.length := by omega
                  go_wp2_with (fail)
                  go_ret
                  exact ⟨ret_bool (by rw [HG.out, all_take (fun j h => HR.out j h h)]), X1.out.tr HX.out⟩
  · have q1 : ((s.units.length : Int) != (p.jam.length : Int)) = true := by simp; omega
    go_wp2_with (fail)
    go_ret
    exact ⟨ret_bool (by rw [HSB.out (by omega)]), X1.out⟩
end Go.Proofs.Ytojobdffnnibaaa
