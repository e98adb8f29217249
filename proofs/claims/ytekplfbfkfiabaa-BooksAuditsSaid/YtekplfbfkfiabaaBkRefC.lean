/- The reference's Check. -/
import Derived.Test.YtekplfbfkfiabaaBkRef
namespace Go.Proofs.Ytekplfbfkfiabaa
open Go.RowKit
set_option linter.unusedVariables false
set_option linter.unusedSimpArgs false

theorem any_take {α : Type} (p : α → Bool) (l : List α) (k : Nat) (hk : k < l.length) : (l.take (k + 1)).any p = ((l.take k).any p || p l[k]) := by
  rw [List.take_succ_eq_append_getElem hk, List.any_append]; simp

set_option maxRecDepth 100000 in
set_option maxHeartbeats 2000000 in
theorem rCheck_any (l : List AccD) (va : Value) (w : World) (ha : AccIn w va l) :
    Calls Try.prog 42 #[va] w fun e w' => e = .returned (.int .i64 (checkE l)) ∧ ∃ n, w' = w.drewN n := by
  have hl := ha.len
  obtain ⟨a, c, rfl, HS⟩ := ha.form
  clear ha
  by_cases h1 : 1 ≤ l.length ∧ l.length ≤ 40
  · have HE := Lib.hid (show checkE l = if l.any (badP l) then 140 else 0 by unfold checkE; rw [if_pos h1])
    obtain ⟨h1a, h1b⟩ := h1
    go_enter Try.func42, Try.ntmps42
    go_wp2
    go_loopw [3] (fun t wr => ∃ k : Nat, k ≤ l.length ∧ t = .int .i64 k ∧ Hid ((l.take k).any (badP l) = false) ∧ ∃ n, wr = w.drewN n) (fun t _ => l.length - (intOf t).toNat)
    case atStart => exact ⟨0, Nat.zero_le _, rfl, rfl, 0, rfl⟩
    case round =>
      obtain ⟨k, hk, rfl, HR, n, rfl⟩ := hrel
      by_cases hlt : k < l.length
      · have HS2 := Lib.hid (HS.out.ext (Ext.of_drewN w n))
        obtain ⟨b, o, rfl, hc⟩ := HS.out.cells (by omega)
        obtain ⟨e0, e1⟩ := hc k hlt
        have hat := any_take (badP l) l k hlt
        rw [HR.out, Bool.false_or] at hat
        have hbad : badP l l[k] = true → l.any (badP l) = true := fun h => List.any_eq_true.2 ⟨_, List.getElem_mem hlt, h⟩
        have HB : Hid (badP l l[k] = (!nIn l[k].good 1 4 || (l[k].stock && decide (lossI l l[k].good < 0)))) := rfl
        generalize l[k] = x at *
        obtain ⟨y, s⟩ := x
        dsimp only at e0 e1 HB
        have j1 : (0:Int) ≤ (k:Int) := by omega
        have j2 : (k:Int) < (l.length:Int) := by omega
        have HAT := Lib.hid hat
        have HBA := Lib.hid hbad
        clear hat hbad
        clear hc
        by_cases hn : 1 ≤ y ∧ y ≤ 4
        · have hn2 := (nIn_iff y 1 4).2 hn
          obtain ⟨hn3, hn4⟩ := hn
          have HN := Lib.hid hn2
          clear hn2
          cases s
          · have HB2 := Lib.hid (show badP l ⟨y, false⟩ = false by rw [HB.out, HN.out]; rfl)
            go_wp2
            go_roundw
            case rel => exact ⟨k + 1, by omega, by go_num, Lib.hid (by rw [HAT.out]; exact HB2.out), n, rfl⟩
            case measure => simp [intOf]; omega
          · obtain ⟨lo, hlo⟩ : ∃ z, z = lossI l y := ⟨_, rfl⟩
            have HLO := Lib.hid hlo
            clear hlo
            by_cases h0 : lo < 0
            · have HB2 := Lib.hid (show badP l ⟨y, true⟩ = true by rw [HB.out, HN.out, ← HLO.out, decide_eq_true h0]; rfl)
              go_wp2_with (go_at_call 76
                           refine (rLoss_any l _ y _ HS2.out).mono ?_
                           rintro e w5 ⟨rfl, nn, hw5⟩
                           rw [← HLO.out]
                           have HW5 := Lib.hid hw5
                           clear hw5)
              go_ret
              exact ⟨ret_int (by rw [HE.out, if_pos (HBA.out HB2.out)]), n + nn, by rw [HW5.out, World.drewN_drewN]⟩
            · have HB2 := Lib.hid (show badP l ⟨y, true⟩ = false by rw [HB.out, HN.out, ← HLO.out, decide_eq_false h0]; rfl)
              go_wp2_with (go_at_call 76
                           refine (rLoss_any l _ y _ HS2.out).mono ?_
                           rintro e w5 ⟨rfl, nn, hw5⟩
                           rw [← HLO.out]
                           have HW5 := Lib.hid hw5
                           clear hw5)
              go_roundw
              case rel => exact ⟨k + 1, by omega, by go_num, Lib.hid (by rw [HAT.out]; exact HB2.out), n + nn, by rw [HW5.out, World.drewN_drewN]⟩
              case measure => simp [intOf]; omega
        · have hn2 : nIn y 1 4 = false := by rw [Bool.eq_false_iff]; intro h; exact hn ((nIn_iff y 1 4).1 h)
          have HB2 := Lib.hid (show badP l ⟨y, s⟩ = true by rw [HB.out, hn2]; rfl)
          clear hn2
          by_cases hy : y < 1
          · clear hn
            go_wp2
            go_ret
            exact ⟨ret_int (by rw [HE.out, if_pos (HBA.out HB2.out)]), n, rfl⟩
          · have hy2 : 4 < y := by omega
            clear hn
            go_wp2
            go_ret
            exact ⟨ret_int (by rw [HE.out, if_pos (HBA.out HB2.out)]), n, rfl⟩
      · obtain rfl : k = l.length := by omega
        have hr := HR.out
        rw [List.take_length] at hr
        have HR2 := Lib.hid hr
        clear hlt hr
        go_wp2
        go_ret
        exact ⟨ret_int (by rw [HE.out, HR2.out]; rfl), n, rfl⟩
  · have HE := Lib.hid (show checkE l = 2 by unfold checkE; rw [if_neg h1])
    by_cases h2 : l.length < 1
    · clear h1
      go_enter Try.func42, Try.ntmps42
      go_wp2
      go_ret
      exact ⟨ret_int HE.out.symm, 0, rfl⟩
    · have h3 : 40 < l.length := by omega
      clear h1
      go_enter Try.func42, Try.ntmps42
      go_wp2
      go_ret
      exact ⟨ret_int HE.out.symm, 0, rfl⟩
end Go.Proofs.Ytekplfbfkfiabaa
