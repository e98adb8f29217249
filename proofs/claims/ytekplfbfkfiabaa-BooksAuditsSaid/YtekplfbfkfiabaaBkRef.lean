/- The reference's Loss, Check, last, balance. -/
import Derived.Test.YtekplfbfkfiabaaBkRules
namespace Go.Proofs.Ytekplfbfkfiabaa
open Go.RowKit
set_option linter.unusedVariables false
set_option linter.unusedSimpArgs false

set_option maxHeartbeats 1000000 in
theorem rLoss_any (l : List AccD) (va : Value) (g : Int) (w : World) (ha : AccIn w va l) :
    Calls Try.prog 76 #[va, .int .i64 g] w fun e w' => e = .returned (.int .i64 (lossI l g)) ∧ ∃ n, w' = w.drewN n := by
  have hx := ha.len
  obtain ⟨a, c, rfl, Ha⟩ := ha.form
  clear ha
  go_enter Try.func76, Try.ntmps76
  go_wp2
  go_loopw [5] (fun t wr => ∃ k : Nat, k ≤ l.length ∧ t = .int .i64 k ∧ Hid (lossI l g = fIdx (lossP g) (l.drop k) k) ∧ ∃ n, wr = w.drewN n) (fun t _ => l.length - (intOf t).toNat)
  case atStart => exact ⟨0, Nat.zero_le _, rfl, rfl, 0, rfl⟩
  case round =>
    obtain ⟨k, hk, rfl, HR, n, rfl⟩ := hrel
    by_cases hlt : k < l.length
    · obtain ⟨b1, o1, rfl, hc1⟩ := Ha.out.cells (by omega)
      have c1 := (hc1 k hlt).1
      have c2 := (hc1 k hlt).2
      clear hc1
      have i1 : (0:Int) ≤ (k:Int) := by omega
      have i2 : (k:Int) < (l.length:Int) := by omega
      have hd := HR.out
      rw [fIdx_drop _ l k hlt] at hd
      unfold lossP at hd
      generalize l[k].good = y at *
      generalize l[k].stock = s at *
      by_cases hg : y = g
      · subst hg
        cases s
        · have HE := Lib.hid (hd.trans (if_pos (by simp)))
          clear hd
          go_wp2
          go_ret
          exact ⟨ret_int HE.out.symm, _, rfl⟩
        · have HE := Lib.hid (hd.trans (if_neg (by simp)))
          clear hd
          go_wp2
          go_roundw
          case rel => exact ⟨k+1, by omega, by go_num, HE, _, rfl⟩
          case measure => simp [intOf]; omega
      · have HE := Lib.hid (hd.trans (if_neg (by simp [hg])))
        have hg2 : (y == g) = false := by simp [hg]
        clear hd hg
        go_wp2
        go_roundw
        case rel => exact ⟨k+1, by omega, by go_num, HE, _, rfl⟩
        case measure => simp [intOf]; omega
    · have hd := HR.out
      rw [fIdx_end _ l k (by omega)] at hd
      have HE := Lib.hid hd
      clear hd
      go_wp2
      go_ret
      exact ⟨ret_int HE.out.symm, _, rfl⟩

/-- A ledger of the reference, by value. -/
def rLed (d : LedD) (va ve : Value) : Value := .agg #[.int .u64 d.key, va, ve, .int .i64 d.closed]
theorem rLast_any (d : LedD) (va ve : Value) (w : World) (hs : SigIn w ve d.ents) (hl : d.ents.length ≤ 5000) :
    Calls Try.prog 77 #[rLed d va ve] w fun e w' => e = .returned (.int .i64 d.last) ∧ Ext w w' := by
  obtain ⟨a, c, rfl, HS⟩ := hs.form
  clear hs
  unfold rLed
  rcases Nat.eq_zero_or_pos d.ents.length with h0 | h0
  · have hn := last_nil h0
    rw [h0, hn]
    clear HS h0 hn hl
    go_enter Try.func77, Try.ntmps77
    go_wp2_with (with_reducible refine wpList_boxA (t := 81) rfl rfl rfl ?_
                 rintro eb w1 hb1 hx1 hl1
                 have b2 := hb1.cell 2
                 have HX := Lib.hid hx1
                 clear hx1
                 clear hb1 hl1)
    go_ret
    exact ⟨rfl, HX.out⟩
  · obtain ⟨k, hk⟩ : ∃ k, d.ents.length = k + 1 := ⟨d.ents.length - 1, by omega⟩
    obtain ⟨b, o, rfl, hc⟩ := HS.out.cells h0
    have c3 := (hc k (by omega)).2.2.2.1
    have hn := last_get hk
    rw [hn]
    generalize (d.ents[k]'(by omega)).e.day = dy at *
    rw [hk]
    rw [hk] at hl
    have j1 : (0:Int) ≤ (k:Int) := by omega
    have j2 : (k:Int) < ((k + 1 : Nat):Int) := by omega
    clear HS hk h0 hn hc
    go_enter Try.func77, Try.ntmps77
    go_wp2_with (with_reducible refine wpList_boxA (t := 81) rfl rfl rfl ?_
                 rintro eb w1 hb1 hx1 hl1
                 have b2 := hb1.cell 2
                 replace c3 := hx1.cellSome c3
                 have HX := Lib.hid hx1
                 clear hx1
                 clear hb1 hl1)
    go_ret
    exact ⟨rfl, HX.out⟩
end Go.Proofs.Ytekplfbfkfiabaa
