/- The reference's wrong. -/
import Derived.Test.YtafnadaahnkcmaaAwake
namespace Go.Proofs.Ytafnadaahnkcmaa
open Go.RowKit
set_option linter.unusedVariables false

set_option maxRecDepth 100000 in
set_option maxHeartbeats 2000000 in
theorem wrong_any (pat : List Int) (ap : Option Addr) (cp : Nat) (win : Int) (w : World) (hp : Ints w (.slice ap pat.length cp) pat) (hw : I64 win) (hpb : ∀ x ∈ pat, I64 x) :
    Calls Try.prog 34 #[.slice ap pat.length cp, .int .i64 win] w fun e w' => e = .returned (.bool (!goodB pat win)) ∧ ∃ n, w' = w.drewN n := by
  have hlen := hp.len
  have HP := Lib.hid hp
  have HPB := Lib.hid hpb
  clear hp hpb
  obtain ⟨w1', w2'⟩ := hw
  have bad : ¬ GoodP pat win → (.bool true : Value) = .bool (!goodB pat win) := fun h => by rw [goodB_false h]; rfl
  have good : GoodP pat win → (.bool false : Value) = .bool (!goodB pat win) := fun h => by rw [goodB_true h]; rfl
  have BAD := Lib.hid bad
  have GOOD := Lib.hid good
  clear bad good
  go_enter Try.func34, Try.ntmps34
  by_cases h1 : win < 0
  · have hd : decide (win < 0) = true := decide_eq_true h1
    have HN := Lib.hid (BAD.out (fun h => by have := h.1; omega))
    go_wp2
    go_ret
    exact ⟨congrArg Ending.returned HN.out, 0, rfl⟩
  have hd : decide (win < 0) = false := decide_eq_false h1
  by_cases h2 : 5000 < win
  · have hd2 : decide (5000 < win) = true := decide_eq_true h2
    have HN := Lib.hid (BAD.out (fun h => by have := h.1; omega))
    go_wp2
    go_ret
    exact ⟨congrArg Ending.returned HN.out, 0, rfl⟩
  have hd2 : decide (5000 < win) = false := decide_eq_false h2
  go_wp2
  go_loopw [5] (fun t wr => ∃ k : Nat, k ≤ pat.length ∧ t = .int .i64 k ∧ Hid (∃ n, wr = w.drewN n) ∧ Hid (∀ j (h : j < pat.length), j < k → 0 ≤ pat[j] ∧ pat[j] ≤ 100000 ∧ (∀ h0 : 0 < j, pat[j-1]'(by omega) + 4 * win < pat[j]))) (fun t _ => pat.length - (intOf t).toNat)
  case atStart => exact ⟨0, Nat.zero_le _, rfl, ⟨0, rfl⟩, fun j _ h => by omega⟩
  case round =>
    obtain ⟨k, hk, rfl, HW, HR⟩ := hrel
    have HXR : Hid (Ext w wr) := by obtain ⟨n, hn⟩ := HW.out; rw [hn]; exact Ext.of_drewN _ _
    by_cases hlt : k < pat.length
    · obtain ⟨b1, o1, rfl, hc1⟩ := HP.out.cells (by omega)
      have c1 := HXR.out.cellSome (hc1 k hlt)
      have c2 : ∀ h0 : 0 < k, wr.cell? ⟨b1, o1 + (k - 1), none⟩ = some (.int .i64 (pat[k-1]'(by omega))) := fun h0 => HXR.out.cellSome (hc1 (k - 1) (by omega))
      have C2 := Lib.hid c2
      have j1 : (0:Int) ≤ (k:Int) := by omega
      have j2 : (k:Int) < (pat.length:Int) := by omega
      obtain ⟨p1, p2⟩ := HPB.out pat[k] (List.getElem_mem hlt)
      obtain ⟨p, hpe⟩ : ∃ p, p = pat[k] := ⟨_, rfl⟩
      have HPE := Lib.hid hpe
      rw [← hpe] at c1 p1 p2
      clear hc1 hpe c2
      by_cases hr : 0 ≤ p ∧ p ≤ 100000
      · obtain ⟨r1, r2⟩ := hr
        have d1 : decide (p < 0) = false := decide_eq_false (by omega)
        have d2 : decide (100000 < p) = false := decide_eq_false (by omega)
        by_cases hk0 : 0 < k
        · have c2' := C2.out hk0
          obtain ⟨q1, q2, _⟩ := HR.out (k - 1) (by omega) (by omega)
          obtain ⟨p', hpe'⟩ : ∃ p', p' = pat[k-1]'(by omega) := ⟨_, rfl⟩
          have HPE' := Lib.hid hpe'
          rw [← hpe'] at c2' q1 q2
          clear hpe'
          have E1 := Lib.hid (i64_eq ((k:Int) - 1) (by omega))
          have E2 := Lib.hid (show ((k:Int) - 1).toNat = k - 1 by omega)
          have E3 := Lib.hid (i64_eq (4 * win) (by omega))
          have E5 := Lib.hid (i64_eq (p' + 4 * win) (by omega))
          have e3 : (0:Int) ≤ (k:Int) - 1 := by omega
          have e4 : (k:Int) - 1 < (pat.length:Int) := by omega
          have hgt : (0:Int) < (k:Int) := by omega
          have hgt' : decide ((0:Int) < (k:Int)) = true := decide_eq_true hgt
          by_cases hgd : p ≤ p' + 4 * win
          · have HF := Lib.hid (BAD.out (fun hg => by
              have h2 := (hg.2 k hlt).2.2 hk0
              rw [← HPE.out, ← HPE'.out] at h2
              omega))
            have hd3 : decide (p ≤ p' + 4 * win) = true := decide_eq_true hgd
            clear hgd
            go_wp2
            have e1 := E1.out
            have e2 := E2.out
            have e5 := E5.out
            have e6 := E3.out
            go_quiet (fail)
            clear e1 e2 e5 e6
            go_wp2
            go_ret
            exact ⟨congrArg Ending.returned HF.out, by obtain ⟨n, hn⟩ := HW.out; exact ⟨n + nq, by rw [hn]; exact World.drewN_drewN ..⟩⟩
          · have HN : Hid (∀ j (h : j < pat.length), j < k + 1 → 0 ≤ pat[j] ∧ pat[j] ≤ 100000 ∧ (∀ h0 : 0 < j, pat[j-1]'(by omega) + 4 * win < pat[j])) := fun j hj hjk => by
              rcases Nat.lt_or_ge j k with h | h
              · exact HR.out j hj h
              · obtain rfl : j = k := by omega
                rw [← HPE.out]
                exact ⟨r1, r2, fun h0 => by rw [← HPE'.out]; omega⟩
            have hd3 : decide (p ≤ p' + 4 * win) = false := decide_eq_false hgd
            clear hgd
            go_wp2
            have e1 := E1.out
            have e2 := E2.out
            have e5 := E5.out
            have e6 := E3.out
            go_quiet (fail)
            clear e1 e2 e5 e6
            go_wp2
            go_roundw
            case rel => exact ⟨k + 1, by omega, by go_num, by obtain ⟨n, hn⟩ := HW.out; exact ⟨n + nq, by rw [hn]; exact World.drewN_drewN ..⟩, HN⟩
            case measure => simp [intOf]; omega
        · obtain rfl : k = 0 := by omega
          rw [Nat.add_zero] at c1
          have HN : Hid (∀ j (h : j < pat.length), j < 0 + 1 → 0 ≤ pat[j] ∧ pat[j] ≤ 100000 ∧ (∀ h0 : 0 < j, pat[j-1]'(by omega) + 4 * win < pat[j])) := fun j hj hjk => by
            obtain rfl : j = 0 := by omega
            rw [← HPE.out]
            exact ⟨r1, r2, fun h0 => by omega⟩
          have hd3 : decide ((0:Int) < (((0:Nat):Int))) = false := by simp
          go_wp2
          go_quiet (fail)
          go_wp2
          go_roundw
          case rel => exact ⟨0 + 1, by omega, by go_num, by obtain ⟨n, hn⟩ := HW.out; exact ⟨n + nq, by rw [hn]; exact World.drewN_drewN ..⟩, HN⟩
          case measure => simp [intOf]; omega
      · have HF := Lib.hid (BAD.out (fun hg => by
          have h2 := hg.2 k hlt
          rw [← HPE.out] at h2
          exact hr ⟨h2.1, h2.2.1⟩))
        by_cases hp0 : p < 0
        · have d1 : decide (p < 0) = true := decide_eq_true hp0
          clear hr
          go_wp2
          go_ret
          exact ⟨congrArg Ending.returned HF.out, by obtain ⟨n, hn⟩ := HW.out; exact ⟨n, hn⟩⟩
        · have d1 : decide (p < 0) = false := decide_eq_false hp0
          have d2 : decide (100000 < p) = true := decide_eq_true (by omega)
          clear hr
          go_wp2
          go_ret
          exact ⟨congrArg Ending.returned HF.out, by obtain ⟨n, hn⟩ := HW.out; exact ⟨n, hn⟩⟩
    · have HF := Lib.hid (GOOD.out ⟨by omega, fun j hj => HR.out j hj (by omega)⟩)
      go_wp2
      go_ret
      exact ⟨congrArg Ending.returned HF.out, HW.out⟩
end Go.Proofs.Ytafnadaahnkcmaa
