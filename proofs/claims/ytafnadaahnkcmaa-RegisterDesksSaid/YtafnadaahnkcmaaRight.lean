/- marks.right. -/
import Derived.Test.YtafnadaahnkcmaaFind2
namespace Go.Proofs.Ytafnadaahnkcmaa
open Go.RowKit
set_option linter.unusedVariables false

theorem in_true' (n l m : Int) (w : World) (h : l ≤ n ∧ n ≤ m) :
    Calls Try.prog 31 #[.int .i64 n, .int .i64 l, .int .i64 m] w fun e w' => e = .returned (.bool true) ∧ w' = w :=
  (in_true n l m w h).mono fun e w' ⟨a, b⟩ => ⟨a, b.symm⟩
theorem in_false' (n l m : Int) (w : World) (h : ¬ (l ≤ n ∧ n ≤ m)) :
    Calls Try.prog 31 #[.int .i64 n, .int .i64 l, .int .i64 m] w fun e w' => e = .returned (.bool false) ∧ w' = w :=
  (in_false n l m w h).mono fun e w' ⟨a, b⟩ => ⟨a, b.symm⟩

open Classical in
noncomputable def goodB (pat : List Int) (win : Int) : Bool := decide (GoodP pat win)
theorem goodB_true {pat : List Int} {win : Int} (h : GoodP pat win) : goodB pat win = true := by simp [goodB, h]
theorem goodB_false {pat : List Int} {win : Int} (h : ¬ GoodP pat win) : goodB pat win = false := by simp [goodB, h]

set_option maxRecDepth 100000 in
set_option maxHeartbeats 2000000 in
theorem right_any (pat : List Int) (ap : Option Addr) (cp : Nat) (win : Int) (w : World) (hp : Ints w (.slice ap pat.length cp) pat) (hw : I64 win) (hpb : ∀ x ∈ pat, I64 x) :
    Calls Try.prog 32 #[.agg #[.slice ap pat.length cp, .int .i64 win]] w fun e w' => e = .returned (.bool (goodB pat win)) ∧ Ext w w' := by
  have hlen := hp.len
  have HP := Lib.hid hp
  have HPB := Lib.hid hpb
  clear hp hpb
  obtain ⟨w1', w2'⟩ := hw
  go_enter Try.func32, Try.ntmps32
  go_wp2_with (
    with_reducible refine wpList_box (v := .agg #[.slice ap pat.length cp, .int .i64 win]) rfl rfl rfl ?_
    rintro mb w1 ⟨hb1, hx1, hl1⟩
    have c0 : ∀ i, w1.cell? ⟨mb, i, none⟩ = (#[Value.slice ap pat.length cp, .int .i64 win] : Array Value)[i]? := blk_cell hb1
    have HX := Lib.hid hx1
    clear hb1 hx1)
  go_loopw [8] (fun t wr => ∃ k : Nat, k ≤ pat.length ∧ t = .int .i64 k ∧ (∃ n, wr = w1.drewN n) ∧ Hid (∀ j (h : j < pat.length), j < k → 0 ≤ pat[j] ∧ pat[j] ≤ 100000 ∧ (∀ h0 : 0 < j, IntKind.i64.wrap (4 * win) < pat[j] - pat[j-1]'(by omega)))) (fun t _ => pat.length - (intOf t).toNat)
  case atStart => exact ⟨0, Nat.zero_le _, rfl, ⟨0, rfl⟩, fun j _ h => by omega⟩
  case round =>
    obtain ⟨k, hk, rfl, ⟨n, hwr⟩, HR⟩ := hrel
    have c0 : ∀ i, wr.cell? ⟨mb, i, none⟩ = (#[Value.slice ap pat.length cp, .int .i64 win] : Array Value)[i]? := by rw [hwr]; exact c0
    have HXR : Hid (Ext w wr) := by rw [hwr]; exact HX.out.drewN n
    have HW := Lib.hid hwr
    clear hwr
    by_cases hlt : k < pat.length
    · obtain ⟨b1, o1, rfl, hc1⟩ := HP.out.cells (by omega)
      have c1 := HXR.out.cellSome (hc1 k hlt)
      have c2 : ∀ h0 : 0 < k, wr.cell? ⟨b1, o1 + (k - 1), none⟩ = some (.int .i64 (pat[k-1]'(by omega))) := fun h0 => HXR.out.cellSome (hc1 (k - 1) (by omega))
      have j1 : (0:Int) ≤ (k:Int) := by omega
      have j2 : (k:Int) < (pat.length:Int) := by omega
      obtain ⟨p1, p2⟩ := HPB.out pat[k] (List.getElem_mem hlt)
      obtain ⟨p, hpe⟩ : ∃ p, p = pat[k] := ⟨_, rfl⟩
      have HPE := Lib.hid hpe
      rw [← hpe] at c1 p1 p2
      obtain ⟨v4, hv4⟩ : ∃ v4, v4 = IntKind.i64.wrap (4 * win) := ⟨_, rfl⟩
      rw [← hv4] at HR
      have HV4 := Lib.hid hv4.symm
      clear hc1 hpe hv4
      by_cases hr : 0 ≤ p ∧ p ≤ 100000
      · by_cases hk0 : 0 < k
        · have c2' := c2 hk0
          clear c2
          obtain ⟨q1, q2, _⟩ := HR.out (k - 1) (by omega) (by omega)
          obtain ⟨p', hpe'⟩ : ∃ p', p' = pat[k-1]'(by omega) := ⟨_, rfl⟩
          have HPE' := Lib.hid hpe'
          rw [← hpe'] at c2' q1 q2
          clear hpe'
          have E1 := Lib.hid (i64_eq ((k:Int) - 1) (by omega))
          have E2 := Lib.hid (show ((k:Int) - 1).toNat = k - 1 by omega)
          have E5 := Lib.hid (i64_eq (p - p') (by omega))
          have e3 : (0:Int) ≤ (k:Int) - 1 := by omega
          have e4 : (k:Int) - 1 < (pat.length:Int) := by omega
          have hgt : (0:Int) < (k:Int) := by omega
          by_cases hgd : p - p' ≤ v4
          · have HF : Hid (goodB pat win = false) := goodB_false (fun hg => by
              have h1 := hg.1
              have h2 := (hg.2 k hlt).2.2 hk0
              rw [← HPE.out, ← HPE'.out] at h2
              have h3 := i64_eq (4 * win) (by omega)
              rw [HV4.out] at h3
              omega)
            have hd : decide (p - p' ≤ v4) = true := by simpa using hgd
            clear hgd
            go_wp2
            have e1 := E1.out
            have e2 := E2.out
            have e5 := E5.out
            have e6 := HV4.out
            go_quiet ((go_at_call 31; exact Calls.quiet_of_same (in_true' _ _ _ _ hr)))
            clear e1 e2 e5 e6
            go_wp2
            go_ret
            exact ⟨by rw [HF.out]; rfl, HXR.out.drewN _⟩
          · have HN : Hid (∀ j (h : j < pat.length), j < k + 1 → 0 ≤ pat[j] ∧ pat[j] ≤ 100000 ∧ (∀ h0 : 0 < j, IntKind.i64.wrap (4 * win) < pat[j] - pat[j-1]'(by omega))) := fun j hj hjk => by
              rcases Nat.lt_or_ge j k with h | h
              · rw [HV4.out]; exact HR.out j hj h
              · obtain rfl : j = k := by omega
                rw [← HPE.out, HV4.out]
                exact ⟨hr.1, hr.2, fun h0 => by rw [← HPE'.out]; omega⟩
            have hd : decide (p - p' ≤ v4) = false := by simpa using hgd
            clear hgd
            go_wp2
            have e1 := E1.out
            have e2 := E2.out
            have e5 := E5.out
            have e6 := HV4.out
            go_quiet ((go_at_call 31; exact Calls.quiet_of_same (in_true' _ _ _ _ hr)))
            clear e1 e2 e5 e6
            go_wp2
            go_roundw
            case rel => exact ⟨k + 1, by omega, by go_num, ⟨n + nq, by rw [HW.out]; exact World.drewN_drewN ..⟩, HN⟩
            case measure => simp [intOf]; omega
        · obtain rfl : k = 0 := by omega
          rw [Nat.add_zero] at c1
          have HN : Hid (∀ j (h : j < pat.length), j < 0 + 1 → 0 ≤ pat[j] ∧ pat[j] ≤ 100000 ∧ (∀ h0 : 0 < j, IntKind.i64.wrap (4 * win) < pat[j] - pat[j-1]'(by omega))) := fun j hj hjk => by
            obtain rfl : j = 0 := by omega
            rw [← HPE.out]
            exact ⟨hr.1, hr.2, fun h0 => by omega⟩
          have hd : decide ((0:Int) < (((0:Nat):Int))) = false := by simp
          clear c2
          go_wp2
          go_quiet ((go_at_call 31; exact Calls.quiet_of_same (in_true' _ _ _ _ hr)))
          go_wp2
          go_roundw
          case rel => exact ⟨0 + 1, by omega, by go_num, ⟨n + nq, by rw [HW.out]; exact World.drewN_drewN ..⟩, HN⟩
          case measure => simp [intOf]; omega
      · have HF : Hid (goodB pat win = false) := goodB_false (fun hg => by
          have h2 := hg.2 k hlt
          rw [← HPE.out] at h2
          exact hr ⟨h2.1, h2.2.1⟩)
        clear c2
        go_wp2
        go_quiet ((go_at_call 31; exact Calls.quiet_of_same (in_false' _ _ _ _ hr)))
        go_wp2
        go_ret
        exact ⟨by rw [HF.out]; rfl, HXR.out.drewN _⟩
    · by_cases hwin : 0 ≤ win ∧ win ≤ 5000
      · have HF : Hid (goodB pat win = true) := goodB_true ⟨hwin, fun j hj => by
          obtain ⟨h1, h2, h3⟩ := HR.out j hj (by omega)
          refine ⟨h1, h2, fun h0 => ?_⟩
          have h4 := h3 h0
          rw [i64_eq (4 * win) (by omega)] at h4
          omega⟩
        go_wp2_with (go_at_call 31; refine (in_true' _ _ _ _ hwin).mono ?_; rintro e w' ⟨rfl, rfl⟩)
        go_ret
        exact ⟨by rw [HF.out]; rfl, HXR.out⟩
      · have HF : Hid (goodB pat win = false) := goodB_false (fun hg => hwin hg.1)
        go_wp2_with (go_at_call 31; refine (in_false' _ _ _ _ hwin).mono ?_; rintro e w' ⟨rfl, rfl⟩)
        go_ret
        exact ⟨by rw [HF.out]; rfl, HXR.out⟩
end Go.Proofs.Ytafnadaahnkcmaa
