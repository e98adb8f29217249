/- Accounts, however many. -/
import Derived.Test.YtekplfbfkfiabaaBkLaw
namespace Go.Proofs.Ytekplfbfkfiabaa
open Go.RowKit
set_option linter.unusedVariables false
set_option linter.unusedSimpArgs false

set_option maxRecDepth 100000 in
set_option maxHeartbeats 2000000 in
theorem accounts_big (l : List AccD) (va : Value) (w : World) (ha : AccIn w va l) (hb : l.length * 16 ≤ 140737488355328) :
    Calls Try.prog 25 #[va] w fun e w' => ∃ v, e = .returned v ∧ Ext w w' ∧ w'.ownsRow w.heap.size 85 2 v l.length (l.flatMap accC) := by
  obtain ⟨a, c, rfl, HS⟩ := ha.form
  clear ha
  go_enter Try.func25, Try.ntmps25
  go_wp2
  go_loopw [3, 4] (fun v t wr => ∃ k : Nat, k ≤ l.length ∧ t = .int .i64 k ∧ Hid (wr.ownsRow w.heap.size 85 2 v k ((l.take k).flatMap accC)) ∧ Hid (Ext w wr)) (fun _ t _ => l.length - (intOf t).toNat)
  case atStart => exact ⟨0, Nat.zero_le _, rfl, World.ownsRow_nil _ _ _ _, Below.refl _ _⟩
  case round =>
    obtain ⟨k, hk, rfl, HV, HX⟩ := hrel
    obtain ⟨a1, c1, rfl⟩ := row_form HV.out
    by_cases hlt : k < l.length
    · obtain ⟨b, o, rfl, hc⟩ := HS.out.cells (by omega)
      have e0 := HX.out.cellSome (hc k hlt).1
      have e1 := HX.out.cellSome (hc k hlt).2
      have HF := Lib.hid (fl_take (f := accC) l k hlt)
      obtain ⟨x, hx⟩ : ∃ x, x = l[k] := ⟨_, rfl⟩
      rw [← hx] at e0 e1 HF
      clear hx hc
      obtain ⟨y, s⟩ := x
      dsimp only at e0 e1
      have j1 : (0:Int) ≤ (k:Int) := by omega
      have j2 : (k:Int) < (l.length:Int) := by omega
      go_wp2_with (
        at_builtin
        refine wpList_app tAccs rfl rfl rfl (owns_ext HV.out (ext_lit _ _ _)) rfl (Src.lit _ [.int .i64 y, .bool s] 1 2 rfl 85 1) (by simp [Value.oneCell']) (by omega) (Nat.le_trans HX.out.size (by simp)) ?_
        rintro v' w1 h1 h2 h3
        have hx1 := ext_grown (HX.out.tr (ext_lit wr _ _)) (owns_ext HV.out (ext_lit wr _ _)) h2
        have H1 := Lib.hid h1
        have HX1 := Lib.hid hx1
        clear h1 hx1
        clear h2 h3)
      go_roundw
      case rel => exact ⟨k + 1, by omega, by go_num, Lib.hid (by rw [HF.out]; exact H1.out), HX1⟩
      case measure => simp [intOf]; omega
    · obtain rfl : k = l.length := by omega
      have hv := HV.out
      rw [List.take_length] at hv
      have HV2 := Lib.hid hv
      clear hlt hv
      go_wp2
      go_ret
      exact ⟨_, rfl, HX.out, HV2.out⟩

end Go.Proofs.Ytekplfbfkfiabaa
