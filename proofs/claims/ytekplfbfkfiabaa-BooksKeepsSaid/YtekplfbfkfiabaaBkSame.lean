/- sameSigned of two lists that are the same. -/
import Derived.Test.YtekplfbfkfiabaaBkLaw
namespace Go.Proofs.Ytekplfbfkfiabaa
open Go.RowKit
set_option linter.unusedVariables false
set_option linter.unusedSimpArgs false

set_option maxRecDepth 100000 in
set_option maxHeartbeats 2000000 in
theorem sameSigned_true (l : List SigD) (va vb : Value) (w : World) (ha : SigIn w va l) (hb : SigIn w vb l) :
    Calls Try.prog 38 #[va, vb] w fun e w' => e = .returned (.bool true) ∧ ∃ n, w' = w.drewN n := by
  have hl := ha.len
  obtain ⟨a, c, rfl, HS⟩ := ha.form
  obtain ⟨a2, c2, rfl, HT⟩ := hb.form
  clear ha hb
  go_enter Try.func38, Try.ntmps38
  go_wp2
  go_loopw [5] (fun t wr => ∃ k : Nat, k ≤ l.length ∧ t = .int .i64 k ∧ ∃ n, wr = w.drewN n) (fun t _ => l.length - (intOf t).toNat)
  case atStart => exact ⟨0, Nat.zero_le _, rfl, 0, rfl⟩
  case round =>
    obtain ⟨k, hk, rfl, n, rfl⟩ := hrel
    by_cases hlt : k < l.length
    · obtain ⟨b, o, rfl, hc⟩ := HS.out.cells (by omega)
      obtain ⟨b2, o2, rfl, hd⟩ := HT.out.cells (by omega)
      obtain ⟨e0, e1, e2, e3, e4⟩ := hc k hlt
      obtain ⟨f0, f1, f2, f3, f4⟩ := hd k hlt
      generalize l[k] = x at *
      obtain ⟨⟨xf, xt, xa, xd⟩, xs⟩ := x
      dsimp only at e0 e1 e2 e3 e4 f0 f1 f2 f3 f4
      have j1 : (0:Int) ≤ (k:Int) := by omega
      have j2 : (k:Int) < (l.length:Int) := by omega
      clear hc hd
      go_wp2
      go_quiet (fail)
      go_wp2
      go_roundw
      case rel => exact ⟨k + 1, by omega, by go_num, n + nq, rfl⟩
      case measure => simp [intOf]; omega
    · obtain rfl : k = l.length := by omega
      clear hlt
      go_wp2
      go_ret
      exact ⟨rfl, n, rfl⟩
end Go.Proofs.Ytekplfbfkfiabaa
