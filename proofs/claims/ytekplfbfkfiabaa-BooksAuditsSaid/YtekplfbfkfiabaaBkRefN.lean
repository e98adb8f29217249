/- The reference's New. -/
import Derived.Test.YtekplfbfkfiabaaBkRefC
namespace Go.Proofs.Ytekplfbfkfiabaa
open Go.RowKit
set_option linter.unusedVariables false
set_option linter.unusedSimpArgs false

set_option maxRecDepth 100000 in
set_option maxHeartbeats 2000000 in
theorem rNew_any (key : Int) (l : List AccD) (va : Value) (w : World) (ha : AccIn w va l) (h0 : checkE l = 0) :
    Calls Try.prog 41 #[.int .u64 key, va] w fun e w' => e = .returned (.tuple #[rLed (newD key l) va (.slice none 0 0), .int .i64 0]) ∧ Ext w w' := by
  obtain ⟨a, c, rfl, HS⟩ := ha.form
  have HC := Lib.hid fun w1 (k : Ext w w1) => rCheck_any l _ w1 (ha.ext k)
  have H0 := Lib.hid h0
  clear h0
  clear ha
  unfold rLed
  go_enter Try.func41, Try.ntmps41
  go_wp2_with (first
    | (with_reducible refine wpList_allocA (t := 81) rfl rfl Try.zeroValue81 ?_
       rintro pb w3 hb3 hx3 hl3
       have PB := Lib.hid hb3
       have X := Lib.hid hx3
       have LP := Lib.hid hl3
       clear hb3 hx3 hl3)
    | (go_at_call 42
       refine (HC.out _ X.out).mono ?_
       rintro e w4 ⟨rfl, nn, hw4⟩
       rw [H0.out]
       have hx4 : Ext w3 w4 := by rw [hw4]; exact Ext.of_drewN _ _
       clear hw4
       replace PB := Lib.hid (PB.out.ext hx4)
       replace X := Lib.hid (X.out.ext hx4)
       clear hx4)
    | (with_reducible refine wpList_storeK (cells := #[.int .u64 key, .slice a l.length c, .slice none 0 0, .int .i64 (-1)]) rfl rfl PB.out ?_ ?_ ?_ ?_ ?_ ?_
       · rfl
       · rfl
       · kernel_rfl
       · rfl
       · simp [Value.oneCell']
       rintro w5 hb5 ho5
       have hx5 := X.out.then_only ho5 (fun k (e : k = pb) => by rw [e]; exact LP.out)
       have k0 := hb5.cell
       clear X PB
       have X := Lib.hid hx5
       clear hx5
       clear hb5 ho5))
  refine bodyPost_ret (v := .tuple #[.agg #[.int .u64 key, .slice a l.length c, .slice none 0 0, .int .i64 (-1)], .int .i64 0]) (by simp [results, Try.results41, go_sem, k0]) rfl ⟨rfl, X.out⟩
end Go.Proofs.Ytekplfbfkfiabaa
