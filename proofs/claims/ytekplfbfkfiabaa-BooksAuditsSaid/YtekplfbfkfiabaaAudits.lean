/- BooksAudits returns true. -/
import Derived.Test.YtekplfbfkfiabaaBkAwake
import Derived.Test.YtekplfbfkfiabaaBkSame
import Derived.Test.YtekplfbfkfiabaaBkRefA
namespace Go.Proofs.Ytekplfbfkfiabaa
open Go.RowKit
set_option linter.unusedVariables false
set_option linter.unusedSimpArgs false
attribute [local go_sem] Oper.semAt_some

set_option maxRecDepth 100000 in
set_option maxHeartbeats 4000000 in
theorem audits_true (key : Int) (l : List AccD) (es : List SigD) (h v : Int) (va vs : Value) (w : World) (ha : AccIn w va l) (hs : SigIn w vs es) (hk : U64 key) (hf : ∀ x ∈ es, x.e.fits) :
    Calls Try.prog 8 #[.int .u64 key, va, vs, .int .u64 h, .int .u64 v] w fun e w' => e = .returned (.bool true) ∧ Ext w w' := by
  have hal := ha.len
  have hsl := hs.len
  obtain ⟨aa, ca, rfl, HA⟩ := ha.form
  obtain ⟨sa, cs, rfl, HS⟩ := hs.form
  clear ha hs
  by_cases hq : l.length ≤ 60 ∧ es.length ≤ 60
  · obtain ⟨q1, q2⟩ := hq
    obtain ⟨r1, hr1⟩ : ∃ r, r = (auditR key l es).1 := ⟨_, rfl⟩
    obtain ⟨r2, hr2⟩ : ∃ r, r = (auditR key l es).2 := ⟨_, rfl⟩
    have hau := fun (w1 : World) (v1 v2 : Value) (h1 : AccIn w1 v1 l) (h2 : SigIn w1 v2 es) => audit_any key l es v1 v2 w1 h1 h2 hk hf
    have hra := fun (w1 : World) (v1 v2 : Value) (h1 : AccIn w1 v1 l) (h2 : SigIn w1 v2 es) => rAudit_any key l es v1 v2 w1 h1 h2 hk hf
    rw [← hr1, ← hr2] at hau hra
    have i1 : (l.length : Int) ≤ 60 := by omega
    have i2 : (es.length : Int) ≤ 60 := by omega
    have HB : Hid (l.length ≤ 1000000 ∧ es.length ≤ 1000000) := ⟨by omega, by omega⟩
    have HAU := Lib.hid hau
    have HRA := Lib.hid hra
    have HK := Lib.hid hk
    have HF := Lib.hid hf
    clear hau hra hk hf
    clear hr1 hr2
    go_enter Try.func8, Try.ntmps8
    go_upto_region 4 with (first
      | (go_at_call 25
         refine (accounts_any l _ _ HA.out HB.out.1).mono ?_
         rintro e w1 ⟨v1, rfl, hx1, ho1⟩
         have h1 : AccIn w1 v1 l := StIn.of_owns accC_len ho1 hal
         have hs1 := HS.out.ext hx1
         replace HA := Lib.hid (HA.out.ext hx1)
         clear HS ho1
         obtain ⟨a1, c1, rfl, _⟩ := h1.form
         have X := Lib.hid hx1
         have I1 := Lib.hid h1
         have HS := Lib.hid hs1
         clear hx1 h1 hs1)
      | (go_at_call 33
         refine (signed_any es _ _ HS.out HB.out.2).mono ?_
         rintro e w2 ⟨v2, rfl, hx2, ho2⟩
         have h2 : SigIn w2 v2 es := StIn.of_owns sigC_len ho2 hsl
         replace HA := Lib.hid (HA.out.ext hx2)
         replace HS := Lib.hid (HS.out.ext hx2)
         replace X := Lib.hid (X.out.ext hx2)
         replace I1 := Lib.hid (I1.out.ext hx2)
         clear ho2 hx2
         obtain ⟨a2, c2, rfl, _⟩ := h2.form
         have I2 := Lib.hid h2
         clear h2))
    go_wp2_with (first
      | (go_at_call 34
         refine (HAU.out _ _ _ I1.out I2.out).mono ?_
         rintro e w3 ⟨rfl, hx3⟩
         replace HA := Lib.hid (HA.out.ext hx3)
         replace HS := Lib.hid (HS.out.ext hx3)
         replace X := Lib.hid (X.out.ext hx3)
         replace I2 := Lib.hid (I2.out.ext hx3)
         clear I1 hx3)
      | (go_at_call 35
         refine (HRA.out _ _ _ HA.out HS.out).mono ?_
         rintro e w4 ⟨rfl, hx4⟩
         replace HS := Lib.hid (HS.out.ext hx4)
         replace X := Lib.hid (X.out.ext hx4)
         replace I2 := Lib.hid (I2.out.ext hx4)
         clear HA hx4)
      | (go_at_call 36; refine (step_any _ _ _).mono ?_; rintro e w' ⟨rfl, rfl⟩)
      | (go_at_call 37; refine (rstep_any _ _ _).mono ?_; rintro e w' ⟨rfl, rfl⟩)
      | (go_at_call 38
         refine (sameSigned_true es _ _ _ I2.out HS.out).mono ?_
         rintro e w5 ⟨rfl, n5, hw5⟩
         have hx5 : Ext w4 w5 := by rw [hw5]; exact Ext.of_drewN _ _
         replace X := Lib.hid (X.out.ext hx5)
         clear I2 HS hw5 hx5)
      | (go_at_call 14
         refine (awake_any _).mono ?_
         rintro e w6 ⟨rfl, hx6⟩
         replace X := Lib.hid (X.out.ext hx6)
         clear hx6))
    go_ret
    exact ⟨rfl, X.out⟩
  · have hn : ¬ ((l.length : Int) ≤ 60 ∧ (es.length : Int) ≤ 60) := by omega
    by_cases q1 : 60 < l.length
    · have i1 : (60 : Int) < (l.length : Int) := by omega
      clear hn hq
      go_enter Try.func8, Try.ntmps8
      go_wp2_with (go_at_call 14; refine (awake_any _).mono ?_; rintro e w6 ⟨rfl, hx6⟩)
      go_ret
      exact ⟨rfl, hx6⟩
    · have i1 : (l.length : Int) ≤ 60 := by omega
      have i2 : (60 : Int) < (es.length : Int) := by omega
      clear hn hq
      go_enter Try.func8, Try.ntmps8
      go_wp2_with (go_at_call 14; refine (awake_any _).mono ?_; rintro e w6 ⟨rfl, hx6⟩)
      go_ret
      exact ⟨rfl, hx6⟩
end Go.Proofs.Ytekplfbfkfiabaa
