/- Balance of the reference. -/
import Derived.Test.YtekplfbfkfiabaaRefK
import Derived.Test.YtekplfbfkfiabaaBkShow
namespace Go.Proofs.Ytekplfbfkfiabaa
open Go.RowKit
set_option linter.unusedVariables false
set_option linter.unusedSimpArgs false

set_option maxHeartbeats 2000000 in
theorem rBal_any (d : LedD) (va ve : Value) (i day : Int) (w : World) (ha : AccIn w va d.acc) (hs : SigIn w ve d.ents) (ok : LedOk d) :
    Calls Try.prog 79 #[rLed d va ve, .int .i64 i, .int .i64 day] w fun e w' => e = .returned (.tuple #[.int .i64 (balV d i day), .int .i64 (balErr d i day)]) ∧ Ext w w' := by
  have hn := ok.n1
  unfold LedD.n at hn
  have hrb := fun W (h : SigIn W ve d.ents) => rBalance_any d va ve i day W h ok
  obtain ⟨a, c, rfl, HA⟩ := ha.form
  obtain ⟨a2, c2, rfl, HS⟩ := hs.form
  clear ha hs
  unfold rLed at hrb
  by_cases h1 : i < 0
  · have HE := Lib.hid (show balErr d i day = 1 by unfold balErr LedD.n; rw [if_neg (by omega)])
    have HV := Lib.hid (show balV d i day = 0 by unfold balV; rw [if_neg (by rw [HE.out]; decide)])
    clear ok hrb hn
    unfold rLed
    go_enter Try.func79, Try.ntmps79
    go_wp2_with (
      (with_reducible refine wpList_boxA (t := 81) rfl rfl rfl ?_
       rintro eb w1 hb1 hx1 hl1
       have b0 := hb1.cell 0
       have b1 := hb1.cell 1
       have b2 := hb1.cell 2
       have b3 := hb1.cell 3
       have HX := Lib.hid hx1
       clear hx1
       clear hb1 hl1
       )
      )
    go_ret2
    exact ⟨by rw [HE.out, HV.out]; rfl, HX.out⟩
  · have h1' : (0:Int) ≤ i := by omega
    by_cases h2 : (d.acc.length : Int) ≤ i
    · have HE := Lib.hid (show balErr d i day = 1 by unfold balErr LedD.n; rw [if_neg (by omega)])
      have HV := Lib.hid (show balV d i day = 0 by unfold balV; rw [if_neg (by rw [HE.out]; decide)])
      clear ok hrb hn h1
      unfold rLed
      go_enter Try.func79, Try.ntmps79
      go_wp2_with (
        (with_reducible refine wpList_boxA (t := 81) rfl rfl rfl ?_
         rintro eb w1 hb1 hx1 hl1
         have b0 := hb1.cell 0
         have b1 := hb1.cell 1
         have b2 := hb1.cell 2
         have b3 := hb1.cell 3
         have HX := Lib.hid hx1
         clear hx1
         clear hb1 hl1
         )
        )
      go_ret2
      exact ⟨by rw [HE.out, HV.out]; rfl, HX.out⟩
    · have h2' : i < (d.acc.length : Int) := by omega
      by_cases h3 : day < 0
      · have HE := Lib.hid (show balErr d i day = 6 by unfold balErr LedD.n; rw [if_pos (by omega), if_neg (by omega)])
        have HV := Lib.hid (show balV d i day = 0 by unfold balV; rw [if_neg (by rw [HE.out]; decide)])
        clear ok hrb hn h1 h2
        unfold rLed
        go_enter Try.func79, Try.ntmps79
        go_wp2_with (
          (with_reducible refine wpList_boxA (t := 81) rfl rfl rfl ?_
           rintro eb w1 hb1 hx1 hl1
           have b0 := hb1.cell 0
           have b1 := hb1.cell 1
           have b2 := hb1.cell 2
           have b3 := hb1.cell 3
           have HX := Lib.hid hx1
           clear hx1
           clear hb1 hl1
           )
          )
        go_ret2
        exact ⟨by rw [HE.out, HV.out]; rfl, HX.out⟩
      · have h3' : (0:Int) ≤ day := by omega
        by_cases h4 : 100000 < day
        · have HE := Lib.hid (show balErr d i day = 6 by unfold balErr LedD.n; rw [if_pos (by omega), if_neg (by omega)])
          have HV := Lib.hid (show balV d i day = 0 by unfold balV; rw [if_neg (by rw [HE.out]; decide)])
          clear ok hrb hn h1 h2 h3
          unfold rLed
          go_enter Try.func79, Try.ntmps79
          go_wp2_with (
            (with_reducible refine wpList_boxA (t := 81) rfl rfl rfl ?_
             rintro eb w1 hb1 hx1 hl1
             have b0 := hb1.cell 0
             have b1 := hb1.cell 1
             have b2 := hb1.cell 2
             have b3 := hb1.cell 3
             have HX := Lib.hid hx1
             clear hx1
             clear hb1 hl1
             )
            )
          go_ret2
          exact ⟨by rw [HE.out, HV.out]; rfl, HX.out⟩
        · have h4' : day ≤ 100000 := by omega
          have HE := Lib.hid (show balErr d i day = 0 by unfold balErr LedD.n; rw [if_pos (by omega), if_pos (by omega)])
          have HV := Lib.hid (show balV d i day = balU i day d.ents by unfold balV; rw [if_pos HE.out])
          have HRB := Lib.hid hrb
          clear hrb
          clear ok hn h1 h2 h3 h4
          unfold rLed
          go_enter Try.func79, Try.ntmps79
          go_wp2_with (first
            | (with_reducible refine wpList_boxA (t := 81) rfl rfl rfl ?_
               rintro eb w1 hb1 hx1 hl1
               have b0 := hb1.cell 0
               have b1 := hb1.cell 1
               have b2 := hb1.cell 2
               have b3 := hb1.cell 3
               have HX := Lib.hid hx1
               clear hx1
               clear hb1 hl1
               )
            | (go_at_call 78
               refine (HRB.out _ (HS.out.ext HX.out)).mono ?_
               rintro e w2 ⟨rfl, hx2⟩
               replace HX := Lib.hid (HX.out.ext hx2)
               clear hx2))
          go_ret2
          exact ⟨by rw [HE.out, HV.out]; rfl, HX.out⟩
end Go.Proofs.Ytekplfbfkfiabaa
