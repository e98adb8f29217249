/- The first party of a group that owes, or is owed (Clear's function value). -/
import Derived.Test.YtekplfbfkfiabaaPlainCl
namespace Go.Proofs.Ytekplfbfkfiabaa
open Go.RowKit Go.Shelf
set_option linter.unusedVariables false
set_option linter.unusedSimpArgs false
attribute [local go_sem] Oper.semAt_some

theorem firstI_go {left G : List Int} {num : Int} {owes : Bool} {f i : Nat} : firstI left G num owes (f + 1) i = if okC left G num owes i then some i else firstI left G num owes f (i + 1) := rfl
def FirstPost (left G : List Int) (num : Int) (owes : Bool) (w : World) (e : Ending) (w' : World) : Prop := e = .returned (.int .i64 (firstV (firstC left G num owes))) ∧ Ext w w'
set_option maxRecDepth 100000 in
set_option maxHeartbeats 4000000 in
theorem first_any (left G : List Int) (num : Int) (owes : Bool) (lb gb nb : Nat) (vl vg : Value) (w : World) (hl : Blk w lb #[vl] 22) (hg : Blk w gb #[vg] 22) (hn : Blk w nb #[.int .i64 num] 3)
    (hL : Ints w vl left) (hG : Ints w vg G) (hs : G.length = left.length) (hlen : left.length ≤ 1000) :
    Calls Try.prog 62 #[.bool owes, .pointer (some ⟨lb, 0, none⟩), .pointer (some ⟨gb, 0, none⟩), .pointer (some ⟨nb, 0, none⟩)] w (FirstPost left G num owes w) := by
  have hp : ∀ e w', FirstPost left G num owes w e w' → FirstPost left G num owes w e w' := fun _ _ h => h
  obtain ⟨al, cl, rfl, HL⟩ := hL.form
  obtain ⟨ag, cg, rfl, HG⟩ := hG.form
  have HP := Lib.hid hp
  have LB := Lib.hid hl
  have GB := Lib.hid hg
  have NB := Lib.hid hn
  have HS := Lib.hid hs
  clear hp hl hg hn hs
  clear hL hG
  have hl0 := LB.out.cell 0
  go_enter Try.func62, Try.ntmps62
  go_upto_region 2 with (fail)
  clear hl0
  go_loopw [10] (fun s wr => ∃ i : Nat, i ≤ left.length ∧ s = .int .i64 i ∧ Hid (firstI left G num owes (left.length - i) i = firstC left G num owes) ∧ Hid (Ext w wr)) (fun s _ => left.length - (intOf s).toNat)
  case atStart => exact ⟨0, Nat.zero_le _, rfl, rfl, Below.refl _ _⟩
  case round =>
    obtain ⟨i, hi, rfl, HF, X⟩ := hrel
    by_cases hlt : i < left.length
    · obtain ⟨b, o, rfl, hc⟩ := HL.out.cells (by omega)
      obtain ⟨b2, o2, rfl, hc2⟩ := HG.out.cells (by rw [HS.out]; omega)
      have c0 := X.out.cellSome (hc i hlt)
      have c1 := X.out.cellSome (hc2 i (by rw [HS.out]; exact hlt))
      have l0 := (LB.out.ext X.out).cell 0
      have g0 := (GB.out.ext X.out).cell 0
      have n0 := (NB.out.ext X.out).cell 0
      have hf := HF.out
      obtain ⟨f, hfu⟩ : ∃ f, left.length - i = f + 1 := ⟨left.length - i - 1, by omega⟩
      rw [hfu, firstI_go] at hf
      have hok : okC left G num owes i = (G[i]'(by rw [HS.out]; exact hlt) == num && (owes && decide (left[i] < 0) || !owes && decide (left[i] > 0))) := by
        unfold okC
        rw [gI_get hlt, gI_get (by rw [HS.out]; exact hlt)]
      obtain ⟨u, hu⟩ : ∃ u, u = left[i] := ⟨_, rfl⟩
      obtain ⟨g, hg⟩ : ∃ g, g = G[i]'(by rw [HS.out]; exact hlt) := ⟨_, rfl⟩
      rw [← hu] at c0 hok
      rw [← hg] at c1 hok
      have hfu2 : left.length - (i + 1) = f := by omega
      have j1 : (0:Int) ≤ (i:Int) := by omega
      have j2 : (i:Int) < (left.length:Int) := by omega
      have hs2 : (G.length : Int) = (left.length : Int) := by rw [HS.out]
      obtain ⟨k, hk⟩ : ∃ k, k = okC left G num owes i := ⟨_, rfl⟩
      rw [← hk] at hf hok
      rw [← hfu2] at hf
      have HF2 := Lib.hid hf
      have HOK := Lib.hid hok
      clear hf hok
      clear hc hc2 hu hg hk hfu hfu2 HF
      by_cases q1 : g = num
      · have q2 : (g == num) = true := by simpa using q1
        cases owes with
        | true =>
          by_cases q3 : u < 0
          · have HK : Hid (k = true) := Lib.hid (by rw [HOK.out, q2, decide_eq_true q3]; rfl)
            go_upto_region 4 with (fail)
            go_quiet (fail)
            have HN : Hid (firstC left G num _ = some i) := Lib.hid (by have h := HF2.out; rw [HK.out, if_pos rfl] at h; exact h.symm)
            go_wp2
            go_ret
            exact HP.out _ _ ⟨by rw [HN.out]; rfl, X.out.tr (Ext.of_drewN _ _)⟩
          · have HK : Hid (k = false) := Lib.hid (by rw [HOK.out, q2, decide_eq_false q3]; rfl)
            go_upto_region 4 with (fail)
            go_quiet (fail)
            go_wp2
            go_roundw
            case rel => exact ⟨i + 1, by omega, by go_num, Lib.hid (by have h := HF2.out; rw [HK.out, if_neg (by decide)] at h; exact h), Lib.hid (X.out.tr (Ext.of_drewN _ _))⟩
            case measure => simp [intOf]; omega
        | false =>
          by_cases q3 : u > 0
          · have HK : Hid (k = true) := Lib.hid (by rw [HOK.out, q2, decide_eq_true q3]; rfl)
            go_upto_region 4 with (fail)
            go_quiet (fail)
            have HN : Hid (firstC left G num _ = some i) := Lib.hid (by have h := HF2.out; rw [HK.out, if_pos rfl] at h; exact h.symm)
            go_wp2
            go_ret
            exact HP.out _ _ ⟨by rw [HN.out]; rfl, X.out.tr (Ext.of_drewN _ _)⟩
          · have HK : Hid (k = false) := Lib.hid (by rw [HOK.out, q2, decide_eq_false q3]; rfl)
            go_upto_region 4 with (fail)
            go_quiet (fail)
            go_wp2
            go_roundw
            case rel => exact ⟨i + 1, by omega, by go_num, Lib.hid (by have h := HF2.out; rw [HK.out, if_neg (by decide)] at h; exact h), Lib.hid (X.out.tr (Ext.of_drewN _ _))⟩
            case measure => simp [intOf]; omega
      · have q2 : (g == num) = false := by simpa using q1
        have HK : Hid (k = false) := Lib.hid (by rw [HOK.out, q2]; rfl)
        go_upto_region 4 with (fail)
        go_quiet (fail)
        go_wp2
        go_roundw
        case rel => exact ⟨i + 1, by omega, by go_num, Lib.hid (by have h := HF2.out; rw [HK.out, if_neg (by decide)] at h; exact h), Lib.hid (X.out.tr (Ext.of_drewN _ _))⟩
        case measure => simp [intOf]; omega
    · obtain rfl : i = left.length := by omega
      have hf := HF.out
      rw [Nat.sub_self] at hf
      have HN : Hid (firstC left G num owes = none) := Lib.hid hf.symm
      have l0 := (LB.out.ext X.out).cell 0
      clear hf HF
      go_wp2
      go_ret
      exact HP.out _ _ ⟨by rw [HN.out]; rfl, X.out⟩
end Go.Proofs.Ytekplfbfkfiabaa
