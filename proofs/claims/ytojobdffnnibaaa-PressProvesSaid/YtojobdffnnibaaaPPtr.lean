/- The addresses of the towers. -/
import Derived.Test.YtojobdffnnibaaaPStart2
namespace Go.Proofs.Ytojobdffnnibaaa
open Go.RowKit
set_option linter.unusedVariables false
set_option linter.unusedSimpArgs false

theorem tPtrs : SliceT Try.prog 106 108 (.pointer none) 1 8 := ⟨by kernel_rfl, by kernel_rfl, rfl, by decide, by decide⟩
/-- The addresses of n towers. -/
def ptrL (ub n : Nat) : List Value := (List.range n).map fun i => .pointer (some ⟨ub, i * 5, none⟩)
theorem ptrL_snoc (ub n : Nat) : ptrL ub (n + 1) = ptrL ub n ++ [.pointer (some ⟨ub, n * 5, none⟩)] := by
  unfold ptrL; rw [List.range_succ, List.map_append]; rfl

set_option maxRecDepth 100000 in
set_option maxHeartbeats 2000000 in
theorem pointers_any {B : Nat} {mb pb ub c : Nat} {p : PressD} {s : StD} {vj : Value} (w : World) (h : MOw B w mb pb ub c p s vj) (hl : s.units.length ≤ 1000000) :
    Calls Try.prog 45 #[.pointer (some ⟨mb, 0, none⟩)] w fun e w' => ∃ v, e = .returned v ∧ w'.ownsRow w.heap.size 108 1 v s.units.length (ptrL ub s.units.length) ∧ Ext w w' := by
  have hm := h.bm
  obtain ⟨n, hn⟩ : ∃ n, s.units.length = n := ⟨_, rfl⟩
  rw [hn] at hm hl ⊢
  have HM := Lib.hid hm
  have HL := Lib.hid hl
  clear hm hl
  clear h hn
  go_enter Try.func45, Try.ntmps45
  have d := HM.out.cell
  go_wp2
  clear d
  go_loopw [11, 3] (fun t11 t3 wr => ∃ k : Nat, k ≤ n ∧ t11 = .int .i64 k ∧ Hid (wr.ownsRow w.heap.size 108 1 t3 k (ptrL ub k)) ∧ Hid (Ext w wr)) (fun t11 _ _ => n - (intOf t11).toNat)
  case atStart => exact ⟨0, Nat.zero_le _, rfl, World.ownsRow_nil _ _ _ _, Below.refl _ _⟩
  case round =>
    obtain ⟨k, hk, rfl, HO, HX⟩ := hrel
    obtain ⟨a3, c3, rfl⟩ := owns_form HO.out
    by_cases hlt : k < n
    · have d := (HM.out.ext HX.out).cell
      have i1 : (0:Int) ≤ (k:Int) := by omega
      have hkb : k < 1000000 := by have := HL.out; omega
      have i2 : (k:Int) < (n:Int) := by omega
      go_wp2_with (
        at_builtin
        refine wpList_app (n := k) (m := 1) tPtrs rfl rfl (v := .slice a3 k c3) rfl (owns_ext HO.out (ext_lit _ _ _)) rfl (Src.lit _ [.pointer (some ⟨ub, k * 5, none⟩)] 1 1 rfl 108 1) (by simp [Value.oneCell']) (by have := HL.out; omega) (Nat.le_trans HX.out.size (by simp)) ?_
        rintro v' w10 t1 t2 t3
        have xt := (HX.out.tr (ext_lit _ _ _)).then_only (only_grown t2) (fun b hb => (HO.out.lt b hb).1)
        rw [← ptrL_snoc] at t1
        have T1 := Lib.hid t1
        have XT := Lib.hid xt
        clear t1 xt
        clear t2 t3 d)
      go_roundw
      case rel => exact ⟨k + 1, by omega, by go_num, T1, XT⟩
      case measure => first | (simp [intOf]; done) | (simp [intOf]; omega)
    · have i2 : decide ((k:Int) < (n:Int)) = false := decide_eq_false (by omega)
      obtain rfl : k = n := by omega
      go_wp2_with fail
      go_ret
      exact ⟨_, rfl, HO.out, HX.out⟩
end Go.Proofs.Ytojobdffnnibaaa
