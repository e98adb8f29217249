/- Sets as numbers; the iterator over the subsets of a set. -/
import Derived.Test.YtekplfbfkfiabaaBkRng
namespace Go.Proofs.Ytekplfbfkfiabaa
open Go.RowKit Go.Shelf
set_option linter.unusedVariables false
set_option linter.unusedSimpArgs false
attribute [local go_sem] Oper.semAt_some

theorem and_i64 (a b : Nat) (ha : a < 2 ^ 62) (hb : b < 2 ^ 62) : bits .and .i64 (a : Int) (b : Int) = ((a &&& b : Nat) : Int) := by
  have hx : a &&& b < 2 ^ 62 := Nat.and_lt_two_pow _ (by omega)
  have h1 : (BitVec.ofInt 64 (a : Int)).toNat = a := by
    rw [BitVec.ofInt_natCast, BitVec.toNat_ofNat]; exact Nat.mod_eq_of_lt (by omega)
  have h2 : (BitVec.ofInt 64 (b : Int)).toNat = b := by
    rw [BitVec.ofInt_natCast, BitVec.toNat_ofNat]; exact Nat.mod_eq_of_lt (by omega)
  show IntKind.i64.wrap ((BitVec.ofInt 64 (a : Int) &&& BitVec.ofInt 64 (b : Int)).toNat : Int) = _
  rw [BitVec.toNat_and, h1, h2]
  exact i64_eq _ ⟨by omega, by omega⟩
theorem xor_i64 (a b : Nat) (ha : a < 2 ^ 62) (hb : b < 2 ^ 62) : bits .xor .i64 (a : Int) (b : Int) = ((a ^^^ b : Nat) : Int) := by
  have hx : a ^^^ b < 2 ^ 62 := Nat.xor_lt_two_pow (by omega) (by omega)
  have h1 : (BitVec.ofInt 64 (a : Int)).toNat = a := by
    rw [BitVec.ofInt_natCast, BitVec.toNat_ofNat]; exact Nat.mod_eq_of_lt (by omega)
  have h2 : (BitVec.ofInt 64 (b : Int)).toNat = b := by
    rw [BitVec.ofInt_natCast, BitVec.toNat_ofNat]; exact Nat.mod_eq_of_lt (by omega)
  show IntKind.i64.wrap ((BitVec.ofInt 64 (a : Int) ^^^ BitVec.ofInt 64 (b : Int)).toNat : Int) = _
  rw [BitVec.toNat_xor, h1, h2]
  exact i64_eq _ ⟨by omega, by omega⟩
/-- The least party of a set, as a set. -/
def lowN (s : Nat) : Nat := s &&& (1024 - s)
theorem low_i64 (s : Nat) (h : s < 1024) : bits .and .i64 (s : Int) (-(s : Int)) = ((lowN s : Nat) : Int) := by
  have : ∀ s : Fin 1024, bits .and .i64 (s.1 : Int) (-(s.1 : Int)) = ((lowN s.1 : Nat) : Int) := by decide +kernel
  exact this ⟨s, h⟩
theorem lowN_le (s : Nat) : lowN s ≤ s := Nat.and_le_left
theorem lowN_pos (s : Nat) (h : s < 1024) (h0 : 1 ≤ s) : 1 ≤ lowN s := by
  have : ∀ s : Fin 1024, 1 ≤ s.1 → 1 ≤ lowN s.1 := by decide +kernel
  exact this ⟨s, h⟩ h0

/-- The subsets of a set from s on, in the program's order. -/
def subF (set : Nat) : Nat → Nat → List Nat
  | 0, _ => []
  | f + 1, s => if s = 0 then [] else s :: subF set f ((s - 1) &&& set)
def subL (set : Nat) : List Nat := subF set set set
theorem subF_zero (set f : Nat) : subF set f 0 = [] := by cases f <;> rfl
theorem subF_fuel (set : Nat) : ∀ (f g s : Nat), s ≤ f → s ≤ g → subF set f s = subF set g s
  | 0, g, s, h, _ => by rw [Nat.le_zero.1 h, subF_zero, subF_zero]
  | f + 1, 0, s, _, h => by rw [Nat.le_zero.1 h, subF_zero, subF_zero]
  | f + 1, g + 1, s, h1, h2 => by
    unfold subF
    by_cases h0 : s = 0
    · rw [if_pos h0, if_pos h0]
    · rw [if_neg h0, if_neg h0, subF_fuel set f g _ ?_ ?_]
      · have : (s - 1) &&& set ≤ s - 1 := Nat.and_le_left
        omega
      · have : (s - 1) &&& set ≤ s - 1 := Nat.and_le_left
        omega
theorem subF_go (set s : Nat) (h0 : s ≠ 0) : subF set s s = s :: subF set ((s - 1) &&& set) ((s - 1) &&& set) := by
  obtain ⟨f, rfl⟩ : ∃ f, s = f + 1 := ⟨s - 1, by omega⟩
  have h1 : subF set (f + 1) (f + 1) = (f + 1) :: subF set f ((f + 1 - 1) &&& set) := by
    show (if f + 1 = 0 then [] else (f + 1) :: subF set f ((f + 1 - 1) &&& set)) = _
    rw [if_neg h0]
  rw [h1]
  congr 1
  exact subF_fuel set _ _ _ (by have : (f + 1 - 1) &&& set ≤ f + 1 - 1 := Nat.and_le_left; omega) (Nat.le_refl _)

theorem subsets_any (set : Int) (w : World) :
    Calls Try.prog 59 #[.int .i64 set] w fun e w' => ∃ b, e = .returned (.func (.func 93) #[] #[.pointer (some ⟨b, 0, none⟩)]) ∧ Blk w' b #[.int .i64 set] 3 ∧ w.heap.size ≤ b ∧ Ext w w' := by
  have hmf : ∀ (fn : Fn) (first cap : Array Value) (w : World), (Instr.makeFunc fn first cap).run Try.prog w = .ok (.func fn first cap) w := fun _ _ _ _ => rfl
  go_enter Try.func59, Try.ntmps59
  go_wp2_with (
    with_reducible refine wpList_box1 (v := .int .i64 set) rfl rfl rfl rfl ?_
    rintro b w1 hb1 hx1 hl1
    have B1 := Lib.hid hb1
    have X := Lib.hid hx1
    have L1 := Lib.hid hl1
    clear hb1 hx1 hl1)
  go_ret
  exact ⟨b, rfl, B1.out, L1.out, X.out⟩

set_option maxRecDepth 100000 in
set_option maxHeartbeats 400000 in
theorem subsets_gives (n : Nat) (hn : 1 ≤ n) (set sb : Nat) (hs : set < 1024) (w : World) :
    IterGives n Try.prog 93 #[.pointer (some ⟨sb, 0, none⟩)] (fun x : Nat => #[.int .i64 (x : Int)]) (fun W => W.cell? ⟨sb, 0, none⟩ = some (.int .i64 (set : Int))) (fun x _ => 1 ≤ x ∧ x ≤ set) (fun l x => l ++ [x]) [] (subL set) w := by
  intro l J W hxw hJx hJM hY hJ0
  refine callsIn_wide.2 ?_
  have hc := hJM _ _ hJ0
  clear hJx hxw
  have HJM := Lib.hid hJM
  have HY := Lib.hid hY
  clear hJM hY
  go_enter Try.func93, Try.ntmps93
  go_upto_region 1 with (fail)
  clear hc
  go_loopw [3] (fun t3 wr => ∃ s pre, s ≤ set ∧ t3 = .int .i64 ((s : Nat) : Int) ∧ Hid (pre ++ subF set s s = subL set) ∧ Hid (J pre wr)) (fun t3 _ => (intOf t3).toNat)
  case atStart => exact ⟨set, [], Nat.le_refl _, rfl, rfl, hJ0⟩
  case round =>
    obtain ⟨s, pre, hle, rfl, HP, HJ⟩ := hrel
    by_cases h0 : s = 0
    · subst h0
      have hp := HP.out
      rw [subF_zero, List.append_nil] at hp
      have HP2 := Lib.hid hp
      clear hp
      go_wp2
      go_end0
      exact ⟨⟨_, rfl⟩, by rw [← HP2.out]; exact HJ.out⟩
    · have hpos : (0:Int) < (s:Int) := by omega
      have hgo := subF_go set s h0
      obtain ⟨fn, tmps, assign, body, hy, hR⟩ := HY.out pre s wr HJ.out ⟨by omega, hle⟩
      have hbit : bits .and .i64 ((s : Int) - 1) (set : Int) = (((s - 1) &&& set : Nat) : Int) := by
        have h1 := and_i64 (s - 1) set (by omega) (by omega)
        rw [← h1]
        congr 1
        omega
      have hle2 : (s - 1) &&& set ≤ s - 1 := Nat.and_le_left
      have HPP := Lib.hid (show pre ++ [s] ++ subF set ((s - 1) &&& set) ((s - 1) &&& set) = subL set by rw [← HP.out, hgo]; simp)
      obtain ⟨z, hz⟩ : ∃ z, z = (s - 1) &&& set := ⟨_, rfl⟩
      rw [← hz] at hbit hle2 HPP
      have hz2 : z < s := by omega
      have HYR := Lib.hid hR
      have HBIT := Lib.hid hbit
      clear hR hbit
      clear hgo HP HJ hle2 hz
      go_upto_region 3 with (fail)
      refine (wpIn_wide (n := n)).1 ?_
      gi_wp2
      refine HYR.out.mono ?_
      rintro e w8 ⟨rfl, hj8⟩
      have hc := HJM.out _ _ hj8
      have hbit := HBIT.out
      have HJ8 := Lib.hid hj8
      clear hj8
      gi_wp2
      go_wp2
      go_roundw
      case rel => exact ⟨z, pre ++ [s], by omega, rfl, HPP, HJ8⟩
      case measure => simp [intOf]; omega
end Go.Proofs.Ytekplfbfkfiabaa
