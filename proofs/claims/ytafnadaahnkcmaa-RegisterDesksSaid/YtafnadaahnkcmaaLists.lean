/- Functions over slices of integers that only read, or copy. -/
import Derived.Test.YtafnadaahnkcmaaLeaf
namespace Go.Proofs.Ytafnadaahnkcmaa
open Go.RowKit
set_option linter.unusedVariables false

theorem tInts : SliceT Try.prog 22 3 (.int .i64 0) 1 8 := ⟨by kernel_rfl, by kernel_rfl, rfl, by decide, by decide⟩

theorem take_eq_step {xs ys : List Int} {k : Nat} (hx : k < xs.length) (hy : k < ys.length) (h : xs.take k = ys.take k) (e : xs[k] = ys[k]) : xs.take (k+1) = ys.take (k+1) := by
  rw [List.take_succ_eq_append_getElem hx, List.take_succ_eq_append_getElem hy, h, e]

theorem copyInts_any (xs : List Int) (va : Value) (w : World) (ha : Ints w va xs) (hb : xs.length ≤ 1000000) :
    Calls Try.prog 10 #[va] w fun e w' => ∃ v, e = .returned v ∧ Ext w w' ∧ w'.ownsRow w.heap.size 3 1 v xs.length (xs.map (.int .i64)) := by
  go_enter Try.func10, Try.ntmps10
  go_wp2_with (at_builtin; refine wpList_app tInts rfl rfl (v := .slice none 0 0) rfl (World.ownsRow_nil _ w.heap.size _ _) rfl ha.src (by simp [Value.oneCell']) (by simp; omega) (Nat.le_refl _) ?_; rintro v' w' h1 h2 h3)
  go_ret
  refine ⟨v', rfl, (Below.refl _ _).grown h2 (Nat.le_refl _) (by simp [Value.ownBlock]), by simpa using h1⟩

theorem sameInts_any (xs ys : List Int) (va vb : Value) (w : World) (ha : Ints w va xs) (hb : Ints w vb ys) :
    Calls Try.prog 13 #[va, vb] w fun e w' => e = .returned (.bool (decide (xs = ys))) ∧ ∃ n, w' = w.drewN n := by
  have hx := ha.len
  have hy := hb.len
  obtain ⟨a, c, rfl, Ha⟩ := ha.form
  obtain ⟨b, d, rfl, Hb⟩ := hb.form
  clear ha hb
  go_enter Try.func13, Try.ntmps13
  by_cases hl : xs.length = ys.length
  · have hl' : ((xs.length : Int) != (ys.length:Int)) = false := by simp [hl]
    have H := Lib.hid hl
    clear hl
    go_wp2
    go_loopw [5] (fun t wr => ∃ k : Nat, k ≤ xs.length ∧ t = .int .i64 k ∧ xs.take k = ys.take k ∧ ∃ n, wr = w.drewN n) (fun t _ => xs.length - (intOf t).toNat)
    case atStart => exact ⟨0, Nat.zero_le _, rfl, rfl, 0, rfl⟩
    case round =>
      obtain ⟨k, hk, rfl, hrel, n, rfl⟩ := hrel
      have HR := Lib.hid hrel
      clear hrel
      by_cases hlt : k < xs.length
      · have hlt2 : k < ys.length := by have := H.out; omega
        obtain ⟨b1, o1, rfl, hc1⟩ := Ha.out.cells (by omega)
        obtain ⟨b2, o2, rfl, hc2⟩ := Hb.out.cells (by omega)
        have c1 := hc1 k hlt
        have c2 := hc2 k hlt2
        clear hc1 hc2
        have i1 : (0:Int) ≤ (k:Int) := by omega
        have i2 : (k:Int) < (xs.length:Int) := by omega
        have i3 : (k:Int) < (ys.length:Int) := by omega
        go_wp2
        go_quiet (fail)
        by_cases he : xs[k] = ys[k]
        · have he' : (xs[k] != ys[k]) = false := by simp [he]
          have HE := Lib.hid (take_eq_step hlt hlt2 HR.out he)
          clear he
          go_wp2
          go_roundw
          case rel => exact ⟨k+1, by omega, by go_num, HE.out, _, rfl⟩
          case measure => simp [intOf]; omega
        · have he' : (xs[k] != ys[k]) = true := by simp [he]
          have HE : xs ≠ ys := fun h => by subst h; exact he rfl
          have hd : decide (xs = ys) = false := by simp [HE]
          clear he HE
          go_wp2
          go_ret
          exact ⟨by rw [hd]; rfl, n + nq, World.drewN_drewN ..⟩
      · have hd : decide (xs = ys) = true := by
          have := HR.out
          have hl := H.out
          rw [List.take_of_length_le (by omega), List.take_of_length_le (by omega)] at this
          simp [this]
        go_wp2
        go_ret
        exact ⟨by rw [hd]; rfl, _, rfl⟩
  · have hl' : ((xs.length : Int) != (ys.length:Int)) = true := by simp; omega
    have hd : decide (xs = ys) = false := by
      simp; intro h; subst h; exact hl rfl
    clear hl
    go_wp2
    go_ret
    exact ⟨by rw [hd]; rfl, 0, rfl⟩

/-- ref05.found: the first of the numbers that lies between; or 10^9. -/
def fnd (xs : List Int) (lo hi : Int) : Int := match xs.find? (fun x => inB x lo hi) with | some x => x | none => 1000000000
theorem fnd_hit (xs : List Int) (lo hi : Int) (k : Nat) (h : k < xs.length) (h1 : lo ≤ xs[k]) (h2 : xs[k] ≤ hi) : fnd (xs.drop k) lo hi = xs[k] := by
  unfold fnd; rw [List.drop_eq_getElem_cons h, List.find?_cons_of_pos (p := fun x => inB x lo hi) ((inB_iff _ _ _).2 ⟨h1, h2⟩)]
theorem fnd_miss (xs : List Int) (lo hi : Int) (k : Nat) (h : k < xs.length) (h1 : ¬ (lo ≤ xs[k] ∧ xs[k] ≤ hi)) : fnd (xs.drop k) lo hi = fnd (xs.drop (k + 1)) lo hi := by
  have : inB xs[k] lo hi = false := by rw [Bool.eq_false_iff]; intro hh; exact h1 ((inB_iff _ _ _).1 hh)
  unfold fnd; rw [List.drop_eq_getElem_cons h, List.find?_cons_of_neg (by simp [this])]
theorem fnd_end (xs : List Int) (lo hi : Int) (k : Nat) (h : xs.length ≤ k) : fnd (xs.drop k) lo hi = 1000000000 := by
  rw [List.drop_of_length_le h]; rfl

theorem found_any (xs : List Int) (va : Value) (lo hi : Int) (w : World) (ha : Ints w va xs) :
    Calls Try.prog 35 #[va, .int .i64 lo, .int .i64 hi] w fun e w' => e = .returned (.int .i64 (fnd xs lo hi)) ∧ w = w' := by
  have hx := ha.len
  obtain ⟨a, c, rfl, Ha⟩ := ha.form
  clear ha
  go_enter Try.func35, Try.ntmps35
  go_wp2
  go_loop [7] (fun t => ∃ k : Nat, k ≤ xs.length ∧ t = .int .i64 k ∧ fnd xs lo hi = fnd (xs.drop k) lo hi) (fun t => xs.length - (intOf t).toNat)
  case atStart => exact ⟨0, Nat.zero_le _, rfl, rfl⟩
  case round =>
    obtain ⟨k, hk, rfl, hrel⟩ := hrel
    have HR := Lib.hid hrel
    clear hrel
    by_cases hlt : k < xs.length
    · obtain ⟨b1, o1, rfl, hc1⟩ := Ha.out.cells (by omega)
      have c1 := hc1 k hlt
      clear hc1
      have i1 : (0:Int) ≤ (k:Int) := by omega
      have i2 : (k:Int) < (xs.length:Int) := by omega
      by_cases h1 : lo ≤ xs[k]
      · by_cases h2 : xs[k] ≤ hi
        · have HE := Lib.hid (fnd_hit xs lo hi k hlt h1 h2)
          go_wp2
          go_ret
          exact ⟨ret_int (by rw [HR.out, HE.out]), rfl⟩
        · have HE := Lib.hid (fnd_miss xs lo hi k hlt (by omega))
          go_wp2
          go_round
          case rel => exact ⟨k+1, by omega, by go_num, by rw [HR.out, HE.out]⟩
          case measure => simp [intOf]; omega
      · have HE := Lib.hid (fnd_miss xs lo hi k hlt (by omega))
        go_wp2
        go_round
        case rel => exact ⟨k+1, by omega, by go_num, by rw [HR.out, HE.out]⟩
        case measure => simp [intOf]; omega
    · have HE := Lib.hid (fnd_end xs lo hi k (by omega))
      go_wp2
      go_ret
      exact ⟨ret_int (by rw [HR.out, HE.out]), rfl⟩

/-- register.far: the greatest absolute value; 0 of none. -/
def farL (xs : List Int) : Int := xs.foldl (fun n x => max (max n x) (-x)) 0
theorem farL_snoc (xs : List Int) (k : Nat) (h : k < xs.length) : farL (xs.take (k+1)) = max (max (farL (xs.take k)) xs[k]) (-xs[k]) := by
  rw [List.take_succ_eq_append_getElem h]; unfold farL; rw [List.foldl_append]; rfl
theorem far_any (xs : List Int) (va : Value) (w : World) (ha : Ints w va xs) (hs : ∀ x ∈ xs, -9223372036854775807 ≤ x ∧ x ≤ 9223372036854775807) :
    Calls Try.prog 38 #[va] w fun e w' => e = .returned (.int .i64 (farL xs)) ∧ w = w' := by
  have hx := ha.len
  have HS := Lib.hid hs
  clear hs
  obtain ⟨a, c, rfl, Ha⟩ := ha.form
  clear ha
  go_enter Try.func38, Try.ntmps38
  go_wp2
  go_loop [3, 8] (fun n t => ∃ k : Nat, k ≤ xs.length ∧ t = .int .i64 k ∧ n = .int .i64 (farL (xs.take k))) (fun _ t => xs.length - (intOf t).toNat)
  case atStart => exact ⟨0, Nat.zero_le _, rfl, rfl⟩
  case round =>
    obtain ⟨k, hk, rfl, rfl⟩ := hrel
    by_cases hlt : k < xs.length
    · obtain ⟨b1, o1, rfl, hc1⟩ := Ha.out.cells (by omega)
      have c1 := hc1 k hlt
      clear hc1
      obtain ⟨r1, r2⟩ := HS.out xs[k] (List.getElem_mem hlt)
      have i1 : (0:Int) ≤ (k:Int) := by omega
      have i2 : (k:Int) < (xs.length:Int) := by omega
      have HE := Lib.hid (farL_snoc xs k hlt)
      go_wp2
      all_goals
        go_round
        case rel => exact ⟨k+1, by omega, by go_num, by rw [HE.out]; congr 1; omega⟩
        case measure => simp [intOf]; omega
    · go_wp2
      go_ret
      exact ⟨ret_int (by rw [List.take_of_length_le (by omega)]), rfl⟩
end Go.Proofs.Ytafnadaahnkcmaa
