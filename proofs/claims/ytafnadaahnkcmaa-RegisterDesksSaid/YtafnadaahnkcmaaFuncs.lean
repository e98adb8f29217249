/- IndexFunc, ContainsFunc at []int; register.beyond; register.Settle. -/
import Derived.Test.YtafnadaahnkcmaaLists
namespace Go.Proofs.Ytafnadaahnkcmaa
open Go.RowKit
set_option linter.unusedVariables false

/-- slices.IndexFunc -/
def idx (p : Int → Bool) (xs : List Int) : Int := match xs.findIdx? p with | some i => (i : Int) | none => -1

theorem idx_none (p : Int → Bool) (xs : List Int) (h : ∀ j (h : j < xs.length), p xs[j] = false) : idx p xs = -1 := by
  have : xs.findIdx? p = none := by
    rw [List.findIdx?_eq_none_iff]; intro x hx
    obtain ⟨j, hj, rfl⟩ := List.mem_iff_getElem.1 hx
    exact h j hj
  simp [idx, this]
theorem idx_some (p : Int → Bool) (xs : List Int) (k : Nat) (hk : k < xs.length) (hp : p xs[k] = true) (h : ∀ j (h : j < xs.length), j < k → p xs[j] = false) : idx p xs = k := by
  have : xs.findIdx? p = some k := by
    rw [List.findIdx?_eq_some_iff_getElem]
    exact ⟨hk, hp, fun j hj => by simp [h j (by omega) hj]⟩
  simp [idx, this]

theorem indexFunc_any (xs : List Int) (va : Value) (fid : Nat) (caps : Array Value) (p : Int → Bool) (w : World) (ha : Ints w va xs) (hid : ∀ (a : Array Value) (w : World), (callFunc fid a).run Try.prog w = .ok (.enter fid a) w)
    (hf : ∀ x ∈ xs, ∀ w1, Ext w w1 → Calls Try.prog fid (#[.int .i64 x] ++ caps) w1 fun e w2 => e = .returned (.bool (p x)) ∧ Ext w1 w2) :
    Calls Try.prog 58 #[va, .func (.func fid) #[] caps] w fun e w' => e = .returned (.int .i64 (idx p xs)) ∧ Ext w w' := by
  have hx := ha.len
  obtain ⟨a, c, rfl, Ha⟩ := ha.form
  clear ha
  have HF := Lib.hid hf
  clear hf
  go_enter Try.func58, Try.ntmps58
  go_wp2
  go_loopw [8] (fun t wr => ∃ k : Nat, k ≤ xs.length ∧ t = .int .i64 k ∧ Hid (∀ j (h : j < xs.length), j < k → p xs[j] = false) ∧ Ext w wr) (fun t _ => xs.length - (intOf t).toNat)
  case atStart => exact ⟨0, Nat.zero_le _, rfl, fun j _ h => by omega, Below.refl _ _⟩
  case round =>
    obtain ⟨k, hk, rfl, HR, hw⟩ := hrel
    by_cases hlt : k < xs.length
    · obtain ⟨b1, o1, rfl, hc1⟩ := Ha.out.cells (by omega)
      have c1 := hw.cellSome (hc1 k hlt)
      clear hc1
      have i1 : (0:Int) ≤ (k:Int) := by omega
      have i2 : (k:Int) < (xs.length:Int) := by omega
      have HC := Lib.hid (HF.out xs[k] (List.getElem_mem hlt) _ hw)
      by_cases hp : p xs[k] = true
      · have HE := Lib.hid (idx_some p xs k hlt hp HR.out)
        go_wp2_with (refine HC.out.mono ?_; rintro e w2 ⟨rfl, hw2⟩)
        go_ret
        exact ⟨ret_int (by rw [HE.out]), hw.tr hw2⟩
      · have hp' : p xs[k] = false := by simpa using hp
        have HE : Hid (∀ j (h : j < xs.length), j < k + 1 → p xs[j] = false) := fun j hj hjk => by
          rcases Nat.lt_or_ge j k with h | h
          · exact HR.out j hj h
          · obtain rfl : j = k := by omega
            exact hp'
        clear hp
        go_wp2_with (refine HC.out.mono ?_; rintro e w2 ⟨rfl, hw2⟩)
        go_roundw
        case rel => exact ⟨k+1, by omega, by go_num, HE, hw.tr hw2⟩
        case measure => simp [intOf]; omega
    · have HE := Lib.hid (idx_none p xs (fun j hj => HR.out j hj (by omega)))
      go_wp2_with fail
      go_ret
      exact ⟨ret_int (by rw [HE.out]), hw⟩

theorem idx_any (p : Int → Bool) (xs : List Int) : decide (0 ≤ idx p xs) = xs.any p := by
  unfold idx
  cases h : xs.findIdx? p with
  | none => 
    rw [List.findIdx?_eq_none_iff] at h
    simp; intro x hx; simpa using h x hx
  | some i =>
    rw [List.findIdx?_eq_some_iff_getElem] at h
    obtain ⟨hi, hp, _⟩ := h
    simp; exact ⟨xs[i], List.getElem_mem hi, hp⟩
theorem idx_range (p : Int → Bool) (xs : List Int) : -1 ≤ idx p xs ∧ idx p xs < xs.length := by
  unfold idx
  cases h : xs.findIdx? p with
  | none => simp; omega
  | some i =>
    rw [List.findIdx?_eq_some_iff_getElem] at h
    obtain ⟨hi, hp, _⟩ := h
    simp; omega

theorem containsFunc_any (xs : List Int) (va : Value) (fid : Nat) (caps : Array Value) (p : Int → Bool) (w : World) (ha : Ints w va xs) (hid : ∀ (a : Array Value) (w : World), (callFunc fid a).run Try.prog w = .ok (.enter fid a) w)
    (hf : ∀ x ∈ xs, ∀ w1, Ext w w1 → Calls Try.prog fid (#[.int .i64 x] ++ caps) w1 fun e w2 => e = .returned (.bool (p x)) ∧ Ext w1 w2) :
    Calls Try.prog 50 #[va, .func (.func fid) #[] caps] w fun e w' => e = .returned (.bool (xs.any p)) ∧ Ext w w' := by
  have HC := Lib.hid (indexFunc_any xs va fid caps p w ha hid hf)
  have HE := Lib.hid (idx_any p xs)
  clear ha hid hf
  go_enter Try.func50, Try.ntmps50
  go_wp2_with (refine HC.out.mono ?_; rintro e w2 ⟨rfl, hw2⟩)
  go_ret
  exact ⟨ret_bool (by rw [← HE.out]), hw2⟩

theorem beyondC_any (x most : Int) (b o : Nat) (w : World) (hc : w.cell? ⟨b, o, none⟩ = some (.int .i64 most)) (hm : -9223372036854775807 ≤ most ∧ most ≤ 9223372036854775807) :
    Calls Try.prog 51 #[.int .i64 x, .pointer (some ⟨b, o, none⟩)] w fun e w' => e = .returned (.bool (!inB x (-most) most)) ∧ w = w' := by
  obtain ⟨h1, h2⟩ := hm
  go_enter Try.func51, Try.ntmps51
  go_wp2_with (go_at_call 31; refine (in_any _ _ _ _).mono ?_; rintro e w' ⟨rfl, rfl⟩)
  go_ret
  exact ⟨rfl, rfl⟩

theorem beyond_any (xs : List Int) (va : Value) (most : Int) (w : World) (ha : Ints w va xs) (hm : -9223372036854775807 ≤ most ∧ most ≤ 9223372036854775807) :
    Calls Try.prog 37 #[.int .i64 most, va] w fun e w' => e = .returned (.bool (xs.any fun x => !inB x (-most) most)) ∧ Ext w w' := by
  go_enter Try.func37, Try.ntmps37
  have hext : Ext w (w.alloc (.cells #[.int .i64 most] 3)) := (Below.refl _ _).alloc (Nat.le_refl _) _
  have HA := Lib.hid (containsFunc_any xs va 51 #[.pointer (some ⟨w.heap.size, 0, none⟩)] (fun x => !inB x (-most) most) (w.alloc (.cells #[.int .i64 most] 3)) (ha.ext hext)
    (fun a w => by simp [go_sem]) (fun x hx w1 hw1 => (beyondC_any x most w.heap.size 0 w1 (hw1.cellSome (by simp)) hm).mono fun e w2 ⟨h1, h2⟩ => ⟨h1, by subst h2; exact Below.refl _ _⟩))
  clear ha
  go_wp2_with (refine HA.out.mono ?_; rintro e w2 ⟨rfl, hw2⟩)
  go_ret
  exact ⟨rfl, hext.tr hw2⟩
end Go.Proofs.Ytafnadaahnkcmaa
