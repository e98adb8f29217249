/- What Share calls: cmp.Compare, the comparing function, the stable sort of few, ContainsFunc of numbers. -/
import Derived.Test.YtekplfbfkfiabaaBkSort
namespace Go.Proofs.Ytekplfbfkfiabaa
open Go.RowKit
set_option linter.unusedVariables false
set_option linter.unusedSimpArgs false

def cmpI (x y : Int) : Int := if x < y then -1 else if y < x then 1 else 0
theorem isNaN_any (x : Int) (w : World) : Calls Try.prog 92 #[.int .i64 x] w fun e w' => e = .returned (.bool false) ∧ w' = w := by
  go_enter Try.func92, Try.ntmps92
  go_wp2
  go_ret
  exact ⟨ret_bool (by simp), rfl⟩
theorem compare_any (x y : Int) (w : World) : Calls Try.prog 57 #[.int .i64 x, .int .i64 y] w fun e w' => e = .returned (.int .i64 (cmpI x y)) ∧ w' = w := by
  rcases Int.lt_trichotomy x y with h | h | h
  · have HC := Lib.hid (show cmpI x y = -1 by unfold cmpI; rw [if_pos h])
    go_enter Try.func57, Try.ntmps57
    go_wp2_with (go_at_call 92; refine (isNaN_any _ _).mono ?_; rintro e w' ⟨rfl, rfl⟩)
    go_ret
    exact ⟨ret_int HC.out.symm, rfl⟩
  · have HC := Lib.hid (show cmpI x y = 0 by unfold cmpI; rw [if_neg (by omega), if_neg (by omega)])
    subst h
    go_enter Try.func57, Try.ntmps57
    go_wp2_with (go_at_call 92; refine (isNaN_any _ _).mono ?_; rintro e w' ⟨rfl, rfl⟩)
    go_ret
    exact ⟨ret_int HC.out.symm, rfl⟩
  · have HC := Lib.hid (show cmpI x y = 1 by unfold cmpI; rw [if_neg (by omega), if_pos h])
    have h2 : decide (x < y) = false := decide_eq_false (by omega)
    go_enter Try.func57, Try.ntmps57
    go_wp2_with (go_at_call 92; refine (isNaN_any _ _).mono ?_; rintro e w' ⟨rfl, rfl⟩)
    go_ret
    exact ⟨ret_int HC.out.symm, rfl⟩

/-- What is cut off of a share. -/
def remS (t : Int) (ws : List Int) (S i : Int) : Int := (t * gI ws i.toNat) % S
def cmpS (t : Int) (ws : List Int) (S a b : Int) : Int := cmpI (remS t ws S b) (remS t ws S a)

set_option maxRecDepth 100000 in
set_option maxHeartbeats 2000000 in
theorem shareCmp_any (t S : Int) (ws : List Int) (vw : Value) (tb wb sb : Nat) (x y : Int) (w : World) (ht : w.cell? ⟨tb, 0, none⟩ = some (.int .i64 t)) (hw : w.cell? ⟨wb, 0, none⟩ = some vw) (hs : w.cell? ⟨sb, 0, none⟩ = some (.int .i64 S)) (hv : Ints w vw ws)
    (h1 : 0 ≤ t ∧ t ≤ 1000000000000) (h2 : 1 ≤ S ∧ S ≤ 1000000000000) (h3 : ∀ u ∈ ws, 0 ≤ u ∧ u ≤ 1000000) (hx : 0 ≤ x ∧ x < ws.length) (hy : 0 ≤ y ∧ y < ws.length) :
    Calls Try.prog 56 #[.int .i64 x, .int .i64 y, .pointer (some ⟨tb, 0, none⟩), .pointer (some ⟨wb, 0, none⟩), .pointer (some ⟨sb, 0, none⟩)] w fun e w' => e = .returned (.int .i64 (cmpS t ws S x y)) ∧ ∃ n, w' = w.drewN n := by
  have hbound : ∀ u, 0 ≤ u ∧ u ≤ 1000000 → 0 ≤ t * u ∧ t * u ≤ 1000000000000000000 := fun u hu => ⟨Int.mul_nonneg h1.1 hu.1, by
    have := Int.mul_le_mul h1.2 hu.2 hu.1 (by omega)
    simpa using this⟩
  obtain ⟨i, rfl⟩ := Int.eq_ofNat_of_zero_le hx.1
  obtain ⟨j, rfl⟩ := Int.eq_ofNat_of_zero_le hy.1
  have hi : i < ws.length := by omega
  have hj : j < ws.length := by omega
  have hl := hv.len
  obtain ⟨a, c, rfl, HV⟩ := hv.form
  obtain ⟨b, o, rfl, hc⟩ := HV.out.cells (by omega)
  have ci := hc i hi
  have cj := hc j hj
  have bi := hbound _ (h3 _ (List.getElem_mem hi))
  have bj := hbound _ (h3 _ (List.getElem_mem hj))
  have hR : cmpS t ws S i j = cmpI ((t * ws[j]) % S) ((t * ws[i]) % S) := by unfold cmpS remS; rw [Int.toNat_natCast, Int.toNat_natCast, gI_get hi, gI_get hj]
  obtain ⟨u, hu⟩ : ∃ u, u = ws[i] := ⟨_, rfl⟩
  obtain ⟨v, hvv⟩ : ∃ v, v = ws[j] := ⟨_, rfl⟩
  rw [← hu] at ci bi hR
  rw [← hvv] at cj bj hR
  have HR := Lib.hid hR
  have i1 : (0:Int) ≤ (i:Int) := by omega
  have i2 : (i:Int) < (ws.length:Int) := by omega
  have j1 : (0:Int) ≤ (j:Int) := by omega
  have j2 : (j:Int) < (ws.length:Int) := by omega
  have hS : (S == 0) = false := by simp; omega
  have hS2 : S ≠ 0 := by omega
  have wi : IntKind.i64.wrap (t * u) = t * u := i64_eq _ ⟨by omega, by omega⟩
  have wj : IntKind.i64.wrap (t * v) = t * v := i64_eq _ ⟨by omega, by omega⟩
  have tm : ∀ p : Int, 0 ≤ p → 0 ≤ p.tmod S ∧ p.tmod S < S := fun p hp => ⟨Int.tmod_nonneg S hp, Int.tmod_lt_of_pos p (by omega)⟩
  have ti := tm _ bi.1
  have tj := tm _ bj.1
  obtain ⟨p, hp⟩ : ∃ p, p = t * u := ⟨_, rfl⟩
  obtain ⟨q, hq⟩ : ∃ q, q = t * v := ⟨_, rfl⟩
  clear hu hvv hR hc hv h3 hbound tm hx hy
  go_enter Try.func56, Try.ntmps56
  go_upto_region 1 with (fail)
  go_quiet ((go_at_call 57; exact Calls.quiet_of_same (compare_any _ _ _)))
  go_wp2
  go_ret
  exact ⟨ret_int (by rw [HR.out]), _, rfl⟩

set_option maxRecDepth 100000 in
set_option maxHeartbeats 2000000 in
theorem stableCmp_small (g : Nat) (caps : Array Value) (cmp : Int → Int → Int) (P : Int → Prop) (xs : List Int) (n : Nat) (w : World) (hb : Blk w g (iA xs) 3) (hn : xs.length = n) (hn2 : n < 20) (hn1 : 1 ≤ n)
    (hP : ∀ x ∈ xs, P x) (hc : CmpOk w g caps cmp P) :
    Calls Try.prog 91 #[.slice (some ⟨g, 0, none⟩) n n, .int .i64 n, .func (.func 56) #[] caps] w fun e w' => e = .returned (.tuple #[]) ∧ Blk w' g (iA (insN cmp 0 (n - 1) xs)) 3 ∧ Only (fun k => k = g) w w' := by
  have HI := Lib.hid (insertion_any g caps cmp P xs n 0 n w hb hn (by omega) (Nat.zero_le _) (Nat.le_refl _) hP hc)
  clear hb hP hc
  have h19 : (n:Int) < 20 := by omega
  go_enter Try.func91, Try.ntmps91
  go_wp2
  go_loopw [7, 8] (fun a b wr => a = .int .i64 0 ∧ b = .int .i64 20 ∧ wr = w) (fun _ _ _ => 0)
  case atStart => exact ⟨rfl, rfl, rfl⟩
  case round =>
    obtain ⟨rfl, rfl, rfl⟩ := hrel
    go_wp2_with (
      go_at_call 114
      refine HI.out.mono ?_
      rintro e w' ⟨rfl, h1, h2⟩
      have H1 := Lib.hid h1
      have H2 := Lib.hid h2
      clear h1 h2)
    go_loopw [6] (fun a wq => a = .int .i64 20 ∧ wq = w') (fun _ _ => 0)
    case atStart => exact ⟨rfl, rfl⟩
    case round =>
      obtain ⟨rfl, rfl⟩ := hrel
      go_wp2
      go_end0
      exact ⟨rfl, H1.out, H2.out⟩
/-- The library's stable sort of fewer than twenty. -/
theorem stable_small (g : Nat) (caps : Array Value) (cmp : Int → Int → Int) (P : Int → Prop) (xs : List Int) (n : Nat) (w : World) (hb : Blk w g (iA xs) 3) (hn : xs.length = n) (hn2 : n < 20) (hn1 : 1 ≤ n)
    (hP : ∀ x ∈ xs, P x) (hc : CmpOk w g caps cmp P) :
    Calls Try.prog 55 #[.slice (some ⟨g, 0, none⟩) n n, .func (.func 56) #[] caps] w fun e w' => e = .returned (.tuple #[]) ∧ Blk w' g (iA (insN cmp 0 (n - 1) xs)) 3 ∧ Only (fun k => k = g) w w' := by
  have HI := Lib.hid (stableCmp_small g caps cmp P xs n w hb hn hn2 hn1 hP hc)
  clear hb hP hc
  go_enter Try.func55, Try.ntmps55
  go_wp2_with (
    go_at_call 91
    refine HI.out.mono ?_
    rintro e w' ⟨rfl, h1, h2⟩
    have H1 := Lib.hid h1
    have H2 := Lib.hid h2
    clear h1 h2)
  go_end0
  exact ⟨rfl, H1.out, H2.out⟩

set_option maxHeartbeats 1000000 in
theorem indexI_any (xs : List Int) (va : Value) (fid : Nat) (p : Int → Bool) (w : World) (ha : Ints w va xs) (hid : ∀ (a : Array Value) (w : World), (callFunc fid a).run Try.prog w = .ok (.enter fid a) w)
    (hf : ∀ x w1, Calls Try.prog fid #[.int .i64 x] w1 fun e w2 => e = .returned (.bool (p x)) ∧ w2 = w1) :
    Calls Try.prog 90 #[va, .func (.func fid) #[] #[]] w fun e w' => e = .returned (.int .i64 (fIdx p xs 0)) ∧ ∃ n, w' = w.drewN n := by
  have hx := ha.len
  obtain ⟨a, c, rfl, Ha⟩ := ha.form
  clear ha
  have HF := Lib.hid hf
  clear hf
  go_enter Try.func90, Try.ntmps90
  go_wp2
  go_loopw [8] (fun t wr => ∃ k : Nat, k ≤ xs.length ∧ t = .int .i64 k ∧ Hid (fIdx p xs 0 = fIdx p (xs.drop k) k) ∧ ∃ n, wr = w.drewN n) (fun t _ => xs.length - (intOf t).toNat)
  case atStart => exact ⟨0, Nat.zero_le _, rfl, rfl, 0, rfl⟩
  case round =>
    obtain ⟨k, hk, rfl, HR, n, rfl⟩ := hrel
    by_cases hlt : k < xs.length
    · obtain ⟨b1, o1, rfl, hc1⟩ := Ha.out.cells (by omega)
      have c1 := hc1 k hlt
      clear hc1
      have i1 : (0:Int) ≤ (k:Int) := by omega
      have i2 : (k:Int) < (xs.length:Int) := by omega
      have HC := Lib.hid (HF.out xs[k])
      have hd := HR.out
      rw [fIdx_drop p xs k hlt] at hd
      generalize xs[k] = x at *
      by_cases hp : p x = true
      · rw [if_pos hp] at hd
        have HE := Lib.hid hd
        have HP := Lib.hid hp
        clear hd hp
        go_wp2_with (refine (HC.out _).mono ?_; rintro e w2 ⟨rfl, rfl⟩; rw [HP.out])
        go_ret
        exact ⟨ret_int (by rw [HE.out]), _, rfl⟩
      · have hp' : p x = false := by simpa using hp
        rw [if_neg hp] at hd
        have HE := Lib.hid hd
        have HP := Lib.hid hp'
        clear hp hd hp'
        go_wp2_with (refine (HC.out _).mono ?_; rintro e w2 ⟨rfl, rfl⟩; rw [HP.out])
        go_roundw
        case rel => exact ⟨k+1, by omega, by go_num, HE, _, rfl⟩
        case measure => simp [intOf]; omega
    · have hd := HR.out
      rw [fIdx_end p xs k (by omega)] at hd
      have HE := Lib.hid hd
      clear hd
      go_wp2_with fail
      go_ret
      exact ⟨ret_int (by rw [HE.out]), _, rfl⟩
theorem containsI_any (xs : List Int) (va : Value) (fid : Nat) (p : Int → Bool) (w : World) (ha : Ints w va xs) (hid : ∀ (a : Array Value) (w : World), (callFunc fid a).run Try.prog w = .ok (.enter fid a) w)
    (hf : ∀ x w1, Calls Try.prog fid #[.int .i64 x] w1 fun e w2 => e = .returned (.bool (p x)) ∧ w2 = w1) :
    Calls Try.prog 53 #[va, .func (.func fid) #[] #[]] w fun e w' => e = .returned (.bool (xs.any p)) ∧ ∃ n, w' = w.drewN n := by
  have HC := Lib.hid (indexI_any xs va fid p w ha hid hf)
  have HE := Lib.hid (fIdx_any p xs 0)
  clear ha hid hf
  go_enter Try.func53, Try.ntmps53
  go_wp2_with (refine HC.out.mono ?_; rintro e w2 ⟨rfl, n, rfl⟩)
  go_ret
  exact ⟨ret_bool (by rw [← HE.out]), _, rfl⟩
theorem badW_any (x : Int) (w : World) : Calls Try.prog 54 #[.int .i64 x] w fun e w' => e = .returned (.bool (!nIn x 0 1000000)) ∧ w' = w := by
  go_enter Try.func54, Try.ntmps54
  go_wp2_with (go_at_call 52; refine (in_any _ _ _ _).mono ?_; rintro e w' ⟨rfl, rfl⟩)
  go_ret
  exact ⟨rfl, rfl⟩
theorem badN_any (x : Int) (w : World) : Calls Try.prog 58 #[.int .i64 x] w fun e w' => e = .returned (.bool (!nIn x (-1000000000) 1000000000)) ∧ w' = w := by
  go_enter Try.func58, Try.ntmps58
  go_wp2_with (go_at_call 52; refine (in_any _ _ _ _).mono ?_; rintro e w' ⟨rfl, rfl⟩)
  go_ret
  exact ⟨rfl, rfl⟩
end Go.Proofs.Ytekplfbfkfiabaa
