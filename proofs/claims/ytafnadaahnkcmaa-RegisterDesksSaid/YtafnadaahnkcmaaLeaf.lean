/- The small functions: in, Pick, beyond, Check, SameInts. -/
import Derived.Test.YtafnadaahnkcmaaBase
namespace Go.Proofs.Ytafnadaahnkcmaa
open Go.RowKit
set_option linter.unusedVariables false

def inB (n l m : Int) : Bool := decide (l ≤ n) && decide (n ≤ m)
theorem inB_iff (n l m : Int) : inB n l m = true ↔ l ≤ n ∧ n ≤ m := by simp [inB]

theorem in_any (n l m : Int) (w : World) :
    Calls Try.prog 31 #[.int .i64 n, .int .i64 l, .int .i64 m] w fun e w' => e = .returned (.bool (inB n l m)) ∧ w = w' := by
  go_enter Try.func31, Try.ntmps31
  go_wp2
  · go_ret; exact ⟨ret_bool (by simp [inB, *]), rfl⟩
  · go_ret; exact ⟨ret_bool (by simp [inB]; omega), rfl⟩


theorem tmod_facts (x n : Int) (h : 1 ≤ n) : -n < x.tmod n ∧ x.tmod n < n ∧ (x.tmod n < 0 → x % n = x.tmod n + n) ∧ (0 ≤ x.tmod n → x % n = x.tmod n) := by
  have h1 := Int.lt_tmod_of_pos x (show 0 < n by omega)
  have h2 := Int.tmod_lt_of_pos x (show 0 < n by omega)
  have h3 : x % n = x - n * (x / n) := Int.emod_def x n
  have h4 : x.tmod n = x - n * (x.tdiv n) := Int.tmod_def x n
  have h5 := Int.emod_nonneg x (show n ≠ 0 by omega)
  have h6 := Int.emod_lt_of_pos x (show 0 < n by omega)
  refine ⟨by omega, h2, fun hh => ?_, fun hh => ?_⟩
  · have : x % n = (x.tmod n + n) % n := by rw [h4]; simp [Int.sub_emod]
    rw [this, Int.emod_eq_of_lt (by omega) (by omega)]
  · have : x % n = (x.tmod n) % n := by rw [h4]; simp [Int.sub_emod]
    rw [this, Int.emod_eq_of_lt (by omega) (by omega)]

/-- foldhousekit.Pick. -/
def pick (x n : Int) : Int := if n < 1 then 0 else x % n
theorem pick_pos (x n : Int) (h : 1 ≤ n) : 0 ≤ pick x n ∧ pick x n < n := by
  unfold pick; rw [if_neg (by omega)]
  exact ⟨Int.emod_nonneg x (by omega), Int.emod_lt_of_pos x (by omega)⟩

theorem pick_any (x n : Int) (w : World) (hx : I64 x) (hn : I64 n) :
    Calls Try.prog 19 #[.int .i64 x, .int .i64 n] w fun e w' => e = .returned (.int .i64 (pick x n)) ∧ w = w' := by
  obtain ⟨hx1, hx2⟩ := hx
  obtain ⟨hn1, hn2⟩ := hn
  by_cases h1 : n < 1
  · go_enter Try.func19, Try.ntmps19
    go_wp2
    go_ret; exact ⟨ret_int (by simp [pick, h1]), rfl⟩
  · obtain ⟨t1, t2, t3, t4⟩ := tmod_facts x n (by omega)
    have T3 := Lib.hid t3
    have T4 := Lib.hid t4
    clear t3 t4
    have hp : pick x n = x % n := by simp [pick, h1]
    have HP := Lib.hid hp
    clear hp
    go_enter Try.func19, Try.ntmps19
    go_wp2
    · go_ret; exact ⟨ret_int (by have := T3.out (by assumption); rw [HP.out, this]), rfl⟩
    · go_ret; exact ⟨ret_int (by have := T4.out (by assumption); rw [HP.out, this]), rfl⟩

/-- ref05.beyond -/
theorem rbeyond_any (n m : Int) (w : World) (hm : 0 ≤ m ∧ m ≤ 9223372036854775807) :
    Calls Try.prog 47 #[.int .i64 n, .int .i64 m] w fun e w' => e = .returned (.bool (!inB n (-m) m)) ∧ w = w' := by
  obtain ⟨h1, h2⟩ := hm
  by_cases h : m < n
  · go_enter Try.func47, Try.ntmps47
    go_wp2
    go_ret; exact ⟨ret_bool (by simp [inB]; omega), rfl⟩
  · by_cases h' : n < -m
    · go_enter Try.func47, Try.ntmps47
      go_wp2
      go_ret; exact ⟨ret_bool (by simp [inB]; omega), rfl⟩
    · go_enter Try.func47, Try.ntmps47
      go_wp2
      go_ret; exact ⟨ret_bool (by simp [inB]; omega), rfl⟩

structure Loop where
  dead : Int
  noise : Int
  blur : Int
  step : Int

def Loop.val (l : Loop) : Value := .agg #[.int .i64 l.dead, .int .i64 l.noise, .int .i64 l.blur, .int .i64 l.step]
def Loop.Ok (l : Loop) : Prop := (0 ≤ l.dead ∧ l.dead ≤ 20) ∧ (0 ≤ l.noise ∧ l.noise ≤ 1000) ∧ (0 ≤ l.blur ∧ l.blur ≤ 1000) ∧ (l.noise + 2 * l.blur ≤ l.step ∧ 1 ≤ l.step ∧ l.step ≤ 10000)
instance (l : Loop) : Decidable l.Ok := by unfold Loop.Ok; infer_instance
def Loop.err (l : Loop) : Int := if l.Ok then 0 else 60

theorem in_true (n l m : Int) (w : World) (h : l ≤ n ∧ n ≤ m) :
    Calls Try.prog 31 #[.int .i64 n, .int .i64 l, .int .i64 m] w fun e w' => e = .returned (.bool true) ∧ w = w' :=
  (in_any n l m w).mono fun e w' ⟨he, hw⟩ => ⟨by rw [he, (inB_iff n l m).2 h], hw⟩
theorem in_false (n l m : Int) (w : World) (h : ¬ (l ≤ n ∧ n ≤ m)) :
    Calls Try.prog 31 #[.int .i64 n, .int .i64 l, .int .i64 m] w fun e w' => e = .returned (.bool false) ∧ w = w' :=
  (in_any n l m w).mono fun e w' ⟨he, hw⟩ => ⟨by rw [he]; exact ret_bool (by rw [Bool.eq_false_iff]; intro hh; exact h ((inB_iff n l m).1 hh)), hw⟩

theorem check_any (l : Loop) (w : World) :
    Calls Try.prog 36 #[l.val] w fun e w' => e = .returned (.int .i64 l.err) ∧ Ext w w' := by
  obtain ⟨d, n, b, s⟩ := l
  unfold Loop.val
  dsimp only
  have key : ∀ v, v = (⟨d, n, b, s⟩ : Loop).err → Calls Try.prog 36 #[.agg #[.int .i64 d, .int .i64 n, .int .i64 b, .int .i64 s]] w (fun e w' => e = .returned (.int .i64 v) ∧ Ext w w') →
      Calls Try.prog 36 #[.agg #[.int .i64 d, .int .i64 n, .int .i64 b, .int .i64 s]] w (fun e w' => e = .returned (.int .i64 (⟨d, n, b, s⟩ : Loop).err) ∧ Ext w w') := fun v hv h => by rw [← hv]; exact h
  by_cases h1 : 0 ≤ d ∧ d ≤ 20
  · by_cases h2 : 0 ≤ n ∧ n ≤ 1000
    · by_cases h3 : 0 ≤ b ∧ b ≤ 1000
      · by_cases h4 : 1 ≤ n + 2 * b
        · by_cases h5 : n + 2 * b ≤ s ∧ s ≤ 10000
          · refine key 0 (by simp [Loop.err, Loop.Ok]; omega) ?_
            go_enter Try.func36, Try.ntmps36
            go_wp2_with (go_at_call 31; refine (in_true _ _ _ _ (by omega)).mono ?_; rintro e w' ⟨rfl, rfl⟩)
            all_goals (go_ret; exact ⟨rfl, (Below.refl _ _).alloc (Nat.le_refl _) _⟩)
          · refine key 60 (by simp [Loop.err, Loop.Ok]; omega) ?_
            go_enter Try.func36, Try.ntmps36
            go_wp2_with (first | (go_at_call 31; refine (in_true _ _ _ _ (by omega)).mono ?_; rintro e w' ⟨rfl, rfl⟩) | (go_at_call 31; refine (in_false _ _ _ _ (by omega)).mono ?_; rintro e w' ⟨rfl, rfl⟩))
            all_goals (go_ret; exact ⟨rfl, (Below.refl _ _).alloc (Nat.le_refl _) _⟩)
        · by_cases h5 : 1 ≤ s ∧ s ≤ 10000
          · refine key 0 (by simp [Loop.err, Loop.Ok]; omega) ?_
            go_enter Try.func36, Try.ntmps36
            go_wp2_with (first | (go_at_call 31; refine (in_true _ _ _ _ (by omega)).mono ?_; rintro e w' ⟨rfl, rfl⟩) | (go_at_call 31; refine (in_false _ _ _ _ (by omega)).mono ?_; rintro e w' ⟨rfl, rfl⟩))
            all_goals (go_ret; exact ⟨rfl, (Below.refl _ _).alloc (Nat.le_refl _) _⟩)
          · refine key 60 (by simp [Loop.err, Loop.Ok]; omega) ?_
            go_enter Try.func36, Try.ntmps36
            go_wp2_with (first | (go_at_call 31; refine (in_true _ _ _ _ (by omega)).mono ?_; rintro e w' ⟨rfl, rfl⟩) | (go_at_call 31; refine (in_false _ _ _ _ (by omega)).mono ?_; rintro e w' ⟨rfl, rfl⟩))
            all_goals (go_ret; exact ⟨rfl, (Below.refl _ _).alloc (Nat.le_refl _) _⟩)
      · refine key 60 (by simp [Loop.err, Loop.Ok]; omega) ?_
        go_enter Try.func36, Try.ntmps36
        go_wp2_with (first | (go_at_call 31; refine (in_true _ _ _ _ (by omega)).mono ?_; rintro e w' ⟨rfl, rfl⟩) | (go_at_call 31; refine (in_false _ _ _ _ (by omega)).mono ?_; rintro e w' ⟨rfl, rfl⟩))
        all_goals (go_ret; exact ⟨rfl, (Below.refl _ _).alloc (Nat.le_refl _) _⟩)
    · refine key 60 (by simp [Loop.err, Loop.Ok]; omega) ?_
      go_enter Try.func36, Try.ntmps36
      go_wp2_with (first | (go_at_call 31; refine (in_true _ _ _ _ (by omega)).mono ?_; rintro e w' ⟨rfl, rfl⟩) | (go_at_call 31; refine (in_false _ _ _ _ (by omega)).mono ?_; rintro e w' ⟨rfl, rfl⟩))
      all_goals (go_ret; exact ⟨rfl, (Below.refl _ _).alloc (Nat.le_refl _) _⟩)
  · refine key 60 (by simp [Loop.err, Loop.Ok]; omega) ?_
    go_enter Try.func36, Try.ntmps36
    go_wp2_with (first | (go_at_call 31; refine (in_true _ _ _ _ (by omega)).mono ?_; rintro e w' ⟨rfl, rfl⟩) | (go_at_call 31; refine (in_false _ _ _ _ (by omega)).mono ?_; rintro e w' ⟨rfl, rfl⟩))
    all_goals (go_ret; exact ⟨rfl, (Below.refl _ _).alloc (Nat.le_refl _) _⟩)

/-- register.Bound -/
theorem bound_bad (l : Loop) (w : World) (h : ¬ l.Ok) :
    Calls Try.prog 15 #[l.val] w fun e w' => e = .returned (.tuple #[.int .i64 0, .int .i64 60]) ∧ Ext w w' := by
  obtain ⟨d, n, b, s⟩ := l
  have hv : (⟨d, n, b, s⟩ : Loop).err = 60 := by simp [Loop.err, h]
  have HV := Lib.hid hv
  clear hv h
  unfold Loop.val
  dsimp only
  go_enter Try.func15, Try.ntmps15
  go_wp2_with (go_at_call 36; refine (check_any ⟨d, n, b, s⟩ _).mono ?_; rintro e w1 ⟨rfl, hb⟩; rw [HV.out])
  go_ret2
  exact ⟨rfl, ((Below.refl _ _).alloc (Nat.le_refl _) _).trans (hb.mono (by simp))⟩

theorem bound_ok (l : Loop) (w : World) (h : l.Ok) :
    Calls Try.prog 15 #[l.val] w fun e w' => e = .returned (.tuple #[.int .i64 ((l.dead + 1) * l.noise + l.blur), .int .i64 0]) ∧ Ext w w' := by
  obtain ⟨d, n, b, s⟩ := l
  have hv : (⟨d, n, b, s⟩ : Loop).err = 0 := by simp [Loop.err, h]
  have HV := Lib.hid hv
  unfold Loop.Ok at h
  unfold Loop.val
  dsimp only at h ⊢
  obtain ⟨⟨a1, a2⟩, ⟨a3, a4⟩, ⟨a5, a6⟩, a7, a8, a9⟩ := h
  have hm1 : 0 ≤ (d + 1) * n := Int.mul_nonneg (by omega) (by omega)
  have hm2 : (d + 1) * n ≤ 21 * 1000 := Int.mul_le_mul (by omega) (by omega) (by omega) (by omega)
  clear hv
  go_enter Try.func15, Try.ntmps15
  go_wp2_with (go_at_call 36; refine (check_any ⟨d, n, b, s⟩ _).mono ?_; rintro e w1 ⟨rfl, hb⟩; rw [HV.out]; have hc := hb.cell (p := ⟨w.heap.size, 0, none⟩) (by simp); have hc1 := hb.cell (p := ⟨w.heap.size, 1, none⟩) (by simp); have hc2 := hb.cell (p := ⟨w.heap.size, 2, none⟩) (by simp))
  go_ret2
  exact ⟨rfl, ((Below.refl _ _).alloc (Nat.le_refl _) _).trans (hb.mono (by simp))⟩
end Go.Proofs.Ytafnadaahnkcmaa
