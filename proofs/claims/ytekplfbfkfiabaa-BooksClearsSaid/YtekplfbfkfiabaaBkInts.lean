/- Functions over integers that the statements share: Pick, CopyInts, SameInts, slices.Clone (proofs of the first seat's texts). -/
import Derived.Test.YtekplfbfkfiabaaBkLed
import Derived.Deep.QuietTactic
namespace Go.Proofs.Ytekplfbfkfiabaa
open Go.RowKit
set_option linter.unusedVariables false
set_option linter.unusedSimpArgs false

theorem tmod_facts (x n : Int) (h : 1 ≤ n) : -n < x.tmod n ∧ x.tmod n < n ∧ (x.tmod n < 0 → x % n = x.tmod n + n) ∧ (0 ≤ x.tmod n → x % n = x.tmod n) := by
  have h1 := Int.lt_tmod_of_pos x (show 0 < n by omega)
  have h2 := Int.tmod_lt_of_pos x (show 0 < n by omega)
  have h3 : x % n = x - n * (x / n) := Int.emod_def x n
  have h4 : x.tmod n = x - n * (x.tdiv n) := Int.tmod_def x n
  have h5 := Int.emod_nonneg x (show n ≠ 0 by omega)
  have h6 := Int.emod_lt_of_pos x (show 0 < n by omega)
  refine ⟨by omega, h2, fun hh => ?_, fun hh => ?_⟩
  · have : x % n = (x.tmod n + n) % n := by rw [h4]; simp [Int.sub_emod]
    rw [this, Int.emod_eq_of_lt (by omega) (by omega)]
  · have : x % n = (x.tmod n) % n := by rw [h4]; simp [Int.sub_emod]
    rw [this, Int.emod_eq_of_lt (by omega) (by omega)]

/-- foldhousekit.Pick. -/
def pick (x n : Int) : Int := if n < 1 then 0 else x % n
theorem pick_pos (x n : Int) (h : 1 ≤ n) : 0 ≤ pick x n ∧ pick x n < n := by
  unfold pick; rw [if_neg (by omega)]
  exact ⟨Int.emod_nonneg x (by omega), Int.emod_lt_of_pos x (by omega)⟩

theorem pick_any (x n : Int) (w : World) (hx : I64 x) (hn : I64 n) :
    Calls Try.prog 24 #[.int .i64 x, .int .i64 n] w fun e w' => e = .returned (.int .i64 (pick x n)) ∧ w = w' := by
  obtain ⟨hx1, hx2⟩ := hx
  obtain ⟨hn1, hn2⟩ := hn
  by_cases h1 : n < 1
  · go_enter Try.func24, Try.ntmps24
    go_wp2
    go_ret; exact ⟨ret_int (by simp [pick, h1]), rfl⟩
  · obtain ⟨t1, t2, t3, t4⟩ := tmod_facts x n (by omega)
    have T3 := Lib.hid t3
    have T4 := Lib.hid t4
    clear t3 t4
    have hp : pick x n = x % n := by simp [pick, h1]
    have HP := Lib.hid hp
    clear hp
    go_enter Try.func24, Try.ntmps24
    go_wp2
    · go_ret; exact ⟨ret_int (by have := T3.out (by assumption); rw [HP.out, this]), rfl⟩
    · go_ret; exact ⟨ret_int (by have := T4.out (by assumption); rw [HP.out, this]), rfl⟩

theorem tInts : SliceT Try.prog 22 3 (.int .i64 0) 1 8 := ⟨by kernel_rfl, by kernel_rfl, rfl, by decide, by decide⟩

theorem take_eq_step {xs ys : List Int} {k : Nat} (hx : k < xs.length) (hy : k < ys.length) (h : xs.take k = ys.take k) (e : xs[k] = ys[k]) : xs.take (k+1) = ys.take (k+1) := by
  rw [List.take_succ_eq_append_getElem hx, List.take_succ_eq_append_getElem hy, h, e]

theorem copyInts_any (xs : List Int) (va : Value) (w : World) (ha : Ints w va xs) (hb : xs.length ≤ 1000000) :
    Calls Try.prog 15 #[va] w fun e w' => ∃ v, e = .returned v ∧ Ext w w' ∧ w'.ownsRow w.heap.size 3 1 v xs.length (xs.map (.int .i64)) := by
  go_enter Try.func15, Try.ntmps15
  go_wp2_with (at_builtin; refine wpList_app tInts rfl rfl (v := .slice none 0 0) rfl (World.ownsRow_nil _ w.heap.size _ _) rfl ha.src (by simp [Value.oneCell']) (by simp; omega) (Nat.le_refl _) ?_; rintro v' w' h1 h2 h3)
  go_ret
  refine ⟨v', rfl, (Below.refl _ _).grown h2 (Nat.le_refl _) (by simp [Value.ownBlock]), by simpa using h1⟩

theorem sameInts_any (xs ys : List Int) (va vb : Value) (w : World) (ha : Ints w va xs) (hb : Ints w vb ys) :
    Calls Try.prog 18 #[va, vb] w fun e w' => e = .returned (.bool (decide (xs = ys))) ∧ ∃ n, w' = w.drewN n := by
  have hx := ha.len
  have hy := hb.len
  obtain ⟨a, c, rfl, Ha⟩ := ha.form
  obtain ⟨b, d, rfl, Hb⟩ := hb.form
  clear ha hb
  go_enter Try.func18, Try.ntmps18
  by_cases hl : xs.length = ys.length
  · have hl' : ((xs.length : Int) != (ys.length:Int)) = false := by simp [hl]
    have H := Lib.hid hl
    clear hl
    go_wp2
    go_loopw [5] (fun t wr => ∃ k : Nat, k ≤ xs.length ∧ t = .int .i64 k ∧ xs.take k = ys.take k ∧ ∃ n, wr = w.drewN n) (fun t _ => xs.length - (intOf t).toNat)
    case atStart => exact ⟨0, Nat.zero_le _, rfl, rfl, 0, rfl⟩
    case round =>
      obtain ⟨k, hk, rfl, hrel, n, rfl⟩ := hrel
      have HR := Lib.hid hrel
      clear hrel
      by_cases hlt : k < xs.length
      · have hlt2 : k < ys.length := by have := H.out; omega
        obtain ⟨b1, o1, rfl, hc1⟩ := Ha.out.cells (by omega)
        obtain ⟨b2, o2, rfl, hc2⟩ := Hb.out.cells (by omega)
        have c1 := hc1 k hlt
        have c2 := hc2 k hlt2
        clear hc1 hc2
        have i1 : (0:Int) ≤ (k:Int) := by omega
        have i2 : (k:Int) < (xs.length:Int) := by omega
        have i3 : (k:Int) < (ys.length:Int) := by omega
        go_wp2
        go_quiet (fail)
        by_cases he : xs[k] = ys[k]
        · have he' : (xs[k] != ys[k]) = false := by simp [he]
          have HE := Lib.hid (take_eq_step hlt hlt2 HR.out he)
          clear he
          go_wp2
          go_roundw
          case rel => exact ⟨k+1, by omega, by go_num, HE.out, _, rfl⟩
          case measure => simp [intOf]; omega
        · have he' : (xs[k] != ys[k]) = true := by simp [he]
          have HE : xs ≠ ys := fun h => by subst h; exact he rfl
          have hd : decide (xs = ys) = false := by simp [HE]
          clear he HE
          go_wp2
          go_ret
          exact ⟨by rw [hd]; rfl, n + nq, World.drewN_drewN ..⟩
      · have hd : decide (xs = ys) = true := by
          have := HR.out
          have hl := H.out
          rw [List.take_of_length_le (by omega), List.take_of_length_le (by omega)] at this
          simp [this]
        go_wp2
        go_ret
        exact ⟨by rw [hd]; rfl, _, rfl⟩
  · have hl' : ((xs.length : Int) != (ys.length:Int)) = true := by simp; omega
    have hd : decide (xs = ys) = false := by
      simp; intro h; subst h; exact hl rfl
    clear hl
    go_wp2
    go_ret
    exact ⟨by rw [hd]; rfl, 0, rfl⟩

set_option maxRecDepth 100000 in
set_option maxHeartbeats 1000000 in
theorem clone_any (xs : List Int) (va : Value) (w : World) (ha : Ints w va xs) (hb : xs.length ≤ 1000000) :
    Calls Try.prog 61 #[va] w fun e w' => ∃ v, e = .returned v ∧ Ext w w' ∧ w'.ownsRow w.heap.size 3 1 v xs.length (xs.map (.int .i64)) := by
  obtain ⟨a, c, rfl, Ha⟩ := ha.form
  clear ha
  have hnil := fun (w : World) (a : Option Addr) (n c : Nat) => Lib.run_eql_slice_nil (P := Try.prog) w 22 3 a n c 0 0 tInts.ht
  cases a with
  | none =>
    have hx : xs = [] := by
      rcases Nat.eq_zero_or_pos xs.length with h | h
      · exact List.eq_nil_of_length_eq_zero h
      · obtain ⟨b, o, h1, _⟩ := Ints.cells Ha.out h; cases h1
    subst hx
    go_enter Try.func61, Try.ntmps61
    go_wp2
    go_ret
    exact ⟨_, rfl, Below.refl _ _, World.ownsRow_nil _ _ _ _⟩
  | some ad =>
    go_enter Try.func61, Try.ntmps61
    go_wp2_with (
      at_builtin
      refine wpList_app tInts rfl rfl rfl (owns_empty w 3 1 _ rfl) rfl (Sl.src (Ints.ext Ha.out (ext_lit _ _ _))) (ints_oneCell .i64 _) (by rw [List.length_map]; omega) (by simp) ?_
      rintro v' w1 h1 h2 h3
      rw [List.length_map] at h1
      have hx := ext_grown (ext_lit w _ _) (owns_empty w 3 1 _ rfl) h2
      have H1 := Lib.hid h1
      have HX := Lib.hid hx
      clear h1 hx
      clear h2 h3)
    go_ret
    have h := H1.out
    rw [Nat.zero_add, List.nil_append] at h
    exact ⟨_, rfl, HX.out, h⟩

end Go.Proofs.Ytekplfbfkfiabaa
