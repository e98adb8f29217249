/- Leaves of the books: in, RotateLeft64, Step (of both), IndexFunc and ContainsFunc at accounts, loss, Check. -/
import Derived.Test.YtekplfbfkfiabaaPlainBk
import Derived.Test.YtekplfbfkfiabaaStIn
import Derived.Laws.Bits64b
namespace Go.Proofs.Ytekplfbfkfiabaa
open Go.RowKit
set_option linter.unusedVariables false
set_option linter.unusedSimpArgs false

theorem in_any (n l m : Int) (w : World) :
    Calls Try.prog 52 #[.int .i64 n, .int .i64 l, .int .i64 m] w fun e w' => e = .returned (.bool (nIn n l m)) ∧ w = w' := by
  go_enter Try.func52, Try.ntmps52
  go_wp2
  · go_ret; exact ⟨ret_bool (by simp [nIn, *]), rfl⟩
  · go_ret; exact ⟨ret_bool (by simp [nIn]; omega), rfl⟩
theorem in_true (n l m : Int) (w : World) (h : l ≤ n ∧ n ≤ m) :
    Calls Try.prog 52 #[.int .i64 n, .int .i64 l, .int .i64 m] w fun e w' => e = .returned (.bool true) ∧ w = w' :=
  (in_any n l m w).mono fun e w' ⟨he, hw⟩ => ⟨by rw [he, (nIn_iff n l m).2 h], hw⟩
theorem in_false (n l m : Int) (w : World) (h : ¬ (l ≤ n ∧ n ≤ m)) :
    Calls Try.prog 52 #[.int .i64 n, .int .i64 l, .int .i64 m] w fun e w' => e = .returned (.bool false) ∧ w = w' :=
  (in_any n l m w).mono fun e w' ⟨he, hw⟩ => ⟨by rw [he]; exact ret_bool (by rw [Bool.eq_false_iff]; intro hh; exact h ((nIn_iff n l m).1 hh)), hw⟩

theorem or_rot (x : Int) (h : U64 x) : bits .or .u64 (IntKind.u64.wrap (x * 536870912)) (x / 34359738368) = IntKind.u64.wrap (x * 536870912) + x / 34359738368 := by
  unfold U64 at h
  have hc : ∀ a b : Int, bits .or .u64 a b = bits .or .u64 b a := fun a b => by simp only [bits, BitVec.or_comm]
  have hw : IntKind.u64.wrap (x * 536870912) = x * 536870912 % 18446744073709551616 := by rw [IntKind.wrap_u64]
  rw [hc, hw]
  rw [bits_join_low .u64 64 (by decide) wraps_u64 29 (x / 34359738368) (x * 536870912 % 18446744073709551616) (by omega) (by omega) (by omega) (by omega) (by omega) (by omega)]
  omega

theorem rotate_any (x : Int) (h : U64 x) (w : World) :
    Calls Try.prog 73 #[.int .u64 x, .int .i64 29] w fun e w' => e = .returned (.int .u64 (IntKind.u64.wrap (x * 536870912) + x / 34359738368)) ∧ w = w' := by
  have hr := or_rot x h
  have h63 : bits .and .u64 29 63 = 29 := by decide +kernel
  go_enter Try.func73, Try.ntmps73
  go_wp2
  go_ret
  exact ⟨rfl, rfl⟩
theorem step_any (h v : Int) (w : World) :
    Calls Try.prog 36 #[.int .u64 h, .int .u64 v] w fun e w' => e = .returned (.int .u64 (stepI h v)) ∧ w = w' := by
  have hr := fun w1 => rotate_any (IntKind.u64.wrap (bits .xor .u64 h v * 11507291218515648293)) (u64_wrap_range _) w1
  go_enter Try.func36, Try.ntmps36
  go_wp2_with (go_at_call 73; refine (hr _).mono ?_; rintro e w' ⟨rfl, rfl⟩)
  go_ret
  exact ⟨ret_int rfl, rfl⟩
theorem rstep_any (h v : Int) (w : World) :
    Calls Try.prog 37 #[.int .u64 h, .int .u64 v] w fun e w' => e = .returned (.int .u64 (stepI h v)) ∧ w = w' := by
  have hs : IntKind.u64.wrap (stepI h v) = stepI h v := u64_wrap_in _ (stepI_range h v)
  unfold stepI at hs ⊢
  dsimp only at hs ⊢
  have hm := u64_wrap_range (bits .xor .u64 h v * 11507291218515648293)
  go_enter Try.func37, Try.ntmps37
  go_wp2
  go_ret
  exact ⟨rfl, rfl⟩

def accC (x : AccD) : List Value := [.int .i64 x.good, .bool x.stock]
def accV (x : AccD) : Value := .agg #[.int .i64 x.good, .bool x.stock]
theorem accC_len (x : AccD) : (accC x).length = 2 := rfl
theorem accC_one (x : AccD) : ∀ v ∈ accC x, v.oneCell' = true := by intro v hv; simp [accC] at hv; rcases hv with rfl | rfl <;> rfl
def AccIn (w : World) (v : Value) (l : List AccD) : Prop := StIn 2 accC w v l
theorem AccIn.ext {w w' : World} {v : Value} {l : List AccD} (h : AccIn w v l) (k : Ext w w') : AccIn w' v l := StIn.ext accC_len h k
theorem AccIn.form {w : World} {v : Value} {l : List AccD} (h : AccIn w v l) : ∃ a c, v = .slice a l.length c ∧ Hid (AccIn w (.slice a l.length c) l) := StIn.form h
theorem AccIn.cells {w : World} {a : Option Addr} {n c : Nat} {l : List AccD} (h : AccIn w (.slice a n c) l) (h0 : 0 < l.length) :
    ∃ b o, a = some ⟨b, o, none⟩ ∧ ∀ i (h : i < l.length), w.cell? ⟨b, o + i * 2, none⟩ = some (.int .i64 l[i].good) ∧ w.cell? ⟨b, o + i * 2 + 1, none⟩ = some (.bool l[i].stock) := by
  obtain ⟨b, o, h1, h2⟩ := StIn.cells h h0
  exact ⟨b, o, h1, fun i hi => ⟨h2 i hi 0 (by omega), h2 i hi 1 (by omega)⟩⟩
theorem AccIn.len {w : World} {v : Value} {l : List AccD} (h : AccIn w v l) : l.length ≤ 9223372036854775807 := h.1

set_option maxHeartbeats 1000000 in
theorem indexA_any (xs : List AccD) (va : Value) (fid : Nat) (caps : Array Value) (p : AccD → Bool) (w : World) (ha : AccIn w va xs) (hid : ∀ (a : Array Value) (w : World), (callFunc fid a).run Try.prog w = .ok (.enter fid a) w)
    (hf : ∀ x ∈ xs, ∀ w1, Ext w w1 → Calls Try.prog fid (#[accV x] ++ caps) w1 fun e w2 => e = .returned (.bool (p x)) ∧ Ext w1 w2) :
    Calls Try.prog 94 #[va, .func (.func fid) #[] caps] w fun e w' => e = .returned (.int .i64 (fIdx p xs 0)) ∧ Ext w w' := by
  have hx := ha.len
  obtain ⟨a, c, rfl, Ha⟩ := ha.form
  clear ha
  have HF := Lib.hid hf
  clear hf
  go_enter Try.func94, Try.ntmps94
  go_wp2
  go_loopw [8] (fun t wr => ∃ k : Nat, k ≤ xs.length ∧ t = .int .i64 k ∧ Hid (fIdx p xs 0 = fIdx p (xs.drop k) k) ∧ Ext w wr) (fun t _ => xs.length - (intOf t).toNat)
  case atStart => exact ⟨0, Nat.zero_le _, rfl, rfl, Below.refl _ _⟩
  case round =>
    obtain ⟨k, hk, rfl, HR, hw⟩ := hrel
    by_cases hlt : k < xs.length
    · obtain ⟨b1, o1, rfl, hc1⟩ := Ha.out.cells (by omega)
      have c1 := hw.cellSome (hc1 k hlt).1
      have c2 := hw.cellSome (hc1 k hlt).2
      clear hc1
      have i1 : (0:Int) ≤ (k:Int) := by omega
      have i2 : (k:Int) < (xs.length:Int) := by omega
      have HC := Lib.hid (HF.out xs[k] (List.getElem_mem hlt) _ hw)
      have hd := HR.out
      rw [fIdx_drop p xs k hlt] at hd
      by_cases hp : p xs[k] = true
      · rw [if_pos hp] at hd
        have HE := Lib.hid hd
        clear hd
        go_wp2_with (refine HC.out.mono ?_; rintro e w2 ⟨rfl, hw2⟩)
        go_ret
        exact ⟨ret_int (by rw [HE.out]), hw.tr hw2⟩
      · have hp' : p xs[k] = false := by simpa using hp
        rw [if_neg hp] at hd
        have HE := Lib.hid hd
        clear hp hd
        go_wp2_with (refine HC.out.mono ?_; rintro e w2 ⟨rfl, hw2⟩)
        go_roundw
        case rel => exact ⟨k+1, by omega, by go_num, HE, hw.tr hw2⟩
        case measure => simp [intOf]; omega
    · have hd := HR.out
      rw [fIdx_end p xs k (by omega)] at hd
      have HE := Lib.hid hd
      clear hd
      go_wp2_with fail
      go_ret
      exact ⟨ret_int (by rw [HE.out]), hw⟩

theorem fIdx_any {α : Type} (p : α → Bool) (xs : List α) : ∀ k : Nat, decide (0 ≤ fIdx p xs k) = xs.any p := by
  induction xs with
  | nil => intro k; rfl
  | cons x xs ih =>
    intro k
    unfold fIdx
    by_cases h : p x = true
    · rw [if_pos h]; simp [h]
    · rw [if_neg h, ih (k + 1)]; simp [h]

theorem containsA_any (xs : List AccD) (va : Value) (fid : Nat) (caps : Array Value) (p : AccD → Bool) (w : World) (ha : AccIn w va xs) (hid : ∀ (a : Array Value) (w : World), (callFunc fid a).run Try.prog w = .ok (.enter fid a) w)
    (hf : ∀ x ∈ xs, ∀ w1, Ext w w1 → Calls Try.prog fid (#[accV x] ++ caps) w1 fun e w2 => e = .returned (.bool (p x)) ∧ Ext w1 w2) :
    Calls Try.prog 63 #[va, .func (.func fid) #[] caps] w fun e w' => e = .returned (.bool (xs.any p)) ∧ Ext w w' := by
  have HC := Lib.hid (indexA_any xs va fid caps p w ha hid hf)
  have HE := Lib.hid (fIdx_any p xs 0)
  clear ha hid hf
  go_enter Try.func63, Try.ntmps63
  go_wp2_with (refine HC.out.mono ?_; rintro e w2 ⟨rfl, hw2⟩)
  go_ret
  exact ⟨ret_bool (by rw [← HE.out]), hw2⟩

theorem lossC_any (x : AccD) (g : Int) (b : Nat) (w : World) (hc : w.cell? ⟨b, 0, none⟩ = some (.int .i64 g)) :
    Calls Try.prog 95 #[accV x, .pointer (some ⟨b, 0, none⟩)] w fun e w' => e = .returned (.bool (lossP g x)) ∧ Ext w w' := by
  obtain ⟨y, s⟩ := x
  unfold accV
  dsimp only
  go_enter Try.func95, Try.ntmps95
  go_wp2_with (
    with_reducible refine wpList_boxA (cs := #[.int .i64 y, .bool s]) rfl rfl rfl ?_
    rintro lb w1 hb1 hx1 hl1
    have c0 := hb1.cell
    have c1 := hx1.cellSome hc
    have HX := Lib.hid hx1
    clear hx1
    clear hb1 hl1 hc)
  · go_ret; exact ⟨ret_bool (by simp [lossP, *]), HX.out⟩
  · go_ret; exact ⟨ret_bool (by simp [lossP, *]), HX.out⟩

theorem loss_any (l : List AccD) (va : Value) (ab : Nat) (g : Int) (w : World) (hb : w.cell? ⟨ab, 0, none⟩ = some va) (ha : AccIn w va l) :
    Calls Try.prog 65 #[.pointer (some ⟨ab, 0, none⟩), .int .i64 g] w fun e w' => e = .returned (.int .i64 (lossI l g)) ∧ Ext w w' := by
  have hext : Ext w (w.alloc (.cells #[.int .i64 g] 3)) := (Below.refl _ _).alloc (Nat.le_refl _) _
  have HA := Lib.hid (indexA_any l va 95 #[.pointer (some ⟨w.heap.size, 0, none⟩)] (lossP g) (w.alloc (.cells #[.int .i64 g] 3)) (ha.ext hext)
    (fun a w => by simp [go_sem]) (fun x hx w1 hw1 => lossC_any x g w.heap.size w1 (hw1.cellSome (by simp))))
  have c0 := hext.cellSome hb
  clear ha hb
  go_enter Try.func65, Try.ntmps65
  go_wp2_with (refine HA.out.mono ?_; rintro e w2 ⟨rfl, hw2⟩)
  go_ret
  exact ⟨rfl, hext.tr hw2⟩

theorem badC_any (l : List AccD) (x : AccD) (va : Value) (b ab : Nat) (w : World) (hc : w.cell? ⟨b, 0, none⟩ = some (.pointer (some ⟨ab, 0, none⟩))) (hb : w.cell? ⟨ab, 0, none⟩ = some va) (ha : AccIn w va l) :
    Calls Try.prog 64 #[accV x, .pointer (some ⟨b, 0, none⟩)] w fun e w' => e = .returned (.bool (badP l x)) ∧ Ext w w' := by
  obtain ⟨y, s⟩ := x
  unfold accV
  dsimp only
  have HA := Lib.hid ha
  clear ha
  have H1 := Lib.hid (show badP l ⟨y, s⟩ = (!nIn y 1 4 || (s && decide (lossI l y < 0))) from rfl)
  rcases hn : nIn y 1 4 with _ | _ <;> rcases hs : s with _ | _ <;> (
    have hbp := H1.out
    rw [hn, hs] at hbp
    try subst hs
    have HN := Lib.hid hn
    have HBP := Lib.hid hbp
    clear hn hbp
    clear H1
    go_enter Try.func64, Try.ntmps64
    go_wp2_with (first
      | (with_reducible refine wpList_boxA (t := 85) rfl rfl rfl ?_
         rintro lb w1 hb1 hx1 hl1
         have c0 := hb1.cell
         have c1 := hx1.cellSome hc
         have c2 := hx1.cellSome hb
         replace HA := Lib.hid (HA.out.ext hx1)
         have HX := Lib.hid hx1
         clear hx1
         clear hb1 hl1 hc hb)
      | (go_at_call 52; refine (in_any _ _ _ _).mono ?_; rintro e w' ⟨rfl, rfl⟩; rw [HN.out])
      | (go_at_call 65
         refine (loss_any l va ab y _ c2 HA.out).mono ?_
         rintro e w2 ⟨rfl, hx2⟩
         have hx3 := HX.out.tr hx2
         clear HX HA c0 c1 c2
         have HX := Lib.hid hx3
         clear hx3
         clear hx2))
    all_goals (go_ret; exact ⟨ret_bool (by rw [HBP.out]; simp [*]), HX.out⟩))
end Go.Proofs.Ytekplfbfkfiabaa
