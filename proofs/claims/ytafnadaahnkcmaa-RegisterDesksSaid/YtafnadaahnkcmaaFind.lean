/- BinarySearch at []int; find's closure; find; right. -/
import Derived.Test.YtafnadaahnkcmaaFuncs
namespace Go.Proofs.Ytafnadaahnkcmaa
open Go.RowKit
set_option linter.unusedVariables false

def Inc (xs : List Int) : Prop := ∀ i j (h : i < j) (hj : j < xs.length), xs[i]'(by omega) < xs[j]

/-- The first index from which on the numbers are not less. -/
def Cutp (xs : List Int) (t : Int) (i : Nat) : Prop := i ≤ xs.length ∧ (∀ a (h : a < xs.length), a < i → xs[a] < t) ∧ (∀ a (h : a < xs.length), i ≤ a → t ≤ xs[a])

theorem Cutp.fnd_eq {xs : List Int} {t hi : Int} {i : Nat} (h : Cutp xs t i) (hinc : Inc xs) : fnd xs t hi = if hlt : i < xs.length then (if xs[i] ≤ hi then xs[i] else 1000000000) else 1000000000 := by
  obtain ⟨h1, h2, h3⟩ := h
  have key : ∀ k, k ≤ i → fnd xs t hi = fnd (xs.drop k) t hi := by
    intro k
    induction k with
    | zero => intro _; rfl
    | succ k ih =>
      intro hk
      rw [ih (by omega), fnd_miss xs t hi k (by omega) (fun hh => by have := h2 k (by omega) (by omega); omega)]
  rw [key i (Nat.le_refl _)]
  by_cases hlt : i < xs.length
  · rw [dif_pos hlt]
    by_cases hle : xs[i] ≤ hi
    · rw [if_pos hle, fnd_hit xs t hi i hlt (h3 i hlt (Nat.le_refl _)) hle]
    · rw [if_neg hle]
      have key2 : ∀ d k, xs.length - k = d → i ≤ k → fnd (xs.drop k) t hi = 1000000000 := by
        intro d
        induction d with
        | zero => intro k hk hik; exact fnd_end xs t hi k (by omega)
        | succ d ih =>
          intro k hk hik
          have hkl : k < xs.length := by omega
          rw [fnd_miss xs t hi k hkl ?_, ih (k + 1) (by omega) (by omega)]
          rintro ⟨_, hh⟩
          rcases Nat.lt_or_ge i k with hh2 | hh2
          · have := hinc i k hh2 hkl; omega
          · have : i = k := by omega
            subst this; omega
      exact key2 _ i rfl (Nat.le_refl _)
  · rw [dif_neg hlt]; exact fnd_end xs t hi i (by omega)

def BsPost (xs : List Int) (t : Int) (w : World) (e : Ending) (w' : World) : Prop :=
  ∃ i b, e = .returned (.tuple #[.int .i64 (i : Nat), .bool b]) ∧ Cutp xs t i ∧ w = w'

theorem less_any (a b : Int) (w : World) : Calls Try.prog 61 #[.int .i64 a, .int .i64 b] w fun e w' => e = .returned (.bool (decide (a < b))) ∧ w = w' := by
  have h1 : (a != a) = false := by simp
  have h2 : (b != b) = false := by simp
  go_enter Try.func61, Try.ntmps61
  go_wp2
  all_goals (go_ret; exact ⟨ret_bool (by simp), rfl⟩)

theorem bsearch_any (xs : List Int) (t : Int) (va : Value) (w : World) (ha : Ints w va xs) (hinc : Inc xs) (hlen : xs.length ≤ 1000000) :
    Calls Try.prog 57 #[va, .int .i64 t] w (BsPost xs t w) := by
  obtain ⟨a, c, rfl, Ha⟩ := ha.form
  clear ha
  have HI := Lib.hid hinc
  clear hinc
  go_enter Try.func57, Try.ntmps57
  go_wp2
  go_loop [7, 8] (fun t1 t2 => ∃ i j : Nat, i ≤ j ∧ j ≤ xs.length ∧ t1 = .int .i64 i ∧ t2 = .int .i64 j ∧ Hid ((∀ a (h : a < xs.length), a < i → xs[a] < t) ∧ (∀ a (h : a < xs.length), j ≤ a → t ≤ xs[a]))) (fun t1 t2 => (intOf t2).toNat - (intOf t1).toNat)
  case atStart => exact ⟨0, xs.length, Nat.zero_le _, Nat.le_refl _, rfl, rfl, fun a h h2 => by omega, fun a h h2 => by omega⟩
  case round =>
    obtain ⟨i, j, hij, hj, rfl, rfl, HR⟩ := hrel
    by_cases hlt : i < j
    · have hh : (i + j) / 2 < xs.length := by omega
      obtain ⟨b1, o1, rfl, hc1⟩ := Ha.out.cells (by omega)
      have c1 := hc1 ((i + j) / 2) hh
      clear hc1
      have m1 : i ≤ (i + j) / 2 := by omega
      have m2 : (i + j) / 2 < j := by omega
      by_cases hle : xs[(i + j) / 2] < t
      · have hd : decide (xs[(i + j) / 2] < t) = true := by simp [hle]
        have HN : Hid ((∀ a (h : a < xs.length), a < (i + j) / 2 + 1 → xs[a] < t) ∧ (∀ a (h : a < xs.length), j ≤ a → t ≤ xs[a])) := by
          refine ⟨fun a h h2 => ?_, HR.out.2⟩
          rcases Nat.lt_or_ge a ((i + j) / 2) with h3 | h3
          · have := HI.out a ((i + j) / 2) h3 hh; omega
          · obtain rfl : a = (i + j) / 2 := by omega
            exact hle
        clear hle
        go_wp2_with (go_at_call 61; refine (less_any _ _ _).mono ?_; rintro e w' ⟨rfl, rfl⟩; rw [hd])
        go_round
        case rel => exact ⟨(i + j) / 2 + 1, j, by omega, hj, by go_num, rfl, HN⟩
        case measure => simp [intOf]; omega
      · have hd : decide (xs[(i + j) / 2] < t) = false := by simp; omega
        have HN : Hid ((∀ a (h : a < xs.length), a < i → xs[a] < t) ∧ (∀ a (h : a < xs.length), (i + j) / 2 ≤ a → t ≤ xs[a])) := by
          refine ⟨HR.out.1, fun a h h2 => ?_⟩
          rcases Nat.lt_or_ge ((i + j) / 2) a with h3 | h3
          · have := HI.out ((i + j) / 2) a h3 h; omega
          · obtain rfl : a = (i + j) / 2 := by omega
            omega
        clear hle
        go_wp2_with (go_at_call 61; refine (less_any _ _ _).mono ?_; rintro e w' ⟨rfl, rfl⟩; rw [hd])
        go_round
        case rel => exact ⟨i, (i + j) / 2, by omega, by omega, rfl, by go_num, HN⟩
        case measure => simp [intOf]; omega
    · have hij' : i = j := by omega
      subst hij'
      have HC : Hid (Cutp xs t i) := ⟨hj, HR.out.1, HR.out.2⟩
      by_cases hi : i < xs.length
      · obtain ⟨b1, o1, rfl, hc1⟩ := Ha.out.cells (by omega)
        have c1 := hc1 i hi
        have i1 : (0:Int) ≤ (i:Int) := by omega
        have i2 : (i:Int) < (xs.length:Int) := by omega
        clear hc1
        have hnn : (xs[i] != xs[i]) = false := by simp
        by_cases he : xs[i] = t
        · have he' : (xs[i] == t) = true := by simp [he]
          go_wp2
          go_ret2
          exact ⟨i, true, rfl, HC.out, rfl⟩
        · have he' : (xs[i] == t) = false := by simp [he]
          clear he
          go_wp2
          go_ret2
          exact ⟨i, false, rfl, HC.out, rfl⟩
      · go_wp2
        go_ret2
        exact ⟨i, false, rfl, HC.out, rfl⟩

theorem findC_any (seen : List Int) (a : Option Addr) (c sb mb : Nat) (from_ win : Int) (w : World) (hs : w.cell? ⟨sb, 0, none⟩ = some (.slice a seen.length c)) (hm : w.cell? ⟨mb, 1, none⟩ = some (.int .i64 win))
    (ha : Ints w (.slice a seen.length c) seen) (hinc : Inc seen) (hlen : seen.length ≤ 1000000) (hf : -1000000 ≤ from_ ∧ from_ ≤ 1000000) (hw : 0 ≤ win ∧ win ≤ 5000) :
    Calls Try.prog 56 #[.int .i64 from_, .pointer (some ⟨sb, 0, none⟩), .pointer (some ⟨mb, 0, none⟩)] w fun e w' => e = .returned (.int .i64 (fnd seen from_ (from_ + 2 * win))) ∧ ∃ n, w' = w.drewN n := by
  obtain ⟨f1, f2⟩ := hf
  obtain ⟨v1, v2⟩ := hw
  have Ha := Lib.hid ha
  have HI := Lib.hid hinc
  have HB := Lib.hid (bsearch_any seen from_ _ w ha hinc hlen)
  clear ha hinc
  go_enter Try.func56, Try.ntmps56
  go_wp2_with (go_at_call 57; refine HB.out.mono ?_; rintro e w' ⟨i, b, rfl, hcut, rfl⟩
               have HC := Lib.hid hcut
               have hfn := Lib.hid (hcut.fnd_eq (hi := from_ + 2 * win) HI.out)
               clear hcut)
  have g1 : IntKind.i64.wrap (2 * win) = 2 * win := i64_eq _ (by omega)
  have g2 : IntKind.i64.wrap (from_ + 2 * win) = from_ + 2 * win := i64_eq _ (by omega)
  by_cases hi : i < seen.length
  · obtain ⟨b1, o1, rfl, hc1⟩ := Ha.out.cells (by omega)
    have c1 := hc1 i hi
    have i1 : (0:Int) ≤ (i:Int) := by omega
    have i2 : (i:Int) < (seen.length:Int) := by omega
    clear hc1
    go_quiet (fail)
    clear g1 g2
    by_cases hle : seen[i] ≤ from_ + 2 * win
    · have hv : fnd seen from_ (from_ + 2 * win) = seen[i] := by rw [hfn.out, dif_pos hi, if_pos hle]
      have HV := Lib.hid hv
      clear hv hfn
      go_wp2
      go_ret
      exact ⟨ret_int (by rw [HV.out]), nq, rfl⟩
    · have hv : fnd seen from_ (from_ + 2 * win) = 1000000000 := by rw [hfn.out, dif_pos hi, if_neg hle]
      have HV := Lib.hid hv
      clear hv hfn
      go_wp2
      go_ret
      exact ⟨ret_int (by rw [HV.out]), nq, rfl⟩
  · have hd : decide ((i:Int) < (seen.length:Int)) = false := by simp; omega
    have hd2 : decide (i < seen.length) = false := by simp; omega
    have hv : fnd seen from_ (from_ + 2 * win) = 1000000000 := by rw [hfn.out, dif_neg hi]
    have HV := Lib.hid hv
    clear hv hfn
    go_quiet (fail)
    clear g1 g2
    go_wp2
    go_ret
    exact ⟨ret_int (by rw [HV.out]), nq, rfl⟩

/-- A pattern with its window that is allowed. -/
def GoodP (pat : List Int) (win : Int) : Prop := (0 ≤ win ∧ win ≤ 5000) ∧ ∀ j (h : j < pat.length), 0 ≤ pat[j] ∧ pat[j] ≤ 100000 ∧ (∀ h0 : 0 < j, pat[j-1]'(by omega) + 4 * win < pat[j])

/-- What a shift finds. -/
def fitL (pat seen : List Int) (win shift : Int) : List Int := pat.map fun p => fnd seen (p + shift - win) (p + shift + win)
def cntL (l : List Int) : Int := (l.filter (· != 1000000000)).length

end Go.Proofs.Ytafnadaahnkcmaa
