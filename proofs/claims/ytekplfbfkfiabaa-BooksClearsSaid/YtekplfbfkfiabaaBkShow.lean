/- Balance, Closed, Entries of the program; SameInts, CopyInts, Pick. -/
import Derived.Test.YtekplfbfkfiabaaBkBal
namespace Go.Proofs.Ytekplfbfkfiabaa
open Go.RowKit
set_option linter.unusedVariables false
set_option linter.unusedSimpArgs false

def balErr (d : LedD) (i day : Int) : Int := if 0 ≤ i ∧ i < d.n then (if 0 ≤ day ∧ day ≤ 100000 then 0 else 6) else 1
def balV (d : LedD) (i day : Int) : Int := if balErr d i day = 0 then balU i day d.ents else 0
set_option maxHeartbeats 2000000 in
theorem Balance_any (B lb : Nat) (d : LedD) (m : LMem) (i day : Int) (w : World) (h : LSt w B lb d m) (ok : LedOk d) :
    Calls Try.prog 28 #[.pointer (some ⟨lb, 0, none⟩), .int .i64 i, .int .i64 day] w fun e w' => e = .returned (.tuple #[.int .i64 (balV d i day), .int .i64 (balErr d i day)]) ∧ Ext w w' := by
  have hn := ok.n1
  unfold LedD.n at hn
  have c0 := h.c0
  have ca := h.ca
  obtain ⟨a, c, hva, _⟩ := h.row.form
  rw [hva] at ca
  have hb := balance_any B lb d m i day w h ok
  by_cases hi : 0 ≤ i ∧ i < d.n
  · have HT := Lib.hid (show nIn i 0 ((d.acc.length : Int) - 1) = true by rw [nIn_iff]; unfold LedD.n at hi; omega)
    by_cases hd : 0 ≤ day ∧ day ≤ 100000
    · have HE := Lib.hid (show balErr d i day = 0 by unfold balErr; rw [if_pos hi, if_pos hd])
      have HV := Lib.hid (show balV d i day = balU i day d.ents by unfold balV; rw [if_pos HE.out])
      have HD := Lib.hid hd
      have HB := Lib.hid hb
      clear hb
      clear h ok hi hd hva
      go_enter Try.func28, Try.ntmps28
      go_wp2_with (first
        | (go_at_call 66; refine (none_any lb m.ab _ c0).mono ?_; rintro e w' ⟨rfl, rfl⟩)
        | (go_at_call 67; refine (there_any m.ab a d.acc.length c i _ (by omega) ca).mono ?_; rintro e w' ⟨rfl, rfl⟩; rw [HT.out])
        | (go_at_call 52; refine (in_true _ _ _ _ HD.out).mono ?_; rintro e w' ⟨rfl, rfl⟩)
        | (go_at_call 68; refine HB.out.mono ?_; rintro e w' ⟨rfl, hx⟩))
      go_ret2
      exact ⟨by rw [HE.out, HV.out]; rfl, hx⟩
    · have HE := Lib.hid (show balErr d i day = 6 by unfold balErr; rw [if_pos hi, if_neg hd])
      have HV := Lib.hid (show balV d i day = 0 by unfold balV; rw [if_neg (by rw [HE.out]; decide)])
      have HD := Lib.hid hd
      clear h ok hi hd hva hb
      go_enter Try.func28, Try.ntmps28
      go_wp2_with (first
        | (go_at_call 66; refine (none_any lb m.ab _ c0).mono ?_; rintro e w' ⟨rfl, rfl⟩)
        | (go_at_call 67; refine (there_any m.ab a d.acc.length c i _ (by omega) ca).mono ?_; rintro e w' ⟨rfl, rfl⟩; rw [HT.out])
        | (go_at_call 52; refine (in_false _ _ _ _ HD.out).mono ?_; rintro e w' ⟨rfl, rfl⟩))
      go_ret2
      exact ⟨by rw [HE.out, HV.out]; rfl, Below.refl _ _⟩
  · have HT := Lib.hid (show nIn i 0 ((d.acc.length : Int) - 1) = false by rw [Bool.eq_false_iff]; intro hh; rw [nIn_iff] at hh; unfold LedD.n at hi; omega)
    have HE := Lib.hid (show balErr d i day = 1 by unfold balErr; rw [if_neg hi])
    have HV := Lib.hid (show balV d i day = 0 by unfold balV; rw [if_neg (by rw [HE.out]; decide)])
    clear h ok hi hva hb
    go_enter Try.func28, Try.ntmps28
    go_wp2_with (first
      | (go_at_call 66; refine (none_any lb m.ab _ c0).mono ?_; rintro e w' ⟨rfl, rfl⟩)
      | (go_at_call 67; refine (there_any m.ab a d.acc.length c i _ (by omega) ca).mono ?_; rintro e w' ⟨rfl, rfl⟩; rw [HT.out]))
    go_ret2
    exact ⟨by rw [HE.out, HV.out]; rfl, Below.refl _ _⟩
theorem Closed_any (B lb : Nat) (d : LedD) (m : LMem) (w : World) (h : LSt w B lb d m) :
    Calls Try.prog 30 #[.pointer (some ⟨lb, 0, none⟩)] w fun e w' => e = .returned (.tuple #[.int .i64 d.closed, .int .i64 0]) ∧ Ext w w' := by
  have c0 := h.c0
  have c3 := h.c43
  clear h
  go_enter Try.func30, Try.ntmps30
  go_wp2_with (go_at_call 66; refine (none_any lb m.ab _ c0).mono ?_; rintro e w' ⟨rfl, rfl⟩)
  go_ret2
  exact ⟨rfl, Below.refl _ _⟩
theorem Entries_any (B lb : Nat) (d : LedD) (m : LMem) (w : World) (h : LSt w B lb d m) (ok : LedOk d) :
    Calls Try.prog 39 #[.pointer (some ⟨lb, 0, none⟩)] w fun e w' => ∃ v, e = .returned (.tuple #[v, .int .i64 0]) ∧ Ext w w' ∧ w'.ownsRow w.heap.size 76 5 v d.ents.length (d.ents.flatMap sigC) := by
  have c0 := h.c0
  have cl := h.c2
  have hl := ok.len
  have hc := cloneS_any d.ents m.ve w (h.sig ok.len) (by omega)
  clear h ok
  generalize m.ve = ve at *
  have HC := Lib.hid hc
  clear hc
  go_enter Try.func39, Try.ntmps39
  go_wp2_with (first
    | (go_at_call 66; refine (none_any lb m.ab _ c0).mono ?_; rintro e w' ⟨rfl, rfl⟩)
    | (go_at_call 74
       refine HC.out.mono ?_
       rintro e w' ⟨v, rfl, hx, ho⟩
       have HX := Lib.hid hx
       have HO := Lib.hid ho
       clear hx ho))
  go_ret2
  exact ⟨_, rfl, HX.out, HO.out⟩
end Go.Proofs.Ytekplfbfkfiabaa
