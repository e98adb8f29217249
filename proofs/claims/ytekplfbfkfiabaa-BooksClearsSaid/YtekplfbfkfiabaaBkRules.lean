/- last; the seven rules of entries. -/
import Derived.Test.YtekplfbfkfiabaaBkLed
import Derived.Deep.QuietTactic
import Derived.BigQuiet
namespace Go.Proofs.Ytekplfbfkfiabaa
open Go.RowKit
set_option linter.unusedVariables false
set_option linter.unusedSimpArgs false

def entV (x : EntD) : Value := .agg #[.int .i64 x.frm, .int .i64 x.to, .int .i64 x.amt, .int .i64 x.day]
theorem last_nil {d : LedD} (h : d.ents.length = 0) : d.last = -1 := by
  have : d.ents = [] := List.eq_nil_of_length_eq_zero h
  unfold LedD.last; rw [this]; rfl
theorem last_get {d : LedD} {k : Nat} (h : d.ents.length = k + 1) : d.last = (d.ents[k]'(by omega)).e.day := by
  unfold LedD.last
  have : d.ents.getLast? = some (d.ents[k]'(by omega)) := by
    have e : d.ents.length - 1 = k := by omega
    rw [List.getLast?_eq_getElem?, e]
    exact List.getElem?_eq_getElem (by omega)
  rw [this]

set_option maxHeartbeats 1000000 in
theorem last_any (B lb : Nat) (d : LedD) (m : LMem) (w : World) (h : LSt w B lb d m) (hl : d.ents.length ≤ 5000) :
    Calls Try.prog 70 #[.pointer (some ⟨lb, 0, none⟩)] w fun e w' => e = .returned (.int .i64 d.last) ∧ ∃ n, w' = w.drewN n := by
  have c2 := h.c2
  obtain ⟨a, c, hve, HS⟩ := (h.sig hl).form
  rw [hve] at c2
  clear h hve
  rcases Nat.eq_zero_or_pos d.ents.length with h0 | h0
  · have hn := last_nil h0
    rw [h0] at c2
    rw [hn]
    clear HS h0 hn hl
    go_enter Try.func70, Try.ntmps70
    go_wp2
    go_ret
    exact ⟨rfl, 0, rfl⟩
  · obtain ⟨k, hk⟩ : ∃ k, d.ents.length = k + 1 := ⟨d.ents.length - 1, by omega⟩
    obtain ⟨b, o, ha, hc⟩ := HS.out.cells h0
    have c3 := (hc k (by omega)).2.2.2.1
    have hn := last_get hk
    rw [hn]
    generalize (d.ents[k]'(by omega)).e.day = dy at *
    rw [hk, ha] at c2
    rw [hk] at hl
    have j1 : (0:Int) ≤ (k:Int) := by omega
    have j2 : (k:Int) < ((k + 1 : Nat):Int) := by omega
    clear HS hk h0 hn hc ha
    go_enter Try.func70, Try.ntmps70
    go_wp2
    go_quiet (fail)
    go_wp2
    go_ret
    exact ⟨rfl, _, rfl⟩

/-- What a rule says of an entry. -/
def r1 (d : LedD) (x : EntD) : Bool := decide ((d.ents.length : Int) < 5000)
def r2 (d : LedD) (x : EntD) : Bool := nIn x.frm 0 ((d.n : Int) - 1) && nIn x.to 0 ((d.n : Int) - 1) && (x.frm != x.to)
def r3 (d : LedD) (x : EntD) : Bool := (d.at' x.frm).good == (d.at' x.to).good
def r4 (d : LedD) (x : EntD) : Bool := nIn x.amt 1 1000000000000 && nIn x.day 0 100000
def r5 (d : LedD) (x : EntD) : Bool := decide (d.closed < x.day)
def r6 (d : LedD) (x : EntD) : Bool := decide (d.last ≤ x.day)
def r7 (d : LedD) (x : EntD) : Bool := !(d.at' x.frm).stock || decide (x.amt ≤ balA x.frm d.ents)

/-- What a rule's call leaves. -/
def RulePost (w : World) (b : Bool) (e : Ending) (w' : World) : Prop := e = .returned (.bool b) ∧ Ext w w'

section
variable {B lb : Nat} {d : LedD} {m : LMem} {x : EntD} {w : World}
theorem rule1_any (h : LSt w B lb d m) (hl : d.ents.length ≤ 5000) :
    Calls Try.prog 96 #[.pointer (some ⟨lb, 0, none⟩), entV x] w (RulePost w (r1 d x)) := by
  have c2 := h.c2
  obtain ⟨a, c, hve, _⟩ := (h.sig hl).form
  rw [hve] at c2
  clear h hve
  unfold entV r1
  go_enter Try.func96, Try.ntmps96
  go_wp2_with (with_reducible refine wpList_boxA (t := 60) rfl rfl rfl ?_
               rintro eb w1 hb1 hx1 hl1
               replace c2 := hx1.cellSome c2
               have HX := Lib.hid hx1
               clear hx1
               clear hb1 hl1)
  go_ret
  exact ⟨rfl, HX.out⟩
theorem rule4_any (h : LSt w B lb d m) :
    Calls Try.prog 99 #[.pointer (some ⟨lb, 0, none⟩), entV x] w (RulePost w (r4 d x)) := by
  clear h
  unfold entV r4
  rcases h1 : nIn x.amt 1 1000000000000 with _ | _ <;> (
    have H1 := Lib.hid h1
    clear h1
    go_enter Try.func99, Try.ntmps99
    go_wp2_with (first
      | (with_reducible refine wpList_boxA (t := 60) rfl rfl rfl ?_
         rintro eb w1 hb1 hx1 hl1
         have c0 := hb1.cell
         have HX := Lib.hid hx1
         clear hx1
         clear hb1 hl1)
      | (have hh := H1.out
         go_at_call 52
         refine (in_any _ _ _ _).mono ?_
         rintro e w' ⟨rfl, rfl⟩
         rw [hh]
         clear H1 hh)
      | (go_at_call 52
         refine (in_any _ _ _ _).mono ?_
         rintro e w' ⟨rfl, rfl⟩))
    all_goals (go_ret; exact ⟨rfl, HX.out⟩))
theorem rule5_any (h : LSt w B lb d m) :
    Calls Try.prog 100 #[.pointer (some ⟨lb, 0, none⟩), entV x] w (RulePost w (r5 d x)) := by
  have c2 := h.c43
  clear h
  unfold entV r5
  go_enter Try.func100, Try.ntmps100
  go_wp2_with (with_reducible refine wpList_boxA (t := 60) rfl rfl rfl ?_
               rintro eb w1 hb1 hx1 hl1
               replace c2 := hx1.cellSome c2
               have c3 := hb1.cell 3
               have HX := Lib.hid hx1
               clear hx1
               clear hb1 hl1)
  go_quiet (fail)
  go_wp2
  go_ret
  exact ⟨rfl, HX.out.drewN _⟩
theorem rule6_any (h : LSt w B lb d m) (hl : d.ents.length ≤ 5000) :
    Calls Try.prog 101 #[.pointer (some ⟨lb, 0, none⟩), entV x] w (RulePost w (r6 d x)) := by
  have hc := fun w1 (k : Ext w w1) => last_any B lb d m w1 (h.ext k) hl
  have HC := Lib.hid hc
  clear h hc
  unfold entV r6
  go_enter Try.func101, Try.ntmps101
  go_wp2_with (with_reducible refine wpList_boxA (t := 60) rfl rfl rfl ?_
               rintro eb w1 hb1 hx1 hl1
               have c3 := hb1.cell 3
               have HX := Lib.hid hx1
               clear hx1
               clear hb1 hl1)
  have HC1 := Lib.hid fun n => HC.out (w1.drewN n) (HX.out.drewN n)
  go_quiet ((go_at_call 70; exact Calls.quiet_of (HC1.out _)))
  go_wp2
  go_ret
  exact ⟨rfl, HX.out.drewN _⟩
theorem rule3_any (h : LSt w B lb d m) (hn : d.acc.length ≤ 1000) (h2 : r2 d x = true) :
    Calls Try.prog 98 #[.pointer (some ⟨lb, 0, none⟩), entV x] w (RulePost w (r3 d x)) := by
  have c0 := h.c0
  have ca := h.ca
  obtain ⟨a, c, hva, HS⟩ := h.row.form
  rw [hva] at ca
  clear h hva
  simp only [r2, Bool.and_eq_true, nIn_iff, LedD.n] at h2
  obtain ⟨⟨⟨i1, i2⟩, j1, j2⟩, _⟩ := h2
  obtain ⟨xf, xt, xa, xd⟩ := x
  dsimp only at i1 i2 j1 j2
  obtain ⟨i, rfl⟩ := Int.eq_ofNat_of_zero_le i1
  obtain ⟨j, rfl⟩ := Int.eq_ofNat_of_zero_le j1
  obtain ⟨b, o, rfl, hc⟩ := HS.out.cells (by omega)
  have e1 := (hc i (by omega)).1
  have e2 := (hc j (by omega)).1
  have g1 : d.acc[i]'(by omega) = d.acc.getD i default := by simp [List.getD, show i < d.acc.length by omega]
  have g2 : d.acc[j]'(by omega) = d.acc.getD j default := by simp [List.getD, show j < d.acc.length by omega]
  rw [g1] at e1
  rw [g2] at e2
  unfold entV r3 LedD.at'
  dsimp only [Int.toNat_natCast]
  generalize (d.acc.getD i default).good = y1 at *
  generalize (d.acc.getD j default).good = y2 at *
  have k1 : (i:Int) < (d.acc.length:Int) := by omega
  have k2 : (j:Int) < (d.acc.length:Int) := by omega
  clear HS hc g1 g2 i2 j2
  generalize d.acc.length = n at *
  go_enter Try.func98, Try.ntmps98
  go_wp2_with (with_reducible refine wpList_boxA (t := 60) rfl rfl rfl ?_
               rintro eb w1 hb1 hx1 hl1
               have b0 := hb1.cell 0
               have b1 := hb1.cell 1
               replace c0 := hx1.cellSome c0
               replace ca := hx1.cellSome ca
               replace e1 := hx1.cellSome e1
               replace e2 := hx1.cellSome e2
               have HX := Lib.hid hx1
               clear hx1
               clear hb1 hl1)
  go_quiet (fail)
  go_wp2
  go_ret
  exact ⟨rfl, HX.out.drewN _⟩
set_option maxRecDepth 100000 in
set_option maxHeartbeats 2000000 in
theorem rule2_any (h : LSt w B lb d m) (hn : d.acc.length ≤ 1000) :
    Calls Try.prog 97 #[.pointer (some ⟨lb, 0, none⟩), entV x] w (RulePost w (r2 d x)) := by
  have c0 := h.c0
  have ca := h.ca
  obtain ⟨a, c, hva, HS⟩ := h.row.form
  rw [hva] at ca
  clear h hva HS
  obtain ⟨xf, xt, xa, xd⟩ := x
  unfold entV r2 LedD.n
  dsimp only
  have HT := Lib.hid fun (w1 : World) (k : Ext w w1) (i : Int) => (there_any m.ab a d.acc.length c i w1 (by omega) (k.cellSome ca)).mono fun e w' (h : e = .returned (.bool (nIn i 0 ((d.acc.length : Int) - 1))) ∧ w1 = w') => (⟨h.1, h.2.symm⟩ : e = .returned (.bool (nIn i 0 ((d.acc.length : Int) - 1))) ∧ w' = w1)
  generalize d.acc.length = n at *
  rcases h1 : nIn xf 0 ((n:Int) - 1) with _ | _
  · have H1 := Lib.hid h1
    clear h1
    go_enter Try.func97, Try.ntmps97
    go_wp2_with (with_reducible refine wpList_boxA (t := 60) rfl rfl rfl ?_
                 rintro eb w1 hb1 hx1 hl1
                 have b0 := hb1.cell 0
                 have b1 := hb1.cell 1
                 replace c0 := hx1.cellSome c0
                 replace ca := hx1.cellSome ca
                 have HX := Lib.hid hx1
                 clear hx1
                 clear hb1 hl1)
    have HT1 := Lib.hid fun k => HT.out (w1.drewN k) (HX.out.drewN k) xf
    rw [H1.out] at HT1
    go_quiet ((go_at_call 67; exact Calls.quiet_of_same (HT1.out _)))
    go_wp2
    go_ret
    exact ⟨rfl, HX.out.drewN _⟩
  · rcases h2 : nIn xt 0 ((n:Int) - 1) with _ | _ <;> (
      have H1 := Lib.hid h1
      have H2 := Lib.hid h2
      clear h1 h2
      go_enter Try.func97, Try.ntmps97
      go_wp2_with (with_reducible refine wpList_boxA (t := 60) rfl rfl rfl ?_
                   rintro eb w1 hb1 hx1 hl1
                   have b0 := hb1.cell 0
                   have b1 := hb1.cell 1
                   replace c0 := hx1.cellSome c0
                   replace ca := hx1.cellSome ca
                   have HX := Lib.hid hx1
                   clear hx1
                   clear hb1 hl1)
      have HT1 := Lib.hid fun k => HT.out (w1.drewN k) (HX.out.drewN k) xf
      have HT2 := Lib.hid fun k => HT.out (w1.drewN k) (HX.out.drewN k) xt
      rw [H1.out] at HT1
      rw [H2.out] at HT2
      go_quiet ((first
        | (go_at_call 67; with_reducible exact Calls.quiet_of_same (HT1.out _))
        | (go_at_call 67; with_reducible exact Calls.quiet_of_same (HT2.out _))))
      go_wp2
      go_ret
      exact ⟨rfl, HX.out.drewN _⟩)
theorem rule7_any (h : LSt w B lb d m) (hn : d.acc.length ≤ 40) (h2 : r2 d x = true) :
    Calls Try.prog 102 #[.pointer (some ⟨lb, 0, none⟩), entV x] w (RulePost w (r7 d x)) := by
  have c0 := h.c0
  have ca := h.ca
  have cb := h.cb
  obtain ⟨a, c, hva, HS⟩ := h.row.form
  rw [hva] at ca
  clear h hva
  simp only [r2, Bool.and_eq_true, nIn_iff, LedD.n] at h2
  obtain ⟨⟨⟨i1, i2⟩, j1, j2⟩, _⟩ := h2
  obtain ⟨xf, xt, xa, xd⟩ := x
  dsimp only at i1 i2 j1 j2
  obtain ⟨i, rfl⟩ := Int.eq_ofNat_of_zero_le i1
  obtain ⟨b, o, rfl, hc⟩ := HS.out.cells (by omega)
  have e1 := (hc i (by omega)).2
  have cb1 := cb i (by omega)
  have g1 : d.acc[i]'(by omega) = d.acc.getD i default := by simp [List.getD, show i < d.acc.length by omega]
  rw [g1] at e1
  unfold entV r7 LedD.at'
  dsimp only [Int.toNat_natCast]
  generalize (d.acc.getD i default).stock = y1 at *
  generalize balA (i:Int) d.ents = y2 at *
  have k1 : (i:Int) < (d.acc.length:Int) := by omega
  have k2 : (i:Int) < 40 := by omega
  clear HS hc g1 i2 j1 j2 cb
  generalize d.acc.length = n at *
  cases y1 <;> (
    go_enter Try.func102, Try.ntmps102
    go_wp2_with (with_reducible refine wpList_boxA (t := 60) rfl rfl rfl ?_
                 rintro eb w1 hb1 hx1 hl1
                 have b0 := hb1.cell 0
                 have b2 := hb1.cell 2
                 replace c0 := hx1.cellSome c0
                 replace ca := hx1.cellSome ca
                 replace e1 := hx1.cellSome e1
                 replace cb1 := hx1.cellSome cb1
                 have HX := Lib.hid hx1
                 clear hx1
                 clear hb1 hl1)
    go_quiet (fail)
    go_wp2
    go_ret
    exact ⟨rfl, HX.out.drewN _⟩)
end
end Go.Proofs.Ytekplfbfkfiabaa
