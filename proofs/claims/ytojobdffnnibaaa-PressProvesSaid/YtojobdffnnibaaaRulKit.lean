import Derived.Test.YtojobdffnnibaaaPRules
import Derived.Test.YtojobdffnnibaaaPPrint0
import Derived.Great.Walk
import Derived.Test.YtojobdffnnibaaaRLeaf2
import Derived.Test.YtojobdffnnibaaaPPtr
import Derived.BigQuiet
import Derived.LaidEqlPtr
/- What the rules test. -/
namespace Go.Proofs.Ytojobdffnnibaaa
open Go.RowKit
set_option linter.unusedVariables false
set_option linter.unusedSimpArgs false

/-- What a test of a rule answers. -/
abbrev OkC (fid : Nat) (b : Bool) (w : World) (mb ub i : Nat) : Prop :=
  Calls Try.prog fid #[.pointer (some ⟨mb, 0, none⟩), .pointer (some ⟨ub, i * 5, none⟩)] w fun e w' => e = .returned (.bool b) ∧ Ext w w'
section
variable {B : Nat} {w : World} {mb pb ub c : Nat} {p : PressD} {s : StD} {vj : Value} {i : Nat}
theorem ok1 (h : MOw B w mb pb ub c p s vj) (hi : i < s.units.length) : OkC 82 (allowD p s 1 i) w mb ub i := by
  have d := h.bm.cell
  obtain ⟨e0, e1, e2, e3, e4⟩ := h.at hi
  have ha : allowD p s 1 i = (s.drive == 0 && !s.units[i].op) := by unfold allowD; simp [hi]
  obtain ⟨xop, hop⟩ : ∃ x, s.units[i].op = x := ⟨_, rfl⟩
  rw [hop] at e0 ha
  have HA := Lib.hid ha
  clear ha
  clear hop e1 e2 e3 e4 h
  go_enter Try.func82, Try.ntmps82
  by_cases h1 : s.drive = 0
  · have q1 : (s.drive == 0) = true := by simp [h1]
    have q2 : (s.drive != 0) = false := by simp [h1]
    cases xop <;> (go_wp2; go_ret; exact ⟨ret_bool (by rw [HA.out]; simp [h1]), Below.refl _ _⟩)
  · have q1 : (s.drive == 0) = false := by simp [h1]
    have q2 : (s.drive != 0) = true := by simp [h1]
    cases xop <;> (go_wp2; go_ret; exact ⟨ret_bool (by rw [HA.out]; simp [h1]), Below.refl _ _⟩)
theorem ok2 (h : MOw B w mb pb ub c p s vj) (hi : i < s.units.length) : OkC 84 (allowD p s 2 i) w mb ub i := by
  have d := h.bm.cell
  obtain ⟨e0, e1, e2, e3, e4⟩ := h.at hi
  have ha : allowD p s 2 i = (s.units[i].op) := by unfold allowD; simp [hi]
  obtain ⟨xop, hop⟩ : ∃ x, s.units[i].op = x := ⟨_, rfl⟩
  rw [hop] at e0 ha
  have HA := Lib.hid ha
  clear ha
  clear hop e1 e2 e3 e4 h
  go_enter Try.func84, Try.ntmps84
  cases xop <;> (go_wp2; go_ret; exact ⟨ret_bool (by rw [HA.out]), Below.refl _ _⟩)
theorem ok3 (h : MOw B w mb pb ub c p s vj) (hi : i < s.units.length) : OkC 86 (allowD p s 3 i) w mb ub i := by
  have d := h.bm.cell
  obtain ⟨e0, e1, e2, e3, e4⟩ := h.at hi
  have ha : allowD p s 3 i = (s.drive == 1 && !s.units[i].th) := by unfold allowD; simp [hi]
  obtain ⟨xth, hth⟩ : ∃ x, s.units[i].th = x := ⟨_, rfl⟩
  rw [hth] at e1 ha
  have HA := Lib.hid ha
  clear ha
  clear hth e0 e2 e3 e4 h
  go_enter Try.func86, Try.ntmps86
  by_cases h1 : s.drive = 1
  · have q1 : (s.drive == 1) = true := by simp [h1]
    have q2 : (s.drive != 1) = false := by simp [h1]
    cases xth <;> (go_wp2; go_ret; exact ⟨ret_bool (by rw [HA.out]; simp [h1]), Below.refl _ _⟩)
  · have q1 : (s.drive == 1) = false := by simp [h1]
    have q2 : (s.drive != 1) = true := by simp [h1]
    cases xth <;> (go_wp2; go_ret; exact ⟨ret_bool (by rw [HA.out]; simp [h1]), Below.refl _ _⟩)
theorem ok5 (h : MOw B w mb pb ub c p s vj) (hi : i < s.units.length) : OkC 92 (allowD p s 5 i) w mb ub i := by
  have d := h.bm.cell
  obtain ⟨e0, e1, e2, e3, e4⟩ := h.at hi
  have ha : allowD p s 5 i = (s.drive != 0 && s.units[i].th && s.units[i].cl && !s.units[i].pr) := by unfold allowD; simp [hi]
  obtain ⟨xth, hth⟩ : ∃ x, s.units[i].th = x := ⟨_, rfl⟩
  rw [hth] at e1 ha
  obtain ⟨xcl, hcl⟩ : ∃ x, s.units[i].cl = x := ⟨_, rfl⟩
  rw [hcl] at e2 ha
  obtain ⟨xpr, hpr⟩ : ∃ x, s.units[i].pr = x := ⟨_, rfl⟩
  rw [hpr] at e3 ha
  have HA := Lib.hid ha
  clear ha
  clear hth hcl hpr e0 e4 h
  go_enter Try.func92, Try.ntmps92
  by_cases h1 : s.drive = 0
  · have q1 : (s.drive == 0) = true := by simp [h1]
    have q2 : (s.drive != 0) = false := by simp [h1]
    cases xth <;> cases xcl <;> cases xpr <;> (go_wp2; go_ret; exact ⟨ret_bool (by rw [HA.out]; simp [h1]), Below.refl _ _⟩)
  · have q1 : (s.drive == 0) = false := by simp [h1]
    have q2 : (s.drive != 0) = true := by simp [h1]
    cases xth <;> cases xcl <;> cases xpr <;> (go_wp2; go_ret; exact ⟨ret_bool (by rw [HA.out]; simp [h1]), Below.refl _ _⟩)
theorem ok10 (h : MOw B w mb pb ub c p s vj) (hi : i < s.units.length) : OkC 99 (allowD p s 10 i) w mb ub i := by
  have d := h.bm.cell
  obtain ⟨e0, e1, e2, e3, e4⟩ := h.at hi
  have ha : allowD p s 10 i = (s.drive == 0 && !s.folder) := by unfold allowD; simp [hi]
  obtain ⟨xf, hf⟩ : ∃ x, s.folder = x := ⟨_, rfl⟩
  rw [hf] at d ha
  have HA := Lib.hid ha
  clear ha
  clear  hf e0 e1 e2 e3 e4 h
  go_enter Try.func99, Try.ntmps99
  by_cases h1 : s.drive = 0
  · have q1 : (s.drive == 0) = true := by simp [h1]
    have q2 : (s.drive != 0) = false := by simp [h1]
    cases xf <;> (go_wp2; go_ret; exact ⟨ret_bool (by rw [HA.out]; simp [h1]), Below.refl _ _⟩)
  · have q1 : (s.drive == 0) = false := by simp [h1]
    have q2 : (s.drive != 0) = true := by simp [h1]
    cases xf <;> (go_wp2; go_ret; exact ⟨ret_bool (by rw [HA.out]; simp [h1]), Below.refl _ _⟩)
theorem ok11 (h : MOw B w mb pb ub c p s vj) (hi : i < s.units.length) : OkC 101 (allowD p s 11 i) w mb ub i := by
  have d := h.bm.cell
  obtain ⟨e0, e1, e2, e3, e4⟩ := h.at hi
  have ha : allowD p s 11 i = (s.folder) := by unfold allowD; simp [hi]
  obtain ⟨xf, hf⟩ : ∃ x, s.folder = x := ⟨_, rfl⟩
  rw [hf] at d ha
  have HA := Lib.hid ha
  clear ha
  clear  hf e0 e1 e2 e3 e4 h
  go_enter Try.func101, Try.ntmps101
  cases xf <;> (go_wp2; go_ret; exact ⟨ret_bool (by rw [HA.out]), Below.refl _ _⟩)
theorem ok12 (h : MOw B w mb pb ub c p s vj) (hi : i < s.units.length) : OkC 103 (allowD p s 12 i) w mb ub i := by
  have d := h.bm.cell
  obtain ⟨e0, e1, e2, e3, e4⟩ := h.at hi
  have ha : allowD p s 12 i = (s.drive == 0 && s.units[i].op && s.units[i].th) := by unfold allowD; simp [hi]
  obtain ⟨xop, hop⟩ : ∃ x, s.units[i].op = x := ⟨_, rfl⟩
  rw [hop] at e0 ha
  obtain ⟨xth, hth⟩ : ∃ x, s.units[i].th = x := ⟨_, rfl⟩
  rw [hth] at e1 ha
  have HA := Lib.hid ha
  clear ha
  clear hop hth e2 e3 e4 h
  go_enter Try.func103, Try.ntmps103
  by_cases h1 : s.drive = 0
  · have q1 : (s.drive == 0) = true := by simp [h1]
    have q2 : (s.drive != 0) = false := by simp [h1]
    cases xop <;> cases xth <;> (go_wp2; go_ret; exact ⟨ret_bool (by rw [HA.out]; simp [h1]), Below.refl _ _⟩)
  · have q1 : (s.drive == 0) = false := by simp [h1]
    have q2 : (s.drive != 0) = true := by simp [h1]
    cases xop <;> cases xth <;> (go_wp2; go_ret; exact ⟨ret_bool (by rw [HA.out]; simp [h1]), Below.refl _ _⟩)
end
end Go.Proofs.Ytojobdffnnibaaa

/- What the rules do. -/
namespace Go.Proofs.Ytojobdffnnibaaa
open Go.RowKit
set_option linter.unusedVariables false
set_option linter.unusedSimpArgs false

/-- What a deed of a rule does. -/
abbrev DoC (B : Nat) (fid : Nat) (caps : Array Value) (w : World) (mb pb ub c i : Nat) (p : PressD) (s' : StD) (vj : Value) : Prop :=
  Calls Try.prog fid (#[.pointer (some ⟨mb, 0, none⟩), .pointer (some ⟨ub, i * 5, none⟩)] ++ caps) w fun e w' => e = .returned (.tuple #[]) ∧ MOw B w' mb pb ub c p s' vj ∧ Only (fun b => b = mb ∨ b = ub) w w'
section
variable {B : Nat} {w : World} {mb pb ub c : Nat} {p : PressD} {s : StD} {vj : Value} {i : Nat}
theorem do1 (h : MOw B w mb pb ub c p s vj) (hi : i < s.units.length) : DoC B 83 #[] w mb pb ub c i p (doD s 1 i) vj := by
  have hd : doD s 1 i = { s with units := s.units.set i { s.units[i] with op := true } } := by unfold doD unitD; simp [hi]
  obtain ⟨cs, hb, hroom⟩ := h.room
  have H0 := Lib.hid h
  have HB := Lib.hid hb
  have HD := Lib.hid hd
  clear h hb hd
  go_enter Try.func83, Try.ntmps83
  go_wp2_with (first
    | (with_reducible refine wpList_setK (b := ub) (i := i * 5 + 0) (v := .bool true) rfl rfl HB.out ?_ ?_ ?_ ?_ ?_ ?_ ?_
       · rfl
       · rfl
       · first | omega | (simp; omega)
       · kernel_rfl
       · rfl
       · simp [Value.oneCell']
       rintro w1 hb1 ho1
       have B1 := Lib.hid hb1
       have O1 := Lib.hid ho1
       clear hb1 ho1))
  have hm := MOw.setU (i := i) (j := 0) (u := { s.units[i] with op := true }) (v := .bool true) H0.out HB.out hi (by omega) rfl B1.out O1.out
  have ho := O1.out.weak (T := fun b => b = mb ∨ b = ub) (fun b _ e => .inr e)
  rw [← HD.out] at hm
  have HM := Lib.hid hm
  have HON := Lib.hid ho
  clear hm ho
  refine Great.bodyPost_end0 rfl rfl ?_
  exact ⟨rfl, HM.out, HON.out⟩
theorem do2 (h : MOw B w mb pb ub c p s vj) (hi : i < s.units.length) : DoC B 85 #[] w mb pb ub c i p (doD s 2 i) vj := by
  have hd : doD s 2 i = { s with units := s.units.set i { s.units[i] with op := false } } := by unfold doD unitD; simp [hi]
  obtain ⟨cs, hb, hroom⟩ := h.room
  have H0 := Lib.hid h
  have HB := Lib.hid hb
  have HD := Lib.hid hd
  clear h hb hd
  go_enter Try.func85, Try.ntmps85
  go_wp2_with (first
    | (with_reducible refine wpList_setK (b := ub) (i := i * 5 + 0) (v := .bool false) rfl rfl HB.out ?_ ?_ ?_ ?_ ?_ ?_ ?_
       · rfl
       · rfl
       · first | omega | (simp; omega)
       · kernel_rfl
       · rfl
       · simp [Value.oneCell']
       rintro w1 hb1 ho1
       have B1 := Lib.hid hb1
       have O1 := Lib.hid ho1
       clear hb1 ho1))
  have hm := MOw.setU (i := i) (j := 0) (u := { s.units[i] with op := false }) (v := .bool false) H0.out HB.out hi (by omega) rfl B1.out O1.out
  have ho := O1.out.weak (T := fun b => b = mb ∨ b = ub) (fun b _ e => .inr e)
  rw [← HD.out] at hm
  have HM := Lib.hid hm
  have HON := Lib.hid ho
  clear hm ho
  refine Great.bodyPost_end0 rfl rfl ?_
  exact ⟨rfl, HM.out, HON.out⟩
theorem do3 (h : MOw B w mb pb ub c p s vj) (hi : i < s.units.length) : DoC B 87 #[] w mb pb ub c i p (doD s 3 i) vj := by
  have hd : doD s 3 i = { s with units := s.units.set i { s.units[i] with th := true } } := by unfold doD unitD; simp [hi]
  obtain ⟨cs, hb, hroom⟩ := h.room
  have H0 := Lib.hid h
  have HB := Lib.hid hb
  have HD := Lib.hid hd
  clear h hb hd
  go_enter Try.func87, Try.ntmps87
  go_wp2_with (first
    | (with_reducible refine wpList_setK (b := ub) (i := i * 5 + 1) (v := .bool true) rfl rfl HB.out ?_ ?_ ?_ ?_ ?_ ?_ ?_
       · rfl
       · rfl
       · first | omega | (simp; omega)
       · kernel_rfl
       · rfl
       · simp [Value.oneCell']
       rintro w1 hb1 ho1
       have B1 := Lib.hid hb1
       have O1 := Lib.hid ho1
       clear hb1 ho1))
  have hm := MOw.setU (i := i) (j := 1) (u := { s.units[i] with th := true }) (v := .bool true) H0.out HB.out hi (by omega) rfl B1.out O1.out
  have ho := O1.out.weak (T := fun b => b = mb ∨ b = ub) (fun b _ e => .inr e)
  rw [← HD.out] at hm
  have HM := Lib.hid hm
  have HON := Lib.hid ho
  clear hm ho
  refine Great.bodyPost_end0 rfl rfl ?_
  exact ⟨rfl, HM.out, HON.out⟩
theorem do4 (h : MOw B w mb pb ub c p s vj) (hi : i < s.units.length) : DoC B 91 #[] w mb pb ub c i p (doD s 4 i) vj := by
  have hd : doD s 4 i = { s with units := s.units.set i { s.units[i] with cl := true, ink := 0 } } := by unfold doD unitD; simp [hi]
  obtain ⟨cs, hb, hroom⟩ := h.room
  have H0 := Lib.hid h
  have HB := Lib.hid hb
  have HD := Lib.hid hd
  clear h hb hd
  go_enter Try.func91, Try.ntmps91
  go_wp2_with (first
    | (with_reducible refine wpList_setK (b := ub) (i := i * 5 + 2) (v := .bool true) rfl rfl HB.out ?_ ?_ ?_ ?_ ?_ ?_ ?_
       · rfl
       · rfl
       · first | omega | (simp; omega)
       · kernel_rfl
       · rfl
       · simp [Value.oneCell']
       rintro w1 hb1 ho1
       have B1 := Lib.hid hb1
       have O1 := Lib.hid ho1
       clear hb1 ho1)
    | (with_reducible refine wpList_setK (b := ub) (i := i * 5 + 4) (v := .int .i64 0) rfl rfl B1.out ?_ ?_ ?_ ?_ ?_ ?_ ?_
       · rfl
       · rfl
       · first | omega | (simp; omega)
       · kernel_rfl
       · rfl
       · simp [Value.oneCell']
       rintro w2 hb1 ho1
       have B2 := Lib.hid hb1
       have O2 := Lib.hid ho1
       clear hb1 ho1))
  have hm1 := MOw.setU (i := i) (j := 2) (u := { s.units[i] with cl := true }) (v := .bool true) H0.out HB.out hi (by omega) rfl B1.out O1.out
  have hi2 : i < ({ s with units := s.units.set i { s.units[i] with cl := true } } : StD).units.length := by dsimp only; rw [List.length_set]; exact hi
  have hm := MOw.setU (i := i) (j := 4) (u := { s.units[i] with cl := true, ink := 0 }) (v := .int .i64 0) hm1 B1.out hi2 (by omega) (by dsimp only; rw [List.getElem_set_self]; rfl) B2.out O2.out
  have ho := (O1.out.tr O2.out).weak (T := fun b => b = mb ∨ b = ub) (fun b _ e => .inr e)
  dsimp only at hm
  rw [List.set_set, ← HD.out] at hm
  have HM := Lib.hid hm
  have HON := Lib.hid ho
  clear hm ho
  refine Great.bodyPost_end0 rfl rfl ?_
  exact ⟨rfl, HM.out, HON.out⟩
theorem do5 (h : MOw B w mb pb ub c p s vj) (hi : i < s.units.length) : DoC B 93 #[] w mb pb ub c i p (doD s 5 i) vj := by
  have hd : doD s 5 i = { s with units := s.units.set i { s.units[i] with pr := true } } := by unfold doD unitD; simp [hi]
  obtain ⟨cs, hb, hroom⟩ := h.room
  have H0 := Lib.hid h
  have HB := Lib.hid hb
  have HD := Lib.hid hd
  clear h hb hd
  go_enter Try.func93, Try.ntmps93
  go_wp2_with (first
    | (with_reducible refine wpList_setK (b := ub) (i := i * 5 + 3) (v := .bool true) rfl rfl HB.out ?_ ?_ ?_ ?_ ?_ ?_ ?_
       · rfl
       · rfl
       · first | omega | (simp; omega)
       · kernel_rfl
       · rfl
       · simp [Value.oneCell']
       rintro w1 hb1 ho1
       have B1 := Lib.hid hb1
       have O1 := Lib.hid ho1
       clear hb1 ho1))
  have hm := MOw.setU (i := i) (j := 3) (u := { s.units[i] with pr := true }) (v := .bool true) H0.out HB.out hi (by omega) rfl B1.out O1.out
  have ho := O1.out.weak (T := fun b => b = mb ∨ b = ub) (fun b _ e => .inr e)
  rw [← HD.out] at hm
  have HM := Lib.hid hm
  have HON := Lib.hid ho
  clear hm ho
  refine Great.bodyPost_end0 rfl rfl ?_
  exact ⟨rfl, HM.out, HON.out⟩
theorem do6 (h : MOw B w mb pb ub c p s vj) (hi : i < s.units.length) : DoC B 95 #[] w mb pb ub c i p (doD s 6 i) vj := by
  have hd : doD s 6 i = { s with units := s.units.set i { s.units[i] with pr := false } } := by unfold doD unitD; simp [hi]
  obtain ⟨cs, hb, hroom⟩ := h.room
  have H0 := Lib.hid h
  have HB := Lib.hid hb
  have HD := Lib.hid hd
  clear h hb hd
  go_enter Try.func95, Try.ntmps95
  go_wp2_with (first
    | (with_reducible refine wpList_setK (b := ub) (i := i * 5 + 3) (v := .bool false) rfl rfl HB.out ?_ ?_ ?_ ?_ ?_ ?_ ?_
       · rfl
       · rfl
       · first | omega | (simp; omega)
       · kernel_rfl
       · rfl
       · simp [Value.oneCell']
       rintro w1 hb1 ho1
       have B1 := Lib.hid hb1
       have O1 := Lib.hid ho1
       clear hb1 ho1))
  have hm := MOw.setU (i := i) (j := 3) (u := { s.units[i] with pr := false }) (v := .bool false) H0.out HB.out hi (by omega) rfl B1.out O1.out
  have ho := O1.out.weak (T := fun b => b = mb ∨ b = ub) (fun b _ e => .inr e)
  rw [← HD.out] at hm
  have HM := Lib.hid hm
  have HON := Lib.hid ho
  clear hm ho
  refine Great.bodyPost_end0 rfl rfl ?_
  exact ⟨rfl, HM.out, HON.out⟩
theorem do12 (h : MOw B w mb pb ub c p s vj) (hi : i < s.units.length) : DoC B 104 #[] w mb pb ub c i p (doD s 12 i) vj := by
  have hd : doD s 12 i = { s with units := s.units.set i { s.units[i] with th := false } } := by unfold doD unitD; simp [hi]
  obtain ⟨cs, hb, hroom⟩ := h.room
  have H0 := Lib.hid h
  have HB := Lib.hid hb
  have HD := Lib.hid hd
  clear h hb hd
  go_enter Try.func104, Try.ntmps104
  go_wp2_with (first
    | (with_reducible refine wpList_setK (b := ub) (i := i * 5 + 1) (v := .bool false) rfl rfl HB.out ?_ ?_ ?_ ?_ ?_ ?_ ?_
       · rfl
       · rfl
       · first | omega | (simp; omega)
       · kernel_rfl
       · rfl
       · simp [Value.oneCell']
       rintro w1 hb1 ho1
       have B1 := Lib.hid hb1
       have O1 := Lib.hid ho1
       clear hb1 ho1))
  have hm := MOw.setU (i := i) (j := 1) (u := { s.units[i] with th := false }) (v := .bool false) H0.out HB.out hi (by omega) rfl B1.out O1.out
  have ho := O1.out.weak (T := fun b => b = mb ∨ b = ub) (fun b _ e => .inr e)
  rw [← HD.out] at hm
  have HM := Lib.hid hm
  have HON := Lib.hid ho
  clear hm ho
  refine Great.bodyPost_end0 rfl rfl ?_
  exact ⟨rfl, HM.out, HON.out⟩
theorem do10 (h : MOw B w mb pb ub c p s vj) : DoC B 100 #[] w mb pb ub c i p (doD s 10 i) vj := by
  have hd : doD s 10 i = { s with folder := true } := rfl
  have hb := h.bm
  have H0 := Lib.hid h
  have HB := Lib.hid hb
  have HD := Lib.hid hd
  clear h hb hd
  go_enter Try.func100, Try.ntmps100
  go_wp2_with (
    with_reducible refine wpList_setK (b := mb) (i := 2) (v := .bool true) rfl rfl HB.out ?_ ?_ ?_ ?_ ?_ ?_ ?_
    · rfl
    · rfl
    · simp
    · kernel_rfl
    · rfl
    · simp [Value.oneCell']
    rintro w1 hb1 ho1
    have B1 := Lib.hid hb1
    have O1 := Lib.hid ho1
    clear hb1 ho1)
  have hm := MOw.setM (s' := { s with folder := true }) H0.out rfl B1.out O1.out
  have ho := O1.out.weak (T := fun b => b = mb ∨ b = ub) (fun b _ e => .inl e)
  rw [← HD.out] at hm
  have HM := Lib.hid hm
  have HON := Lib.hid ho
  clear hm ho
  refine Great.bodyPost_end0 rfl rfl ?_
  exact ⟨rfl, HM.out, HON.out⟩
theorem do11 (h : MOw B w mb pb ub c p s vj) : DoC B 102 #[] w mb pb ub c i p (doD s 11 i) vj := by
  have hd : doD s 11 i = { s with folder := false } := rfl
  have hb := h.bm
  have H0 := Lib.hid h
  have HB := Lib.hid hb
  have HD := Lib.hid hd
  clear h hb hd
  go_enter Try.func102, Try.ntmps102
  go_wp2_with (
    with_reducible refine wpList_setK (b := mb) (i := 2) (v := .bool false) rfl rfl HB.out ?_ ?_ ?_ ?_ ?_ ?_ ?_
    · rfl
    · rfl
    · simp
    · kernel_rfl
    · rfl
    · simp [Value.oneCell']
    rintro w1 hb1 ho1
    have B1 := Lib.hid hb1
    have O1 := Lib.hid ho1
    clear hb1 ho1)
  have hm := MOw.setM (s' := { s with folder := false }) H0.out rfl B1.out O1.out
  have ho := O1.out.weak (T := fun b => b = mb ∨ b = ub) (fun b _ e => .inl e)
  rw [← HD.out] at hm
  have HM := Lib.hid hm
  have HON := Lib.hid ho
  clear hm ho
  refine Great.bodyPost_end0 rfl rfl ?_
  exact ⟨rfl, HM.out, HON.out⟩
/-- A drive. -/
theorem doDr {k : Int} {db : Nat} {dr : Int} (h : MOw B w mb pb ub c p s vj) (hb : Blk w db #[.int .i64 dr] 3) (hk : doD s k i = { s with drive := dr, fresh := 0 }) : DoC B 81 #[.pointer (some ⟨db, 0, none⟩)] w mb pb ub c i p (doD s k i) vj := by
  have hb2 := h.bm
  have c1 := hb.cell
  have H0 := Lib.hid h
  have HB := Lib.hid hb2
  have HD := Lib.hid hk
  clear h hb2 hk
  clear hb
  go_enter Try.func81, Try.ntmps81
  go_wp2_with (first
    | (with_reducible refine wpList_setK (b := mb) (i := 1) (v := .int .i64 dr) rfl rfl HB.out ?_ ?_ ?_ ?_ ?_ ?_ ?_
       · rfl
       · rfl
       · simp
       · kernel_rfl
       · rfl
       · simp [Value.oneCell']
       rintro w1 hb1 ho1
       clear c1
       have B1 := Lib.hid hb1
       have O1 := Lib.hid ho1
       clear hb1 ho1)
    | (with_reducible refine wpList_setK (b := mb) (i := 4) (v := .int .i64 0) rfl rfl B1.out ?_ ?_ ?_ ?_ ?_ ?_ ?_
       · rfl
       · rfl
       · simp
       · kernel_rfl
       · rfl
       · simp [Value.oneCell']
       rintro w2 hb1 ho1
       have B2 := Lib.hid hb1
       have O2 := Lib.hid ho1
       clear hb1 ho1))
  have hm := MOw.setM (s' := { s with drive := dr, fresh := 0 }) H0.out rfl B2.out (O1.out.tr O2.out)
  have ho := (O1.out.tr O2.out).weak (T := fun b => b = mb ∨ b = ub) (fun b _ e => .inl e)
  rw [← HD.out] at hm
  have HM := Lib.hid hm
  have HON := Lib.hid ho
  clear hm ho
  refine Great.bodyPost_end0 rfl rfl ?_
  exact ⟨rfl, HM.out, HON.out⟩
end
end Go.Proofs.Ytojobdffnnibaaa

/- What the rules of the drives and of Off test. -/
namespace Go.Proofs.Ytojobdffnnibaaa
open Go.RowKit
set_option linter.unusedVariables false
set_option linter.unusedSimpArgs false
section
variable {B : Nat} {w : World} {mb pb ub c : Nat} {p : PressD} {s : StD} {vj : Value} {i : Nat}
theorem mPressed (h : MOw B w mb pb ub c p s vj) (hl : s.units.length ≤ 1000000) :
    Calls Try.prog 67 #[.pointer (some ⟨mb, 0, none⟩), fnV 71] w fun e w' => e = .returned (.bool (anyPr s)) ∧ Ext w w' :=
  mAny mb s.units _ 71 #[] (·.pr) w (h.bm.cell 3) (h.un (Nat.le_trans hl (by decide))) (fun a w => by kernel_rfl) (fun u _ w1 _ => uPressed u w1)
theorem ok7 (h : MOw B w mb pb ub c p s vj) (hl : s.units.length ≤ 1000000) : OkC 96 (allowD p s 7 i) w mb ub i := by
  have hc := mOpen mb pb p s vj _ w (h.st (Nat.le_trans hl (by decide)))
  have d := h.bm.cell
  have ha : allowD p s 7 i = (s.drive != 1 && !opened s) := by unfold allowD; simp
  obtain ⟨x, hx⟩ : ∃ x, opened s = x := ⟨_, rfl⟩
  rw [hx] at hc ha
  have HC := Lib.hid hc
  have HA := Lib.hid ha
  clear hc ha
  clear hx h hl
  go_enter Try.func96, Try.ntmps96
  by_cases h1 : s.drive = 1
  · have q1 : (s.drive == 1) = true := by simp [h1]
    have q2 : (s.drive != 1) = false := by simp [h1]
    go_wp2
    go_ret
    exact ⟨ret_bool (by rw [HA.out]; simp [h1]), Below.refl _ _⟩
  · have q1 : (s.drive == 1) = false := by simp [h1]
    have q2 : (s.drive != 1) = true := by simp [h1]
    go_wp2_with (
      go_at_call 69
      refine HC.out.mono ?_
      rintro e w2 ⟨rfl, hw2⟩
      have HW := Lib.hid hw2
      clear hw2)
    go_ret
    exact ⟨ret_bool (by rw [HA.out]; simp [h1]), HW.out⟩
theorem ok8 (h : MOw B w mb pb ub c p s vj) (hl : s.units.length ≤ 1000000) : OkC 97 (allowD p s 8 i) w mb ub i := by
  have hc := mPressed h hl
  have d := h.bm.cell
  have ha : allowD p s 8 i = (s.drive == 1 && anyPr s) := by unfold allowD; simp
  obtain ⟨x, hx⟩ : ∃ x, anyPr s = x := ⟨_, rfl⟩
  rw [hx] at hc ha
  have HC := Lib.hid hc
  have HA := Lib.hid ha
  clear hc ha
  clear hx h hl
  go_enter Try.func97, Try.ntmps97
  by_cases h1 : s.drive = 1
  · have q1 : (s.drive == 1) = true := by simp [h1]
    have q2 : (s.drive != 1) = false := by simp [h1]
    go_wp2_with (
      go_at_call 67
      refine HC.out.mono ?_
      rintro e w2 ⟨rfl, hw2⟩
      have HW := Lib.hid hw2
      clear hw2)
    go_ret
    exact ⟨ret_bool (by rw [HA.out]; simp [h1]), HW.out⟩
  · have q1 : (s.drive == 1) = false := by simp [h1]
    have q2 : (s.drive != 1) = true := by simp [h1]
    go_wp2
    go_ret
    exact ⟨ret_bool (by rw [HA.out]; simp [h1]), Below.refl _ _⟩
theorem ok9 (h : MOw B w mb pb ub c p s vj) (hl : s.units.length ≤ 1000000) : OkC 98 (allowD p s 9 i) w mb ub i := by
  have hc := mPressed h hl
  have d := h.bm.cell
  have ha : allowD p s 9 i = (s.drive != 0 && !anyPr s) := by unfold allowD; simp
  obtain ⟨x, hx⟩ : ∃ x, anyPr s = x := ⟨_, rfl⟩
  rw [hx] at hc ha
  have HC := Lib.hid hc
  have HA := Lib.hid ha
  clear hc ha
  clear hx h hl
  go_enter Try.func98, Try.ntmps98
  by_cases h1 : s.drive = 0
  · have q1 : (s.drive == 0) = true := by simp [h1]
    have q2 : (s.drive != 0) = false := by simp [h1]
    go_wp2
    go_ret
    exact ⟨ret_bool (by rw [HA.out]; simp [h1]), Below.refl _ _⟩
  · have q1 : (s.drive == 0) = false := by simp [h1]
    have q2 : (s.drive != 0) = true := by simp [h1]
    go_wp2_with (
      go_at_call 67
      refine HC.out.mono ?_
      rintro e w2 ⟨rfl, hw2⟩
      have HW := Lib.hid hw2
      clear hw2)
    go_ret
    exact ⟨ret_bool (by rw [HA.out]; simp [h1]), HW.out⟩

set_option maxRecDepth 100000 in
set_option maxHeartbeats 2000000 in
theorem ok6 (h : MOw B w mb pb ub c p s vj) (hi : i < s.units.length) (hl : s.units.length ≤ 1000000) : OkC 94 (allowD p s 6 i) w mb ub i := by
  have ha : allowD p s 6 i = (s.units[i].pr && (s.drive != 2 || decide (1 < nPr s))) := by unfold allowD; simp [hi]
  have hnp : nPr s = (s.units.filter (·.pr)).length := rfl
  have H0 := Lib.hid h
  have HA := Lib.hid ha
  have HL := Lib.hid hl
  have HNP := Lib.hid hnp
  clear h ha hl hnp
  go_enter Try.func94, Try.ntmps94
  have d := H0.out.bm.cell
  go_upto_region 3 with (fail)
  clear d
  go_loopw [14, 5] (fun t14 t5 wr => ∃ k np : Nat, k ≤ s.units.length ∧ t14 = .int .i64 k ∧ t5 = .int .i64 np ∧ Hid (np = ((s.units.take k).filter (·.pr)).length) ∧ Hid (Ext w wr)) (fun t14 _ _ => s.units.length - (intOf t14).toNat)
  case atStart => exact ⟨0, 0, by omega, rfl, rfl, rfl, Below.refl _ _⟩
  case round =>
    obtain ⟨k, np, hk, rfl, rfl, HN, HX⟩ := hrel
    have hm := H0.out.ext HX.out
    have d := hm.bm.cell
    have hkb : k ≤ 1000000 := Nat.le_trans hk HL.out
    have hpb : np ≤ k := by rw [HN.out]; exact filt_le _ _ _
    by_cases hlt : k < s.units.length
    · obtain ⟨c0, c1, c2, c3, c5⟩ := hm.at hlt
      have s3 := filt_snoc (·.pr) s.units k hlt
      obtain ⟨u, hu⟩ : ∃ u, s.units[k] = u := ⟨_, rfl⟩
      rw [hu] at c0 c1 c2 c3 c5 s3
      obtain ⟨uo, ut, uc, up, ui⟩ := u
      dsimp only at *
      have i1 : (0:Int) ≤ (k:Int) := by omega
      have i2 : (k:Int) < (s.units.length:Int) := by omega
      have S3 := Lib.hid s3
      clear s3
      clear hu hm
      cases up
      · go_wp2_with (first
          | (with_reducible refine wpList_allocA (t := 50) rfl rfl Try.zeroValue50 ?_
             rintro zb w5 hz1 hz2 hz3
             have x2 := HX.out.tr hz2
             have lz : w.heap.size ≤ zb := Nat.le_trans HX.out.size hz3
             clear HX
             have ZB := Lib.hid hz1
             have HX := Lib.hid x2
             have LZ := Lib.hid lz
             clear hz1 x2 lz
             clear hz2 hz3)
          | (with_reducible refine wpList_storeK (ty := 50) (cells := #[.bool uo, .bool ut, .bool uc, .bool false, .int .i64 ui]) rfl rfl ZB.out ?_ ?_ ?_ ?_ ?_ ?_
             · rfl
             · rfl
             · kernel_rfl
             · rfl
             · simp [Value.oneCell']
             rintro w6 hb6 ho6
             have z0 := hb6.cell
             have x2 := HX.out.then_only ho6 (fun k (e : k = zb) => by rw [e]; exact LZ.out)
             clear HX ZB ho6 hb6
             have HX := Lib.hid x2
             clear x2)
          )
        go_roundw
        case rel => exact ⟨k + 1, np, by omega, by go_num, rfl, by rw [S3.out, HN.out]; rfl, HX⟩
        case measure => first | (simp [intOf]; done) | (simp [intOf]; omega)
      · go_wp2_with (first
          | (with_reducible refine wpList_allocA (t := 50) rfl rfl Try.zeroValue50 ?_
             rintro zb w5 hz1 hz2 hz3
             have x2 := HX.out.tr hz2
             have lz : w.heap.size ≤ zb := Nat.le_trans HX.out.size hz3
             clear HX
             have ZB := Lib.hid hz1
             have HX := Lib.hid x2
             have LZ := Lib.hid lz
             clear hz1 x2 lz
             clear hz2 hz3)
          | (with_reducible refine wpList_storeK (ty := 50) (cells := #[.bool uo, .bool ut, .bool uc, .bool true, .int .i64 ui]) rfl rfl ZB.out ?_ ?_ ?_ ?_ ?_ ?_
             · rfl
             · rfl
             · kernel_rfl
             · rfl
             · simp [Value.oneCell']
             rintro w6 hb6 ho6
             have z0 := hb6.cell
             have x2 := HX.out.then_only ho6 (fun k (e : k = zb) => by rw [e]; exact LZ.out)
             clear HX ZB ho6 hb6
             have HX := Lib.hid x2
             clear x2)
          )
        go_roundw
        case rel => exact ⟨k + 1, np + 1, by omega, by go_num, by go_num, by rw [S3.out, HN.out]; rfl, HX⟩
        case measure => first | (simp [intOf]; done) | (simp [intOf]; omega)
    · have i2 : decide ((k:Int) < (s.units.length:Int)) = false := decide_eq_false (by omega)
      obtain rfl : k = s.units.length := by omega
      have hn := HN.out
      rw [List.take_length, ← HNP.out] at hn
      obtain ⟨e0, e1, e2, e3, e4⟩ := hm.at hi
      have ha := HA.out
      rw [← hn] at ha
      obtain ⟨xp, hxp⟩ : ∃ x, s.units[i].pr = x := ⟨_, rfl⟩
      rw [hxp] at e3 ha
      clear HN HA e0 e1 e2 e4 hxp hn hm
      have HA := Lib.hid ha
      clear ha
      have fin : ∀ b, b = allowD p s 6 i → Ending.returned (.bool b) = .returned (.bool (allowD p s 6 i)) := fun b h => by rw [h]
      cases xp
      · by_cases h2 : s.drive = 2
        · have q1 : (s.drive != 2) = false := by simp [h2]
          go_wp2
          go_ret
          exact ⟨fin _ (by rw [HA.out]; simp), HX.out⟩
        · have q1 : (s.drive != 2) = true := by simp [h2]
          go_wp2
          go_ret
          exact ⟨fin _ (by rw [HA.out]; simp), HX.out⟩
      · by_cases h2 : s.drive = 2
        · have q1 : (s.drive != 2) = false := by simp [h2]
          by_cases h3 : 1 < np
          · have i3 : (1:Int) < (np:Int) := by omega
            go_wp2
            go_ret
            exact ⟨fin _ (by rw [HA.out]; simp [h2, h3]), HX.out⟩
          · have i3 : ¬ (1:Int) < (np:Int) := by omega
            go_wp2
            go_ret
            exact ⟨fin _ (by rw [HA.out]; simp [h2, h3]), HX.out⟩
        · have q1 : (s.drive != 2) = true := by simp [h2]
          go_wp2
          go_ret
          exact ⟨fin _ (by rw [HA.out]; simp [h2]), HX.out⟩
end
end Go.Proofs.Ytojobdffnnibaaa

/- What the rule of Wash tests. -/
namespace Go.Proofs.Ytojobdffnnibaaa
open Go.RowKit
set_option linter.unusedVariables false
set_option linter.unusedSimpArgs false
theorem uPtr : Try.prog.underlying 108 = some (.pointer 50) := by kernel_rfl
theorem isU (ub i j xb : Nat) (w : World) (hx : w.cell? ⟨xb, 0, none⟩ = some (.pointer (some ⟨ub, i * 5, none⟩))) (hb : ∃ cs, Blk w ub cs 50) :
    Calls Try.prog 90 #[.pointer (some ⟨ub, j * 5, none⟩), .pointer (some ⟨xb, 0, none⟩)] w fun e w' => e = .returned (.bool (decide (j = i))) ∧ Ext w w' := by
  obtain ⟨cs, hb⟩ := hb
  obtain ⟨inf, hinf, hp⟩ := Option.map_eq_some_iff.1 tUnits.info
  simp only [Prod.mk.injEq] at hp
  have hsz : inf.size ≠ 0 := by rw [hp.2.1]; decide
  by_cases h : j = i
  · subst h
    have q0 := run_eql_ptr_same w (⟨ub, j * 5, none⟩ : Addr) uPtr hinf
    clear hb hinf hp hsz
    go_enter Try.func90, Try.ntmps90
    go_wp2
    go_ret
    exact ⟨ret_bool (by simp), Below.refl _ _⟩
  · have q0 := run_eql_ptr_other w (a := (⟨ub, j * 5, none⟩ : Addr)) (b := ⟨ub, i * 5, none⟩) uPtr hinf hsz (fun e => by
      have e2 : j * 5 = i * 5 := congrArg Addr.off e
      omega) hb hb
    clear hb hinf hp hsz
    go_enter Try.func90, Try.ntmps90
    go_wp2
    go_ret
    exact ⟨ret_bool (by simp [h]), Below.refl _ _⟩

set_option maxRecDepth 100000 in
set_option maxHeartbeats 2000000 in
theorem idxP (ub n i xb B : Nat) (va : Value) (w : World) (hv : w.ownsRow B 108 1 va n (ptrL ub n)) (hx : w.cell? ⟨xb, 0, none⟩ = some (.pointer (some ⟨ub, i * 5, none⟩))) (hi : i < n) (hn : n ≤ 1000000) (hb : ∃ cs, Blk w ub cs 50) :
    Calls Try.prog 89 #[va, .func (.func 90) #[] #[.pointer (some ⟨xb, 0, none⟩)]] w fun e w' => e = .returned (.int .i64 i) ∧ Ext w w' := by
  obtain ⟨g, c, rfl, hc⟩ := owns_pos hv (by omega)
  have HC := Lib.hid hc
  have HXX := Lib.hid hx
  have HN := Lib.hid hn
  have HBU := Lib.hid hb
  clear hc hx hn hb
  clear hv
  go_enter Try.func89, Try.ntmps89
  go_wp2
  go_loopw [8] (fun t8 wr => ∃ k : Nat, k ≤ i ∧ t8 = .int .i64 k ∧ Hid (Ext w wr)) (fun t8 _ => n - (intOf t8).toNat)
  case atStart => exact ⟨0, by omega, rfl, Below.refl _ _⟩
  case round =>
    obtain ⟨k, hk, rfl, HX⟩ := hrel
    have hkb : k < 1000000 := by have := HN.out; omega
    have hlt : k < n := by omega
    have c9 := HX.out.cellSome (HC.out k (.pointer (some ⟨ub, k * 5, none⟩)) (by unfold ptrL; simp [hlt]))
    have i1 : (0:Int) ≤ (k:Int) := by omega
    have i2 : (k:Int) < (n:Int) := by omega
    have hcl := isU ub i k xb wr (HX.out.cellSome HXX.out) (by obtain ⟨cs, h⟩ := HBU.out; exact ⟨cs, h.ext HX.out⟩)
    by_cases hki : k = i
    · subst hki
      have e : decide (k = k) = true := by simp
      rw [e] at hcl
      have HCL := Lib.hid hcl
      clear hcl
      clear e
      go_wp2_with (go_at_call 90; refine HCL.out.mono ?_; rintro e w2 ⟨rfl, hw2⟩; have HW := Lib.hid (HX.out.tr hw2); clear hw2)
      go_ret
      exact ⟨rfl, HW.out⟩
    · have e : decide (k = i) = false := by simp [hki]
      rw [e] at hcl
      have HCL := Lib.hid hcl
      clear hcl
      clear e
      go_wp2_with (go_at_call 90; refine HCL.out.mono ?_; rintro e w2 ⟨rfl, hw2⟩; have HW := Lib.hid (HX.out.tr hw2); clear hw2)
      go_roundw
      case rel => exact ⟨k + 1, by omega, by go_num, HW⟩
      case measure => first | (simp [intOf]; done) | (simp [intOf]; omega)

section
variable {B : Nat} {w : World} {mb pb ub c : Nat} {p : PressD} {s : StD} {vj : Value} {i : Nat}
set_option maxRecDepth 100000 in
set_option maxHeartbeats 2000000 in
theorem ok4 (h : MOw B w mb pb ub c p s vj) (hi : i < s.units.length) (hl : s.units.length ≤ 1000000) (hj : s.units.length = p.jam.length) : OkC 88 (allowD p s 4 i) w mb ub i := by
  have ha : allowD p s 4 i = (s.drive == 1 && !s.units[i].th && !p.jam.getD i false) := by unfold allowD; simp [hi]
  have hpt := fun w1 (k : Ext w w1) => pointers_any w1 (h.ext k) hl
  have hjm := h.jm
  obtain ⟨_, aj, cj, hvj, _, hcj⟩ := hjm
  rw [List.length_map] at hvj hcj
  subst hvj
  obtain ⟨jb, jo, hja, hjc⟩ := hcj (by omega)
  subst hja
  have c7 := hjc i (.bool (p.jam.getD i false)) (by simp [List.getD, show i < p.jam.length by omega])
  obtain ⟨xt, hxt⟩ : ∃ x, s.units[i].th = x := ⟨_, rfl⟩
  obtain ⟨xj, hxj⟩ : ∃ x, p.jam.getD i false = x := ⟨_, rfl⟩
  have c8 := (h.at hi).2.1
  rw [hxt] at c8 ha
  rw [hxj] at c7 ha
  have hm := h.bm
  have hp := h.bp
  have hbu := h.bu
  have HA := Lib.hid ha
  have HPT := Lib.hid hpt
  have HM := Lib.hid hm
  have HP := Lib.hid hp
  have HL := Lib.hid hl
  have HBU := Lib.hid hbu
  clear ha hpt hm hp hl hbu
  clear hxt hxj hjc hcj h
  go_enter Try.func88, Try.ntmps88
  go_upto_region 1 with (
    with_reducible refine wpList_box1 (t := 108) (v := .pointer (some ⟨ub, i * 5, none⟩)) rfl rfl rfl rfl ?_
    rintro xb w1 hx1 hx2 hx3
    have c1 := hx1.cell 0
    have XB := Lib.hid hx1
    have X1 := Lib.hid hx2
    clear hx1 hx2
    clear hx3)
  have c7' := c7
  have c8' := c8
  have d7 := X1.out.cellSome c7
  have d8 := X1.out.cellSome c8
  have d := (HM.out.ext X1.out).cell
  have dp := (HP.out.ext X1.out).cell
  clear c7 c8
  by_cases h1 : s.drive = 1
  · have q1 : (s.drive == 1) = true := by simp [h1]
    cases xt
    · have xd : Ext w1 w1.drew := (Below.refl _ w1).drew
      have x2 := X1.out.tr xd
      have c1' := xd.cellSome c1
      have hxi := fun w2 B2 va (hv : w2.ownsRow B2 108 1 va s.units.length (ptrL ub s.units.length)) (hx : w2.cell? ⟨xb, 0, none⟩ = some (.pointer (some ⟨ub, i * 5, none⟩))) (hb : ∃ cs, Blk w2 ub cs 50) => idxP ub s.units.length i xb B2 va w2 hv hx hi HL.out hb
      clear d d7 d8 dp c1 XB X1
      refine wp_region_K (fun wx => ((∀ j, wx.cell? ⟨mb, j, none⟩ = (#[.pointer (some ⟨pb, 0, none⟩), .int .i64 s.drive, .bool s.folder, .slice (some ⟨ub, 0, none⟩) s.units.length c, .int .i64 s.fresh] : Array Value)[j]?) ∧ (∀ j, wx.cell? ⟨pb, j, none⟩ = (#[.slice (some ⟨jb, jo, none⟩) p.jam.length cj, .int .i64 p.warm, .int .i64 p.tail, .int .i64 p.dirt] : Array Value)[j]?)) ∧ wx.cell? ⟨xb, 0, none⟩ = some (.pointer (some ⟨ub, i * 5, none⟩)) ∧ wx.cell? ⟨ub, i * 5 + 1, none⟩ = some (.bool false) ∧ wx.cell? ⟨jb, jo + i, none⟩ = some (.bool xj)) 29 (by kernel_rfl) ⟨⟨(HM.out.ext x2).cell, (HP.out.ext x2).cell⟩, c1', x2.cellSome c8', x2.cellSome c7'⟩ (fun hHeld => ?_)
      generalize w1.drew = wA at *
      have X1 := Lib.hid x2
      have HXI := Lib.hid hxi
      clear x2 hxi
      clear xd c1'
      refine wpAnyK_takeL (i := 0) (v := ?_) rfl (by kernel_rfl) (by kernel_rfl) (by kernel_rfl) (by kernel_rfl) (fun _ _ _ h => h) (Or.inl ⟨by rfl, ?_⟩) hHeld ?_
      rotate_left
      · intro w hSw; (try dsimp only at hSw); go_simp; (try with_reducible rfl)
      try simp only [Act.put, List.setIfInBounds_toArray, List.set_cons_zero, List.set_cons_succ]
      refine wpAnyK_takeL (i := 1) (v := ?_) rfl (by kernel_rfl) (by kernel_rfl) (by kernel_rfl) (by kernel_rfl) (fun _ _ _ h => h) (Or.inl ⟨by rfl, ?_⟩) hHeld ?_
      rotate_left
      · intro w hSw; (try dsimp only at hSw); go_simp; (try with_reducible rfl)
      try simp only [Act.put, List.setIfInBounds_toArray, List.set_cons_zero, List.set_cons_succ]
      refine wpAnyK_takeL (i := 2) (v := ?_) rfl (by kernel_rfl) (by kernel_rfl) (by kernel_rfl) (by kernel_rfl) (fun _ _ _ h => h) (Or.inl ⟨by rfl, ?_⟩) hHeld ?_
      rotate_left
      · intro w hSw; (try dsimp only at hSw); go_simp; (try with_reducible rfl)
      try simp only [Act.put, List.setIfInBounds_toArray, List.set_cons_zero, List.set_cons_succ]
      refine wpAnyK_takeL (i := 3) (v := ?_) rfl (by kernel_rfl) (by kernel_rfl) (by kernel_rfl) (by kernel_rfl) (fun _ _ _ h => h) (Or.inl ⟨by rfl, ?_⟩) hHeld ?_
      rotate_left
      · intro w hSw; (try dsimp only at hSw); go_simp; (try with_reducible rfl)
      try simp only [Act.put, List.setIfInBounds_toArray, List.set_cons_zero, List.set_cons_succ]
      refine wpAnyK_takeL (i := 4) (v := ?_) rfl (by kernel_rfl) (by kernel_rfl) (by kernel_rfl) (by kernel_rfl) (fun _ _ _ h => h) (Or.inl ⟨by rfl, ?_⟩) hHeld ?_
      rotate_left
      · intro w hSw; (try dsimp only at hSw); go_simp; (try with_reducible rfl)
      try simp only [Act.put, List.setIfInBounds_toArray, List.set_cons_zero, List.set_cons_succ]
      refine wpAnyK_takeL (i := 5) (v := ?_) rfl (by kernel_rfl) (by kernel_rfl) (by kernel_rfl) (by kernel_rfl) (fun _ _ _ h => h) (Or.inl ⟨by rfl, ?_⟩) hHeld ?_
      rotate_left
      · intro w hSw; (try dsimp only at hSw); go_simp; (try with_reducible rfl)
      try simp only [Act.put, List.setIfInBounds_toArray, List.set_cons_zero, List.set_cons_succ]
      refine wpAnyK_takeL (i := 6) (v := ?_) rfl (by kernel_rfl) (by kernel_rfl) (by kernel_rfl) (by kernel_rfl) (fun _ _ _ h => h) (Or.inl ⟨by rfl, ?_⟩) hHeld ?_
      rotate_left
      · intro w hSw; (try dsimp only at hSw); go_simp; (try with_reducible rfl)
      try simp only [Act.put, List.setIfInBounds_toArray, List.set_cons_zero, List.set_cons_succ]
      refine wpAnyK_takeL (i := 7) (v := ?_) rfl (by kernel_rfl) (by kernel_rfl) (by kernel_rfl) (by kernel_rfl) (fun _ _ _ h => h) (Or.inl ⟨by rfl, ?_⟩) hHeld ?_
      rotate_left
      · intro w hSw; (try dsimp only at hSw); go_simp; (try with_reducible rfl)
      try simp only [Act.put, List.setIfInBounds_toArray, List.set_cons_zero, List.set_cons_succ]
      refine wpAnyK_takeL (i := 8) (v := ?_) rfl (by kernel_rfl) (by kernel_rfl) (by kernel_rfl) (by kernel_rfl) (fun _ _ _ h => h) (Or.inl ⟨by rfl, ?_⟩) hHeld ?_
      rotate_left
      · intro w hSw; (try dsimp only at hSw); go_simp; (try with_reducible rfl)
      try simp only [Act.put, List.setIfInBounds_toArray, List.set_cons_zero, List.set_cons_succ]
      refine wpAnyK_takeL (i := 9) (v := ?_) rfl (by kernel_rfl) (by kernel_rfl) (by kernel_rfl) (by kernel_rfl) (fun _ _ _ h => h) (Or.inl ⟨by rfl, ?_⟩) hHeld ?_
      rotate_left
      · intro w hSw; (try dsimp only at hSw); go_simp; (try with_reducible rfl)
      try simp only [Act.put, List.setIfInBounds_toArray, List.set_cons_zero, List.set_cons_succ]
      refine wpAnyK_takeL (i := 10) (v := ?_) rfl (by kernel_rfl) (by kernel_rfl) (by kernel_rfl) (by kernel_rfl) (fun _ _ _ h => h) (Or.inl ⟨by rfl, ?_⟩) hHeld ?_
      rotate_left
      · intro w hSw; (try dsimp only at hSw); go_simp; (try with_reducible rfl)
      try simp only [Act.put, List.setIfInBounds_toArray, List.set_cons_zero, List.set_cons_succ]
      refine wpAnyK_takeL (i := 11) (v := ?_) rfl (by kernel_rfl) (by kernel_rfl) (by kernel_rfl) (by kernel_rfl) (fun _ _ _ h => h) (Or.inl ⟨by rfl, ?_⟩) hHeld ?_
      rotate_left
      · intro w hSw; (try dsimp only at hSw); go_simp; (try with_reducible rfl)
      try simp only [Act.put, List.setIfInBounds_toArray, List.set_cons_zero, List.set_cons_succ]
      refine wpAnyK_takeL (i := 12) (v := ?_) rfl (by kernel_rfl) (by kernel_rfl) (by kernel_rfl) (by kernel_rfl) (fun _ _ _ h => h) (Or.inl ⟨by rfl, ?_⟩) hHeld ?_
      rotate_left
      · intro w hSw; (try dsimp only at hSw); go_simp; (try with_reducible rfl)
      try simp only [Act.put, List.setIfInBounds_toArray, List.set_cons_zero, List.set_cons_succ]
      refine wpAnyK_takeL (i := 13) (v := ?_) rfl (by kernel_rfl) (by kernel_rfl) (by kernel_rfl) (by kernel_rfl) (fun _ _ _ h => h) (Or.inl ⟨by rfl, ?_⟩) hHeld ?_
      rotate_left
      · intro w hSw; (try dsimp only at hSw); go_simp; (try with_reducible rfl)
      try simp only [Act.put, List.setIfInBounds_toArray, List.set_cons_zero, List.set_cons_succ]
      refine wpAnyK_takeL (i := 14) (v := ?_) rfl (by kernel_rfl) (by kernel_rfl) (by kernel_rfl) (by kernel_rfl) (fun _ _ _ h => h) (Or.inl ⟨by rfl, ?_⟩) hHeld ?_
      rotate_left
      · intro w hSw; (try dsimp only at hSw); go_simp; (try with_reducible rfl)
      try simp only [Act.put, List.setIfInBounds_toArray, List.set_cons_zero, List.set_cons_succ]
      refine wpAnyK_takeL (i := 15) (v := ?_) rfl (by kernel_rfl) (by kernel_rfl) (by kernel_rfl) (by kernel_rfl) (fun _ _ _ h => h) (Or.inl ⟨by rfl, ?_⟩) hHeld ?_
      rotate_left
      · intro w hSw; (try dsimp only at hSw); go_simp; (try with_reducible rfl)
      try simp only [Act.put, List.setIfInBounds_toArray, List.set_cons_zero, List.set_cons_succ]
      refine wpAnyK_takeL (i := 16) (v := ?_) rfl (by kernel_rfl) (by kernel_rfl) (by kernel_rfl) (by kernel_rfl) (fun _ _ _ h => h) (Or.inl ⟨by rfl, ?_⟩) hHeld ?_
      rotate_left
      · intro w hSw; (try dsimp only at hSw); go_simp; (try with_reducible rfl)
      try simp only [Act.put, List.setIfInBounds_toArray, List.set_cons_zero, List.set_cons_succ]
      refine wpAnyK_takeL (i := 17) (v := ?_) rfl (by kernel_rfl) (by kernel_rfl) (by kernel_rfl) (by kernel_rfl) (fun _ _ _ h => h) (Or.inl ⟨by rfl, ?_⟩) hHeld ?_
      rotate_left
      · intro w hSw; (try dsimp only at hSw); go_simp; (try with_reducible rfl)
      try simp only [Act.put, List.setIfInBounds_toArray, List.set_cons_zero, List.set_cons_succ]
      refine wpAnyK_takeL (i := 18) (v := ?_) rfl (by kernel_rfl) (by kernel_rfl) (by kernel_rfl) (by kernel_rfl) (fun _ _ _ h => h) (Or.inl ⟨by rfl, ?_⟩) hHeld ?_
      rotate_left
      · intro w hSw; (try dsimp only at hSw); go_simp; (try with_reducible rfl)
      try simp only [Act.put, List.setIfInBounds_toArray, List.set_cons_zero, List.set_cons_succ]
      refine wpAnyK_takeL (i := 19) (v := ?_) rfl (by kernel_rfl) (by kernel_rfl) (by kernel_rfl) (by kernel_rfl) (fun _ _ _ h => h) (Or.inl ⟨by rfl, ?_⟩) hHeld ?_
      rotate_left
      · intro w hSw; (try dsimp only at hSw); go_simp; (try with_reducible rfl)
      try simp only [Act.put, List.setIfInBounds_toArray, List.set_cons_zero, List.set_cons_succ]
      refine wpAnyK_takeL (i := 20) (v := ?_) rfl (by kernel_rfl) (by kernel_rfl) (by kernel_rfl) (by kernel_rfl) (fun _ _ _ h => h) (Or.inl ⟨by rfl, ?_⟩) hHeld ?_
      rotate_left
      · intro w hSw; (try dsimp only at hSw); go_simp; (try with_reducible rfl)
      try simp only [Act.put, List.setIfInBounds_toArray, List.set_cons_zero, List.set_cons_succ]
      refine wpAnyK_takeL (i := 21) (v := ?_) rfl (by kernel_rfl) (by kernel_rfl) (by kernel_rfl) (by kernel_rfl) (fun _ _ _ h => h) (Or.inl ⟨by rfl, ?_⟩) hHeld ?_
      rotate_left
      · intro w hSw; (try dsimp only at hSw); go_simp; (try with_reducible rfl)
      try simp only [Act.put, List.setIfInBounds_toArray, List.set_cons_zero, List.set_cons_succ]
      refine wpAnyK_takeL (i := 23) (v := ?_) rfl (by kernel_rfl) (by kernel_rfl) (by kernel_rfl) (by kernel_rfl) (fun _ _ _ h => h) (Or.inl ⟨by rfl, ?_⟩) hHeld ?_
      rotate_left
      · intro w hSw; (try dsimp only at hSw); go_simp; (try with_reducible rfl)
      try simp only [Act.put, List.setIfInBounds_toArray, List.set_cons_zero, List.set_cons_succ]
      refine wpAnyK_ready (rs := [22]) (by kernel_rfl) (by simp) ?_
      refine AllReadyK.consL (i := 22) rfl (fun K hK => ?_) ?_
      · refine step_call (vs := #[.pointer (some ⟨mb, 0, none⟩)]) (by kernel_rfl) rfl rfl Try.func45 (by kernel_rfl) (by kernel_rfl) (HPT.out _ X1.out) ?_
        rintro e wy ⟨v, rfl, ho, hx⟩
        refine ⟨_, rfl, ?_⟩
        obtain ⟨a5, c5, rfl⟩ := row_form ho
        have hh := hHeld
        obtain ⟨_, hh1, _⟩ := hh
        have x2 := X1.out.tr hx
        have c1' := hx.cellSome hh1
        clear hh1
        refine hK.out _ _ (fun _ => ⟨⟨(HM.out.ext x2).cell, (HP.out.ext x2).cell⟩, c1', x2.cellSome c8', x2.cellSome c7'⟩) (fun hHeld2 => ?_)
        clear hK K
        try clear hHeld
        have hHeld := hHeld2 (by decide)
        clear hHeld2
        try simp only [Act.put, List.setIfInBounds_toArray, List.set_cons_zero, List.set_cons_succ]
        clear X1 hx
        have X1 := Lib.hid x2
        have HO := Lib.hid ho
        clear x2 ho
        have i1 : (0:Int) ≤ (i:Int) := by omega
        have i2 : (i:Int) < (p.jam.length:Int) := by omega
        refine wpAnyK_ready (rs := [24]) (by kernel_rfl) (by simp) ?_
        refine AllReadyK.consL (i := 24) rfl (fun K hK => ?_) ?_
        · refine step_call (vs := #[.slice a5 s.units.length c5, .func (.func 90) #[] #[.pointer (some ⟨xb, 0, none⟩)]]) (by kernel_rfl) rfl rfl Try.func89 (by kernel_rfl) (by kernel_rfl) (HXI.out _ _ _ HO.out c1' (by obtain ⟨cs, hb, _⟩ := HBU.out; exact ⟨cs, hb.ext X1.out⟩)) ?_
          rintro e wz ⟨rfl, hx⟩
          refine ⟨_, rfl, ?_⟩
          have x2 := X1.out.tr hx
          have c2' := hx.cellSome c1'
          refine hK.out _ _ (fun _ => ⟨⟨(HM.out.ext x2).cell, (HP.out.ext x2).cell⟩, c2', x2.cellSome c8', x2.cellSome c7'⟩) (fun hHeld2 => ?_)
          clear hK K
          try clear hHeld
          have hHeld := hHeld2 (by decide)
          clear hHeld2
          try simp only [Act.put, List.setIfInBounds_toArray, List.set_cons_zero, List.set_cons_succ]
          clear X1 hx c1' c2'
          have X1 := Lib.hid x2
          clear x2
          refine wpAnyK_takeL (i := 25) (v := ?_) rfl (by kernel_rfl) (by kernel_rfl) (by kernel_rfl) (by kernel_rfl) (fun _ _ _ h => h) (Or.inl ⟨by rfl, ?_⟩) hHeld ?_
          rotate_left
          · intro w hSw; (try dsimp only at hSw); go_simp; (try with_reducible rfl)
          try simp only [Act.put, List.setIfInBounds_toArray, List.set_cons_zero, List.set_cons_succ]
          refine wpAnyK_takeL (i := 26) (v := ?_) rfl (by kernel_rfl) (by kernel_rfl) (by kernel_rfl) (by kernel_rfl) (fun _ _ _ h => h) (Or.inl ⟨by rfl, ?_⟩) hHeld ?_
          rotate_left
          · intro w hSw; (try dsimp only at hSw); go_simp; (try with_reducible rfl)
          try simp only [Act.put, List.setIfInBounds_toArray, List.set_cons_zero, List.set_cons_succ]
          refine wpAnyK_takeL (i := 27) (v := ?_) rfl (by kernel_rfl) (by kernel_rfl) (by kernel_rfl) (by kernel_rfl) (fun _ _ _ h => h) (Or.inl ⟨by rfl, ?_⟩) hHeld ?_
          rotate_left
          · intro w hSw; (try dsimp only at hSw); go_simp; (try with_reducible rfl)
          try simp only [Act.put, List.setIfInBounds_toArray, List.set_cons_zero, List.set_cons_succ]
          refine wpAnyK_takeL (i := 28) (v := ?_) rfl (by kernel_rfl) (by kernel_rfl) (by kernel_rfl) (by kernel_rfl) (fun _ _ _ h => h) (Or.inl ⟨by rfl, ?_⟩) hHeld ?_
          rotate_left
          · intro w hSw; (try dsimp only at hSw); go_simp; (try with_reducible rfl)
          try simp only [Act.put, List.setIfInBounds_toArray, List.set_cons_zero, List.set_cons_succ]
          refine wpAnyK_ready (rs := [29]) (by kernel_rfl) (by simp) ?_
          refine AllReadyK.consL (i := 29) rfl (fun K hK => ?_) ?_
          · go_simp
            refine hK.out _ _ (fun h => absurd h (by decide)) (fun hHeld2 => ?_)
            clear hK K hHeld2
            try clear hHeld
            try simp only [Act.put, List.setIfInBounds_toArray, List.set_cons_zero, List.set_cons_succ]
            refine wpAnyK_done (by kernel_rfl) ?_ _
            go_wp2
            go_ret
            exact ⟨ret_bool (by rw [HA.out]; simp [h1]), X1.out⟩
          · exact AllReadyK.nil
        · exact AllReadyK.nil
      · exact AllReadyK.nil
    · go_quiet (fail)
      have xq := X1.out.tr (Ext.of_drewN w1 nq)
      generalize w1.drewN nq = wq at *
      go_wp2
      go_ret
      exact ⟨ret_bool (by rw [HA.out]; simp), xq⟩
  · have q1 : (s.drive == 1) = false := by simp [h1]
    go_quiet (fail)
    have xq := X1.out.tr (Ext.of_drewN w1 nq)
    generalize w1.drewN nq = wq at *
    go_wp2
    go_ret
    exact ⟨ret_bool (by rw [HA.out]; simp [h1]), xq⟩
end
end Go.Proofs.Ytojobdffnnibaaa
