/- What the rules do. -/
import Derived.Test.YtojobdffnnibaaaGreatJ6
import Derived.Great.Walk
namespace Go.Proofs.YtojobdffnnibaaaGreat
open Go.RowKit
set_option linter.unusedVariables false
set_option linter.unusedSimpArgs false
/-- What a deed of a rule does. -/
abbrev DoC (B : Nat) (fid : Nat) (caps : Array Value) (w : World) (mb pb ub c i : Nat) (p : PressD) (s' : StD) (vj : Value) : Prop :=
 Calls Tryz.prog fid (#[.pointer (some ⟨mb, 0, none⟩), .pointer (some ⟨ub, i * 5, none⟩)] ++ caps) w fun e w' => e = .returned (.tuple #[]) ∧ MOw B w' mb pb ub c p s' vj ∧ Only (fun b => b = mb ∨ b = ub) w w'
section
variable {B : Nat} {w : World} {mb pb ub c : Nat} {p : PressD} {s : StD} {vj : Value} {i : Nat}
theorem do1 (h : MOw B w mb pb ub c p s vj) (hi : i < s.units.length) : DoC B 89 #[] w mb pb ub c i p (doD s 1 i) vj := by
 have hd : doD s 1 i = { s with units := s.units.set i { s.units[i] with op := true } } := (by unfold doD unitD; simp [hi]); obtain ⟨cs, hb, hroom⟩ := h.room; have H0 := Hd h; have HB := Hd hb; have HD := Hd hd; clear h hb hd
 go_enter Tryz.func89, Tryz.ntmps89
 go_wp2_with (first
  | (with_reducible refine wpList_setK (b := ub) (i := i * 5 + 0) (v := .bool true) rfl rfl HB.out ?_ ?_ ?_ ?_ ?_ ?_ ?_
     rfl; rfl
     · first | omega | (simp; omega)
     kernel_rfl; rfl; simp [Value.oneCell']; rintro w1 hb1 ho1; have B1 := Hd hb1; have O1 := Hd ho1
     clear hb1 ho1))
 have hm := MOw.setU (i := i) (j := 0) (u := { s.units[i] with op := true }) (v := .bool true) H0.out HB.out hi (by omega) rfl B1.out O1.out; have ho := O1.out.weak (T := fun b => b = mb ∨ b = ub) (fun b _ e => .inr e); rw [← HD.out] at hm; have HM := Hd hm; have HON := Hd ho; clear hm ho; refine Great.bodyPost_end0 rfl rfl ?_; exact ⟨rfl, HM.out, HON.out⟩
theorem do2 (h : MOw B w mb pb ub c p s vj) (hi : i < s.units.length) : DoC B 91 #[] w mb pb ub c i p (doD s 2 i) vj := by
 have hd : doD s 2 i = { s with units := s.units.set i { s.units[i] with op := false } } := (by unfold doD unitD; simp [hi]); obtain ⟨cs, hb, hroom⟩ := h.room; have H0 := Hd h; have HB := Hd hb; have HD := Hd hd; clear h hb hd
 go_enter Tryz.func91, Tryz.ntmps91
 go_wp2_with (first
  | (with_reducible refine wpList_setK (b := ub) (i := i * 5 + 0) (v := .bool false) rfl rfl HB.out ?_ ?_ ?_ ?_ ?_ ?_ ?_
     rfl; rfl
     · first | omega | (simp; omega)
     kernel_rfl; rfl; simp [Value.oneCell']; rintro w1 hb1 ho1; have B1 := Hd hb1; have O1 := Hd ho1
     clear hb1 ho1))
 have hm := MOw.setU (i := i) (j := 0) (u := { s.units[i] with op := false }) (v := .bool false) H0.out HB.out hi (by omega) rfl B1.out O1.out; have ho := O1.out.weak (T := fun b => b = mb ∨ b = ub) (fun b _ e => .inr e); rw [← HD.out] at hm; have HM := Hd hm; have HON := Hd ho; clear hm ho; refine Great.bodyPost_end0 rfl rfl ?_; exact ⟨rfl, HM.out, HON.out⟩
theorem do3 (h : MOw B w mb pb ub c p s vj) (hi : i < s.units.length) : DoC B 93 #[] w mb pb ub c i p (doD s 3 i) vj := by
 have hd : doD s 3 i = { s with units := s.units.set i { s.units[i] with th := true } } := (by unfold doD unitD; simp [hi]); obtain ⟨cs, hb, hroom⟩ := h.room; have H0 := Hd h; have HB := Hd hb; have HD := Hd hd; clear h hb hd
 go_enter Tryz.func93, Tryz.ntmps93
 go_wp2_with (first
  | (with_reducible refine wpList_setK (b := ub) (i := i * 5 + 1) (v := .bool true) rfl rfl HB.out ?_ ?_ ?_ ?_ ?_ ?_ ?_
     rfl; rfl
     · first | omega | (simp; omega)
     kernel_rfl; rfl; simp [Value.oneCell']; rintro w1 hb1 ho1; have B1 := Hd hb1; have O1 := Hd ho1
     clear hb1 ho1))
 have hm := MOw.setU (i := i) (j := 1) (u := { s.units[i] with th := true }) (v := .bool true) H0.out HB.out hi (by omega) rfl B1.out O1.out; have ho := O1.out.weak (T := fun b => b = mb ∨ b = ub) (fun b _ e => .inr e); rw [← HD.out] at hm; have HM := Hd hm; have HON := Hd ho; clear hm ho; refine Great.bodyPost_end0 rfl rfl ?_; exact ⟨rfl, HM.out, HON.out⟩
theorem do4 (h : MOw B w mb pb ub c p s vj) (hi : i < s.units.length) : DoC B 97 #[] w mb pb ub c i p (doD s 4 i) vj := by
 have hd : doD s 4 i = { s with units := s.units.set i { s.units[i] with cl := true, ink := 0 } } := (by unfold doD unitD; simp [hi]); obtain ⟨cs, hb, hroom⟩ := h.room; have H0 := Hd h; have HB := Hd hb; have HD := Hd hd; clear h hb hd
 go_enter Tryz.func97, Tryz.ntmps97
 go_wp2_with (first
  | (with_reducible refine wpList_setK (b := ub) (i := i * 5 + 2) (v := .bool true) rfl rfl HB.out ?_ ?_ ?_ ?_ ?_ ?_ ?_
     rfl; rfl
     · first | omega | (simp; omega)
     kernel_rfl; rfl; simp [Value.oneCell']; rintro w1 hb1 ho1; have B1 := Hd hb1; have O1 := Hd ho1
     clear hb1 ho1)
  | (with_reducible refine wpList_setK (b := ub) (i := i * 5 + 4) (v := .int .i64 0) rfl rfl B1.out ?_ ?_ ?_ ?_ ?_ ?_ ?_
     rfl; rfl
     · first | omega | (simp; omega)
     kernel_rfl; rfl; simp [Value.oneCell']; rintro w2 hb1 ho1; have B2 := Hd hb1; have O2 := Hd ho1
     clear hb1 ho1))
 have hm1 := MOw.setU (i := i) (j := 2) (u := { s.units[i] with cl := true }) (v := .bool true) H0.out HB.out hi (by omega) rfl B1.out O1.out; have hi2 : i < ({ s with units := s.units.set i { s.units[i] with cl := true } } : StD).units.length := (by dsimp only; rw [List.length_set]; exact hi); have hm := MOw.setU (i := i) (j := 4) (u := { s.units[i] with cl := true, ink := 0 }) (v := .int .i64 0) hm1 B1.out hi2 (by omega) (by dsimp only; rw [List.getElem_set_self]; rfl) B2.out O2.out; have ho := (O1.out.tr O2.out).weak (T := fun b => b = mb ∨ b = ub) (fun b _ e => .inr e); dsimp only at hm; rw [List.set_set, ← HD.out] at hm; have HM := Hd hm; have HON := Hd ho; clear hm ho; refine Great.bodyPost_end0 rfl rfl ?_; exact ⟨rfl, HM.out, HON.out⟩
theorem do5 (h : MOw B w mb pb ub c p s vj) (hi : i < s.units.length) : DoC B 99 #[] w mb pb ub c i p (doD s 5 i) vj := by
 have hd : doD s 5 i = { s with units := s.units.set i { s.units[i] with pr := true } } := (by unfold doD unitD; simp [hi]); obtain ⟨cs, hb, hroom⟩ := h.room; have H0 := Hd h; have HB := Hd hb; have HD := Hd hd; clear h hb hd
 go_enter Tryz.func99, Tryz.ntmps99
 go_wp2_with (first
  | (with_reducible refine wpList_setK (b := ub) (i := i * 5 + 3) (v := .bool true) rfl rfl HB.out ?_ ?_ ?_ ?_ ?_ ?_ ?_
     rfl; rfl
     · first | omega | (simp; omega)
     kernel_rfl; rfl; simp [Value.oneCell']; rintro w1 hb1 ho1; have B1 := Hd hb1; have O1 := Hd ho1
     clear hb1 ho1))
 have hm := MOw.setU (i := i) (j := 3) (u := { s.units[i] with pr := true }) (v := .bool true) H0.out HB.out hi (by omega) rfl B1.out O1.out; have ho := O1.out.weak (T := fun b => b = mb ∨ b = ub) (fun b _ e => .inr e); rw [← HD.out] at hm; have HM := Hd hm; have HON := Hd ho; clear hm ho; refine Great.bodyPost_end0 rfl rfl ?_; exact ⟨rfl, HM.out, HON.out⟩
theorem do6 (h : MOw B w mb pb ub c p s vj) (hi : i < s.units.length) : DoC B 101 #[] w mb pb ub c i p (doD s 6 i) vj := by
 have hd : doD s 6 i = { s with units := s.units.set i { s.units[i] with pr := false } } := (by unfold doD unitD; simp [hi]); obtain ⟨cs, hb, hroom⟩ := h.room; have H0 := Hd h; have HB := Hd hb; have HD := Hd hd; clear h hb hd
 go_enter Tryz.func101, Tryz.ntmps101
 go_wp2_with (first
  | (with_reducible refine wpList_setK (b := ub) (i := i * 5 + 3) (v := .bool false) rfl rfl HB.out ?_ ?_ ?_ ?_ ?_ ?_ ?_
     rfl; rfl
     · first | omega | (simp; omega)
     kernel_rfl; rfl; simp [Value.oneCell']; rintro w1 hb1 ho1; have B1 := Hd hb1; have O1 := Hd ho1
     clear hb1 ho1))
 have hm := MOw.setU (i := i) (j := 3) (u := { s.units[i] with pr := false }) (v := .bool false) H0.out HB.out hi (by omega) rfl B1.out O1.out; have ho := O1.out.weak (T := fun b => b = mb ∨ b = ub) (fun b _ e => .inr e); rw [← HD.out] at hm; have HM := Hd hm; have HON := Hd ho; clear hm ho; refine Great.bodyPost_end0 rfl rfl ?_; exact ⟨rfl, HM.out, HON.out⟩
theorem do12 (h : MOw B w mb pb ub c p s vj) (hi : i < s.units.length) : DoC B 110 #[] w mb pb ub c i p (doD s 12 i) vj := by
 have hd : doD s 12 i = { s with units := s.units.set i { s.units[i] with th := false } } := (by unfold doD unitD; simp [hi]); obtain ⟨cs, hb, hroom⟩ := h.room; have H0 := Hd h; have HB := Hd hb; have HD := Hd hd; clear h hb hd
 go_enter Tryz.func110, Tryz.ntmps110
 go_wp2_with (first
  | (with_reducible refine wpList_setK (b := ub) (i := i * 5 + 1) (v := .bool false) rfl rfl HB.out ?_ ?_ ?_ ?_ ?_ ?_ ?_
     rfl; rfl
     · first | omega | (simp; omega)
     kernel_rfl; rfl; simp [Value.oneCell']; rintro w1 hb1 ho1; have B1 := Hd hb1; have O1 := Hd ho1
     clear hb1 ho1))
 have hm := MOw.setU (i := i) (j := 1) (u := { s.units[i] with th := false }) (v := .bool false) H0.out HB.out hi (by omega) rfl B1.out O1.out; have ho := O1.out.weak (T := fun b => b = mb ∨ b = ub) (fun b _ e => .inr e); rw [← HD.out] at hm; have HM := Hd hm; have HON := Hd ho; clear hm ho; refine Great.bodyPost_end0 rfl rfl ?_; exact ⟨rfl, HM.out, HON.out⟩
theorem do10 (h : MOw B w mb pb ub c p s vj) : DoC B 106 #[] w mb pb ub c i p (doD s 10 i) vj := by
 have hd : doD s 10 i = { s with folder := true } := rfl; have hb := h.bm; have H0 := Hd h; have HB := Hd hb; have HD := Hd hd; clear h hb hd
 go_enter Tryz.func106, Tryz.ntmps106
 go_wp2_with (
  (with_reducible refine wpList_setK (b := mb) (i := 2) (v := .bool true) rfl rfl HB.out ?_ ?_ ?_ ?_ ?_ ?_ ?_); rfl; rfl
  · simp
  kernel_rfl; rfl; simp [Value.oneCell']; rintro w1 hb1 ho1; have B1 := Hd hb1; have O1 := Hd ho1
  clear hb1 ho1)
 have hm := MOw.setM (s' := { s with folder := true }) H0.out rfl B1.out O1.out; have ho := O1.out.weak (T := fun b => b = mb ∨ b = ub) (fun b _ e => .inl e); rw [← HD.out] at hm; have HM := Hd hm; have HON := Hd ho; clear hm ho; refine Great.bodyPost_end0 rfl rfl ?_; exact ⟨rfl, HM.out, HON.out⟩
theorem do11 (h : MOw B w mb pb ub c p s vj) : DoC B 108 #[] w mb pb ub c i p (doD s 11 i) vj := by
 have hd : doD s 11 i = { s with folder := false } := rfl; have hb := h.bm; have H0 := Hd h; have HB := Hd hb; have HD := Hd hd; clear h hb hd
 go_enter Tryz.func108, Tryz.ntmps108
 go_wp2_with (
  (with_reducible refine wpList_setK (b := mb) (i := 2) (v := .bool false) rfl rfl HB.out ?_ ?_ ?_ ?_ ?_ ?_ ?_); rfl; rfl
  · simp
  kernel_rfl; rfl; simp [Value.oneCell']; rintro w1 hb1 ho1; have B1 := Hd hb1; have O1 := Hd ho1
  clear hb1 ho1)
 have hm := MOw.setM (s' := { s with folder := false }) H0.out rfl B1.out O1.out; have ho := O1.out.weak (T := fun b => b = mb ∨ b = ub) (fun b _ e => .inl e); rw [← HD.out] at hm; have HM := Hd hm; have HON := Hd ho; clear hm ho; refine Great.bodyPost_end0 rfl rfl ?_; exact ⟨rfl, HM.out, HON.out⟩
theorem doDr {k : Int} {db : Nat} {dr : Int} (h : MOw B w mb pb ub c p s vj) (hb : Blk w db #[.int .i64 dr] 3) (hk : doD s k i = { s with drive := dr, fresh := 0 }) : DoC B 87 #[.pointer (some ⟨db, 0, none⟩)] w mb pb ub c i p (doD s k i) vj := by
 have hb2 := h.bm; have c1 := hb.cell; have H0 := Hd h; have HB := Hd hb2; have HD := Hd hk; clear h hb2 hk; clear hb
 go_enter Tryz.func87, Tryz.ntmps87
 go_wp2_with (first
  | (with_reducible refine wpList_setK (b := mb) (i := 1) (v := .int .i64 dr) rfl rfl HB.out ?_ ?_ ?_ ?_ ?_ ?_ ?_
     rfl; rfl
     · simp
     kernel_rfl; rfl; simp [Value.oneCell']; rintro w1 hb1 ho1; clear c1; have B1 := Hd hb1; have O1 := Hd ho1
     clear hb1 ho1)
  | (with_reducible refine wpList_setK (b := mb) (i := 4) (v := .int .i64 0) rfl rfl B1.out ?_ ?_ ?_ ?_ ?_ ?_ ?_
     rfl; rfl
     · simp
     kernel_rfl; rfl; simp [Value.oneCell']; rintro w2 hb1 ho1; have B2 := Hd hb1; have O2 := Hd ho1
     clear hb1 ho1))
 have hm := MOw.setM (s' := { s with drive := dr, fresh := 0 }) H0.out rfl B2.out (O1.out.tr O2.out); have ho := (O1.out.tr O2.out).weak (T := fun b => b = mb ∨ b = ub) (fun b _ e => .inl e); rw [← HD.out] at hm; have HM := Hd hm; have HON := Hd ho; clear hm ho; refine Great.bodyPost_end0 rfl rfl ?_; exact ⟨rfl, HM.out, HON.out⟩
end
end Go.Proofs.YtojobdffnnibaaaGreat