/- What the rules test. What the rules of the drives and of Off test. -/
import Derived.Test.YtojobdffnnibaaaGreatPRules
import Derived.Test.YtojobdffnnibaaaGreatJ4
namespace Go.Proofs.YtojobdffnnibaaaGreat
open Go.RowKit
set_option linter.unusedVariables false
set_option linter.unusedSimpArgs false
/-- What a test of a rule answers. -/
abbrev OkC (fid : Nat) (b : Bool) (w : World) (mb ub i : Nat) : Prop :=
 Calls Tryz.prog fid #[.pointer (some ⟨mb, 0, none⟩), .pointer (some ⟨ub, i * 5, none⟩)] w fun e w' => e = .returned (.bool b) ∧ Ext w w'
section
variable {B : Nat} {w : World} {mb pb ub c : Nat} {p : PressD} {s : StD} {vj : Value} {i : Nat}
theorem ok1 (h : MOw B w mb pb ub c p s vj) (hi : i < s.units.length) : OkC 88 (allowD p s 1 i) w mb ub i := by
 have d := h.bm.cell; obtain ⟨e0, e1, e2, e3, e4⟩ := h.at hi; have ha : allowD p s 1 i = (s.drive == 0 && !s.units[i].op) := (by unfold allowD; simp [hi]); obtain ⟨xop, hop⟩ : ∃ x, s.units[i].op = x := ⟨_, rfl⟩; rw [hop] at e0 ha; have HA := Hd ha; clear ha; clear hop e1 e2 e3 e4 h
 go_enter Tryz.func88, Tryz.ntmps88
 by_cases h1 : s.drive = 0
 {
 have q1 : (s.drive == 0) = true := (by simp [h1]); have q2 : (s.drive != 0) = false := by simp [h1]
 cases xop <;> (go_wp2; go_ret; exact ⟨ret_bool (by rw [HA.out]; simp [h1]), Below.refl _ _⟩)
 }
 {
 have q1 : (s.drive == 0) = false := (by simp [h1]); have q2 : (s.drive != 0) = true := by simp [h1]
 cases xop <;> (go_wp2; go_ret; exact ⟨ret_bool (by rw [HA.out]; simp [h1]), Below.refl _ _⟩)
 }
theorem ok2 (h : MOw B w mb pb ub c p s vj) (hi : i < s.units.length) : OkC 90 (allowD p s 2 i) w mb ub i := by
 have d := h.bm.cell; obtain ⟨e0, e1, e2, e3, e4⟩ := h.at hi; have ha : allowD p s 2 i = (s.units[i].op) := (by unfold allowD; simp [hi]); obtain ⟨xop, hop⟩ : ∃ x, s.units[i].op = x := ⟨_, rfl⟩; rw [hop] at e0 ha; have HA := Hd ha; clear ha; clear hop e1 e2 e3 e4 h
 go_enter Tryz.func90, Tryz.ntmps90
 cases xop <;> (go_wp2; go_ret; exact ⟨ret_bool (by rw [HA.out]), Below.refl _ _⟩)
theorem ok3 (h : MOw B w mb pb ub c p s vj) (hi : i < s.units.length) : OkC 92 (allowD p s 3 i) w mb ub i := by
 have d := h.bm.cell; obtain ⟨e0, e1, e2, e3, e4⟩ := h.at hi; have ha : allowD p s 3 i = (s.drive == 1 && !s.units[i].th) := (by unfold allowD; simp [hi]); obtain ⟨xth, hth⟩ : ∃ x, s.units[i].th = x := ⟨_, rfl⟩; rw [hth] at e1 ha; have HA := Hd ha; clear ha; clear hth e0 e2 e3 e4 h
 go_enter Tryz.func92, Tryz.ntmps92
 by_cases h1 : s.drive = 1
 {
 have q1 : (s.drive == 1) = true := (by simp [h1]); have q2 : (s.drive != 1) = false := by simp [h1]
 cases xth <;> (go_wp2; go_ret; exact ⟨ret_bool (by rw [HA.out]; simp [h1]), Below.refl _ _⟩)
 }
 {
 have q1 : (s.drive == 1) = false := (by simp [h1]); have q2 : (s.drive != 1) = true := by simp [h1]
 cases xth <;> (go_wp2; go_ret; exact ⟨ret_bool (by rw [HA.out]; simp [h1]), Below.refl _ _⟩)
 }
theorem ok5 (h : MOw B w mb pb ub c p s vj) (hi : i < s.units.length) : OkC 98 (allowD p s 5 i) w mb ub i := by
 have d := h.bm.cell; obtain ⟨e0, e1, e2, e3, e4⟩ := h.at hi; have ha : allowD p s 5 i = (s.drive != 0 && s.units[i].th && s.units[i].cl && !s.units[i].pr) := (by unfold allowD; simp [hi]); obtain ⟨xth, hth⟩ : ∃ x, s.units[i].th = x := ⟨_, rfl⟩; rw [hth] at e1 ha; obtain ⟨xcl, hcl⟩ : ∃ x, s.units[i].cl = x := ⟨_, rfl⟩; rw [hcl] at e2 ha; obtain ⟨xpr, hpr⟩ : ∃ x, s.units[i].pr = x := ⟨_, rfl⟩; rw [hpr] at e3 ha; have HA := Hd ha; clear ha; clear hth hcl hpr e0 e4 h
 go_enter Tryz.func98, Tryz.ntmps98
 by_cases h1 : s.drive = 0
 {
 have q1 : (s.drive == 0) = true := (by simp [h1]); have q2 : (s.drive != 0) = false := by simp [h1]
 cases xth <;> cases xcl <;> cases xpr <;> (go_wp2; go_ret; exact ⟨ret_bool (by rw [HA.out]; simp [h1]), Below.refl _ _⟩)
 }
 {
 have q1 : (s.drive == 0) = false := (by simp [h1]); have q2 : (s.drive != 0) = true := by simp [h1]
 cases xth <;> cases xcl <;> cases xpr <;> (go_wp2; go_ret; exact ⟨ret_bool (by rw [HA.out]; simp [h1]), Below.refl _ _⟩)
 }
theorem ok10 (h : MOw B w mb pb ub c p s vj) (hi : i < s.units.length) : OkC 105 (allowD p s 10 i) w mb ub i := by
 have d := h.bm.cell; obtain ⟨e0, e1, e2, e3, e4⟩ := h.at hi; have ha : allowD p s 10 i = (s.drive == 0 && !s.folder) := (by unfold allowD; simp [hi]); obtain ⟨xf, hf⟩ : ∃ x, s.folder = x := ⟨_, rfl⟩; rw [hf] at d ha; have HA := Hd ha; clear ha; clear  hf e0 e1 e2 e3 e4 h
 go_enter Tryz.func105, Tryz.ntmps105
 by_cases h1 : s.drive = 0
 {
 have q1 : (s.drive == 0) = true := (by simp [h1]); have q2 : (s.drive != 0) = false := by simp [h1]
 cases xf <;> (go_wp2; go_ret; exact ⟨ret_bool (by rw [HA.out]; simp [h1]), Below.refl _ _⟩)
 }
 {
 have q1 : (s.drive == 0) = false := (by simp [h1]); have q2 : (s.drive != 0) = true := by simp [h1]
 cases xf <;> (go_wp2; go_ret; exact ⟨ret_bool (by rw [HA.out]; simp [h1]), Below.refl _ _⟩)
 }
theorem ok11 (h : MOw B w mb pb ub c p s vj) (hi : i < s.units.length) : OkC 107 (allowD p s 11 i) w mb ub i := by
 have d := h.bm.cell; obtain ⟨e0, e1, e2, e3, e4⟩ := h.at hi; have ha : allowD p s 11 i = (s.folder) := (by unfold allowD; simp [hi]); obtain ⟨xf, hf⟩ : ∃ x, s.folder = x := ⟨_, rfl⟩; rw [hf] at d ha; have HA := Hd ha; clear ha; clear  hf e0 e1 e2 e3 e4 h
 go_enter Tryz.func107, Tryz.ntmps107
 cases xf <;> (go_wp2; go_ret; exact ⟨ret_bool (by rw [HA.out]), Below.refl _ _⟩)
theorem ok12 (h : MOw B w mb pb ub c p s vj) (hi : i < s.units.length) : OkC 109 (allowD p s 12 i) w mb ub i := by
 have d := h.bm.cell; obtain ⟨e0, e1, e2, e3, e4⟩ := h.at hi; have ha : allowD p s 12 i = (s.drive == 0 && s.units[i].op && s.units[i].th) := (by unfold allowD; simp [hi]); obtain ⟨xop, hop⟩ : ∃ x, s.units[i].op = x := ⟨_, rfl⟩; rw [hop] at e0 ha; obtain ⟨xth, hth⟩ : ∃ x, s.units[i].th = x := ⟨_, rfl⟩; rw [hth] at e1 ha; have HA := Hd ha; clear ha; clear hop hth e2 e3 e4 h
 go_enter Tryz.func109, Tryz.ntmps109
 by_cases h1 : s.drive = 0
 {
 have q1 : (s.drive == 0) = true := (by simp [h1]); have q2 : (s.drive != 0) = false := by simp [h1]
 cases xop <;> cases xth <;> (go_wp2; go_ret; exact ⟨ret_bool (by rw [HA.out]; simp [h1]), Below.refl _ _⟩)
 }
 {
 have q1 : (s.drive == 0) = false := (by simp [h1]); have q2 : (s.drive != 0) = true := by simp [h1]
 cases xop <;> cases xth <;> (go_wp2; go_ret; exact ⟨ret_bool (by rw [HA.out]; simp [h1]), Below.refl _ _⟩)
 }
end
section
variable {B : Nat} {w : World} {mb pb ub c : Nat} {p : PressD} {s : StD} {vj : Value} {i : Nat}
theorem mPressed (h : MOw B w mb pb ub c p s vj) (hl : s.units.length ≤ 1000000) :
 Calls Tryz.prog 81 #[.pointer (some ⟨mb, 0, none⟩), fnV 85] w fun e w' => e = .returned (.bool (anyPr s)) ∧ Ext w w' :=
 mAny mb s.units _ 85 #[] (·.pr) w (h.bm.cell 3) (h.un (Nat.le_trans hl (by decide))) (fun a w => by kernel_rfl) (fun u _ w1 _ => uPressed u w1)
theorem ok7 (h : MOw B w mb pb ub c p s vj) (hl : s.units.length ≤ 1000000) : OkC 102 (allowD p s 7 i) w mb ub i := by
 have hc := mOpen mb pb p s vj _ w (h.st (Nat.le_trans hl (by decide))); have d := h.bm.cell; have ha : allowD p s 7 i = (s.drive != 1 && !opened s) := (by unfold allowD; simp); obtain ⟨x, hx⟩ : ∃ x, opened s = x := ⟨_, rfl⟩; rw [hx] at hc ha; have HC := Hd hc; have HA := Hd ha; clear hc ha; clear hx h hl
 go_enter Tryz.func102, Tryz.ntmps102
 by_cases h1 : s.drive = 1
 { have q1 : (s.drive == 1) = true := (by simp [h1]); have q2 : (s.drive != 1) = false := (by simp [h1]); go_wp2; go_ret; exact ⟨ret_bool (by rw [HA.out]; simp [h1]), Below.refl _ _⟩ }
 {
 have q1 : (s.drive == 1) = false := (by simp [h1]); have q2 : (s.drive != 1) = true := by simp [h1]
 go_wp2_with (
  go_at_call 83; refine HC.out.mono ?_; rintro e w2 ⟨rfl, hw2⟩; have HW := Hd hw2
  clear hw2)
 go_ret; exact ⟨ret_bool (by rw [HA.out]; simp [h1]), HW.out⟩
 }
theorem ok8 (h : MOw B w mb pb ub c p s vj) (hl : s.units.length ≤ 1000000) : OkC 103 (allowD p s 8 i) w mb ub i := by
 have hc := mPressed h hl; have d := h.bm.cell; have ha : allowD p s 8 i = (s.drive == 1 && anyPr s) := (by unfold allowD; simp); obtain ⟨x, hx⟩ : ∃ x, anyPr s = x := ⟨_, rfl⟩; rw [hx] at hc ha; have HC := Hd hc; have HA := Hd ha; clear hc ha; clear hx h hl
 go_enter Tryz.func103, Tryz.ntmps103
 by_cases h1 : s.drive = 1
 {
 have q1 : (s.drive == 1) = true := (by simp [h1]); have q2 : (s.drive != 1) = false := by simp [h1]
 go_wp2_with (
  go_at_call 81; refine HC.out.mono ?_; rintro e w2 ⟨rfl, hw2⟩; have HW := Hd hw2
  clear hw2)
 go_ret; exact ⟨ret_bool (by rw [HA.out]; simp [h1]), HW.out⟩
 }
 { have q1 : (s.drive == 1) = false := (by simp [h1]); have q2 : (s.drive != 1) = true := (by simp [h1]); go_wp2; go_ret; exact ⟨ret_bool (by rw [HA.out]; simp [h1]), Below.refl _ _⟩ }
theorem ok9 (h : MOw B w mb pb ub c p s vj) (hl : s.units.length ≤ 1000000) : OkC 104 (allowD p s 9 i) w mb ub i := by
 have hc := mPressed h hl; have d := h.bm.cell; have ha : allowD p s 9 i = (s.drive != 0 && !anyPr s) := (by unfold allowD; simp); obtain ⟨x, hx⟩ : ∃ x, anyPr s = x := ⟨_, rfl⟩; rw [hx] at hc ha; have HC := Hd hc; have HA := Hd ha; clear hc ha; clear hx h hl
 go_enter Tryz.func104, Tryz.ntmps104
 by_cases h1 : s.drive = 0
 { have q1 : (s.drive == 0) = true := (by simp [h1]); have q2 : (s.drive != 0) = false := (by simp [h1]); go_wp2; go_ret; exact ⟨ret_bool (by rw [HA.out]; simp [h1]), Below.refl _ _⟩ }
 {
 have q1 : (s.drive == 0) = false := (by simp [h1]); have q2 : (s.drive != 0) = true := by simp [h1]
 go_wp2_with (
  go_at_call 81; refine HC.out.mono ?_; rintro e w2 ⟨rfl, hw2⟩; have HW := Hd hw2
  clear hw2)
 go_ret; exact ⟨ret_bool (by rw [HA.out]; simp [h1]), HW.out⟩
 }
set_option maxRecDepth 100000 in
set_option maxHeartbeats 2000000 in
theorem ok6 (h : MOw B w mb pb ub c p s vj) (hi : i < s.units.length) (hl : s.units.length ≤ 1000000) : OkC 100 (allowD p s 6 i) w mb ub i := by
 have ha : allowD p s 6 i = (s.units[i].pr && (s.drive != 2 || decide (1 < nPr s))) := (by unfold allowD; simp [hi]); have hnp : nPr s = (s.units.filter (·.pr)).length := rfl; have H0 := Hd h; have HA := Hd ha; have HL := Hd hl; have HNP := Hd hnp; clear h ha hl hnp
 go_enter Tryz.func100, Tryz.ntmps100
 have d := H0.out.bm.cell
 go_upto_region 3 with (fail)
 clear d
 go_loopw [14, 5] (fun t14 t5 wr => ∃ k np : Nat, k ≤ s.units.length ∧ t14 = .int .i64 k ∧ t5 = .int .i64 np ∧ Hid (np = ((s.units.take k).filter (·.pr)).length) ∧ Hid (Ext w wr)) (fun t14 _ _ => s.units.length - (intOf t14).toNat)
 case atStart => exact ⟨0, 0, by omega, rfl, rfl, rfl, Below.refl _ _⟩
 case round =>
  obtain ⟨k, np, hk, rfl, rfl, HN, HX⟩ := hrel; have hm := H0.out.ext HX.out; have d := hm.bm.cell; have hkb : k ≤ 1000000 := Nat.le_trans hk HL.out; have hpb : np ≤ k := by rw [HN.out]; exact filt_le _ _ _
  by_cases hlt : k < s.units.length
  {
  obtain ⟨c0, c1, c2, c3, c5⟩ := hm.at hlt; have s3 := filt_snoc (·.pr) s.units k hlt; obtain ⟨u, hu⟩ : ∃ u, s.units[k] = u := ⟨_, rfl⟩; rw [hu] at c0 c1 c2 c3 c5 s3; obtain ⟨uo, ut, uc, up, ui⟩ := u; dsimp only at *; have i1 : (0:Int) ≤ (k:Int) := (by omega); have i2 : (k:Int) < (s.units.length:Int) := (by omega); have S3 := Hd s3; clear s3; clear hu hm
  cases up
  {
  go_wp2_with (first
   | (with_reducible refine wpList_allocA (t := 82) rfl rfl Tryz.zeroValue82 ?_
      rintro zb w5 hz1 hz2 hz3; have x2 := HX.out.tr hz2; have lz : w.heap.size ≤ zb := Nat.le_trans HX.out.size hz3; clear HX; have ZB := Hd hz1; have HX := Hd x2; have LZ := Hd lz; clear hz1 x2 lz
      clear hz2 hz3)
   | (with_reducible refine wpList_storeK (ty := 82) (cells := #[.bool uo, .bool ut, .bool uc, .bool false, .int .i64 ui]) rfl rfl ZB.out ?_ ?_ ?_ ?_ ?_ ?_
      rfl; rfl; kernel_rfl; rfl; simp [Value.oneCell']; rintro w6 hb6 ho6; have z0 := hb6.cell; have x2 := HX.out.then_only ho6 (fun k (e : k = zb) => by rw [e]; exact LZ.out); clear HX ZB ho6 hb6; have HX := Hd x2
      clear x2)
   )
  go_roundw
  case rel => exact ⟨k + 1, np, by omega, by go_num, rfl, by rw [S3.out, HN.out]; rfl, HX⟩
  case measure => simp [intOf] <;> omega
  }
  {
  go_wp2_with (first
   | (with_reducible refine wpList_allocA (t := 82) rfl rfl Tryz.zeroValue82 ?_
      rintro zb w5 hz1 hz2 hz3; have x2 := HX.out.tr hz2; have lz : w.heap.size ≤ zb := Nat.le_trans HX.out.size hz3; clear HX; have ZB := Hd hz1; have HX := Hd x2; have LZ := Hd lz; clear hz1 x2 lz
      clear hz2 hz3)
   | (with_reducible refine wpList_storeK (ty := 82) (cells := #[.bool uo, .bool ut, .bool uc, .bool true, .int .i64 ui]) rfl rfl ZB.out ?_ ?_ ?_ ?_ ?_ ?_
      rfl; rfl; kernel_rfl; rfl; simp [Value.oneCell']; rintro w6 hb6 ho6; have z0 := hb6.cell; have x2 := HX.out.then_only ho6 (fun k (e : k = zb) => by rw [e]; exact LZ.out); clear HX ZB ho6 hb6; have HX := Hd x2
      clear x2)
   )
  go_roundw
  case rel => exact ⟨k + 1, np + 1, by omega, by go_num, by go_num, by rw [S3.out, HN.out]; rfl, HX⟩
  case measure => simp [intOf] <;> omega
  }
  }
  {
  have i2 : decide ((k:Int) < (s.units.length:Int)) = false := decide_eq_false (by omega); obtain rfl : k = s.units.length := (by omega); have hn := HN.out; rw [List.take_length, ← HNP.out] at hn; obtain ⟨e0, e1, e2, e3, e4⟩ := hm.at hi; have ha := HA.out; rw [← hn] at ha; obtain ⟨xp, hxp⟩ : ∃ x, s.units[i].pr = x := ⟨_, rfl⟩; rw [hxp] at e3 ha; clear HN HA e0 e1 e2 e4 hxp hn hm; have HA := Hd ha; clear ha; have fin : ∀ b, b = allowD p s 6 i → Ending.returned (.bool b) = .returned (.bool (allowD p s 6 i)) := fun b h => by rw [h]
  cases xp
  {
  by_cases h2 : s.drive = 2
  { have q1 : (s.drive != 2) = false := (by simp [h2]); go_wp2; go_ret; exact ⟨fin _ (by rw [HA.out]; simp), HX.out⟩ }
  { have q1 : (s.drive != 2) = true := (by simp [h2]); go_wp2; go_ret; exact ⟨fin _ (by rw [HA.out]; simp), HX.out⟩ }
  }
  {
  by_cases h2 : s.drive = 2
  {
  have q1 : (s.drive != 2) = false := by simp [h2]
  by_cases h3 : 1 < np
  { have i3 : (1:Int) < (np:Int) := (by omega); go_wp2; go_ret; exact ⟨fin _ (by rw [HA.out]; simp [h2, h3]), HX.out⟩ }
  { have i3 : ¬ (1:Int) < (np:Int) := (by omega); go_wp2; go_ret; exact ⟨fin _ (by rw [HA.out]; simp [h2, h3]), HX.out⟩ }
  }
  { have q1 : (s.drive != 2) = true := (by simp [h2]); go_wp2; go_ret; exact ⟨fin _ (by rw [HA.out]; simp [h2]), HX.out⟩ }
  }
  }
end
end Go.Proofs.YtojobdffnnibaaaGreat