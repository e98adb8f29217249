/- act at any kind. -/
import Derived.Test.YtojobdffnnibaaaGreatPAct
namespace Go.Proofs.YtojobdffnnibaaaGreat
open Go.RowKit
set_option linter.unusedVariables false
set_option linter.unusedSimpArgs false
section
variable {B : Nat} {w : World} {mb pb ub c : Nat} {p : PressD} {s : StD} {vj : Value}
set_option maxRecDepth 100000 in
set_option maxHeartbeats 4000000 in
theorem act_miss (k x : Int) (h : MOw B w mb pb ub c p s vj) (hk : I64 k) (hk2 : k < 1 ∨ 12 < k) :
 Calls Tryz.prog 40 #[.pointer (some ⟨mb, 0, none⟩), .agg #[.int .i64 k, .int .i64 x]] w (ActPost B w mb pb ub c p s vj k x) := by
 have he : actErr p s k x = 150 := (by unfold actErr; rw [if_pos hk2]); have hd : actD p s k x = s := (by unfold actD; rw [if_neg (by rw [he]; decide)]); have hr : ∀ (w' : World) (mb b7 b8 b9 : Nat), MapR Tryz.prog 3 w' mb (ruleL b7 b8 b9) → (Instr.lookup 156 (.map (some mb)) (.int .i64 k) true).run Tryz.prog w' = .ok (.tuple #[.agg #[.bool false, .nilFunc, .nilFunc], .bool false]) w' := fun w' mb b7 b8 b9 hm => ruleMiss hk hk2 w' mb b7 b8 b9 hm; have H0 := Hd h; have HE := Hd he; have HD := Hd hd; have HR := Hd hr; clear h he hd hr; clear hk hk2
 go_enter Tryz.func40, Tryz.ntmps40
 go_upto_region 1 with (
  (with_reducible refine wpList_boxA (t := 72) (cs := #[.int .i64 k, .int .i64 x]) rfl rfl rfl ?_); rintro ab w1 hx1 hx2 hx3; have AB := Hd hx1; have X1 := Hd hx2; clear hx1 hx2
  clear hx3)
 go_cut [5, 6] (fun v5 v6 W => ∃ rb b7 b8 b9, v5 = .pointer (some ⟨rb, 0, none⟩) ∧ v6 = .bool false ∧ Hid (Blk W rb #[.bool false, .nilFunc, .nilFunc] 154) ∧ Hid (Blk W ab #[.int .i64 k, .int .i64 x] 72) ∧ Hid (Blk W b7 #[.int .i64 1] 3 ∧ Blk W b8 #[.int .i64 2] 3 ∧ Blk W b9 #[.int .i64 0] 3) ∧ Hid (Ext w W))
 case first =>
  as_aux_lemma =>
   have xd : Ext w1 w1.drew := (Below.refl _ w1).drew; have x2 := X1.out.tr xd; have ab2 := AB.out.ext xd; clear AB X1; refine wp_region_K (fun wx => ∀ j, wx.cell? ⟨ab, j, none⟩ = (#[.int .i64 k, .int .i64 x] : Array Value)[j]?) 9 (by kernel_rfl) ab2.cell (fun kh => ?_); generalize w1.drew = wA at *; have X1 := Hd x2; have AB := Hd ab2; clear x2 ab2; clear xd; refine kX 1 kh ?_; simp only [kS]; refine kX 2 kh ?_; simp only [kS]; refine rK [0, 7] ?_; refine xK 0 (fun K hK => ?_) ?_
   {
   refine cK #[] Tryz.func73 (rules_any _) ?_; rintro e wy ⟨qb, b7, b8, b9, rfl, hmr, hb7, hb8, hb9, hl1, hl2, hl3, hl4, hx⟩; refine ⟨_, rfl, ?_⟩; have hlk := HR.out wy qb b7 b8 b9 hmr; replace X1 := Hd (X1.out.tr hx); replace AB := Hd (AB.out.ext hx)
   (try replace RB := Hd (RB.out.ext hx))
   have BB := Hd (And.intro hb7 (And.intro hb8 hb9)); refine kG hK AB.out.cell fun kh => ?_; (try simp only [kS]); clear hl1 hl2 hl3 hl4 hx hb7 hb8 hb9; refine rK [3, 7] ?_; refine xK 3 (fun K hK => ?_) ?_
   {
   go_simp; refine kG hK AB.out.cell fun kh => ?_; (try simp only [kS]); clear hlk hmr; refine kX 4 kh ?_; simp only [kS]; refine kX 5 kh ?_; simp only [kS]; refine kX 6 kh ?_; simp only [kS]; refine rK [7] ?_; refine xK 7 (fun K hK => ?_) ?_
   {
   refine step_allocA (t := 154) rfl rfl zRule ?_; intro rb wy hb hx hl; have lr : w.heap.size ≤ rb := Nat.le_trans X1.out.size hl; replace X1 := Hd (X1.out.tr hx); replace AB := Hd (AB.out.ext hx)
   (try (have hb2 := And.intro (BB.out.1.ext hx) (And.intro (BB.out.2.1.ext hx) (BB.out.2.2.ext hx))
         replace BB := Hd hb2
         clear hb2))
   (try (have hm2 := hmr.ext hx
         clear hlk; have hlk := HR.out wy qb b7 b8 b9 hm2; clear hmr; have hmr := hm2
         clear hm2))
   have RB := Hd hb; have LRB := Hd lr; clear hb lr; refine kG hK AB.out.cell fun kh => ?_; (try simp only [kS]); clear hx hl; refine rK [8] ?_; refine xK 8 (fun K hK => ?_) ?_
   {
   refine step_storeK (cells := #[.bool false, .nilFunc, .nilFunc]) rfl rfl RB.out rfl rfl tRule rfl (by simp [Value.oneCell']) ?_; intro wz hb ho; have x2 := X1.out.then_only ho (fun j (e : j = rb) => by rw [e]; exact LRB.out); have hna : ab ≠ rb := fun e => absurd (blk_ty AB.out (e ▸ RB.out)) (by decide); have ab2 := AB.out.only ho hna; have hn7 : b7 ≠ rb := fun e => absurd (blk_ty BB.out.1 (e ▸ RB.out)) (by decide); have hn8 : b8 ≠ rb := fun e => absurd (blk_ty BB.out.2.1 (e ▸ RB.out)) (by decide); have hn9 : b9 ≠ rb := fun e => absurd (blk_ty BB.out.2.2 (e ▸ RB.out)) (by decide); have hbb := And.intro (BB.out.1.only ho hn7) (And.intro (BB.out.2.1.only ho hn8) (BB.out.2.2.only ho hn9)); clear X1 AB RB BB hna hn7 hn8 hn9 ho; have X1 := Hd x2; have AB := Hd ab2; have RB := Hd hb; have BB := Hd hbb; clear x2 ab2 hb hbb; refine kG hK AB.out.cell fun kh => ?_; (try simp only [kS]); refine rK [9] ?_; refine xK 9 (fun K hK => ?_) ?_
   {
   go_simp; refine kH hK rfl ?_; (try clear kh); (try simp only [kS]); refine dK ?_ _; go_wp2; go_meet
   case rel => exact ⟨rb, b7, b8, b9, rfl, rfl, RB, AB, BB, X1⟩
   }
   exact nK
   }
   exact nK
   }
   exact nK
   }
   refine xK 7 (fun K hK => ?_) ?_
   {
   refine step_allocA (t := 154) rfl rfl zRule ?_; intro rb wy hb hx hl; have lr : w.heap.size ≤ rb := Nat.le_trans X1.out.size hl; replace X1 := Hd (X1.out.tr hx); replace AB := Hd (AB.out.ext hx)
   (try (have hb2 := And.intro (BB.out.1.ext hx) (And.intro (BB.out.2.1.ext hx) (BB.out.2.2.ext hx))
         replace BB := Hd hb2
         clear hb2))
   (try (have hm2 := hmr.ext hx
         clear hlk; have hlk := HR.out wy qb b7 b8 b9 hm2; clear hmr; have hmr := hm2
         clear hm2))
   have RB := Hd hb; have LRB := Hd lr; clear hb lr; refine kG hK AB.out.cell fun kh => ?_; (try simp only [kS]); clear hx hl; refine rK [3] ?_; refine xK 3 (fun K hK => ?_) ?_
   {
   go_simp; refine kG hK AB.out.cell fun kh => ?_; (try simp only [kS]); clear hlk hmr; refine kX 4 kh ?_; simp only [kS]; refine kX 5 kh ?_; simp only [kS]; refine kX 6 kh ?_; simp only [kS]; refine rK [8] ?_; refine xK 8 (fun K hK => ?_) ?_
   {
   refine step_storeK (cells := #[.bool false, .nilFunc, .nilFunc]) rfl rfl RB.out rfl rfl tRule rfl (by simp [Value.oneCell']) ?_; intro wz hb ho; have x2 := X1.out.then_only ho (fun j (e : j = rb) => by rw [e]; exact LRB.out); have hna : ab ≠ rb := fun e => absurd (blk_ty AB.out (e ▸ RB.out)) (by decide); have ab2 := AB.out.only ho hna; have hn7 : b7 ≠ rb := fun e => absurd (blk_ty BB.out.1 (e ▸ RB.out)) (by decide); have hn8 : b8 ≠ rb := fun e => absurd (blk_ty BB.out.2.1 (e ▸ RB.out)) (by decide); have hn9 : b9 ≠ rb := fun e => absurd (blk_ty BB.out.2.2 (e ▸ RB.out)) (by decide); have hbb := And.intro (BB.out.1.only ho hn7) (And.intro (BB.out.2.1.only ho hn8) (BB.out.2.2.only ho hn9)); clear X1 AB RB BB hna hn7 hn8 hn9 ho; have X1 := Hd x2; have AB := Hd ab2; have RB := Hd hb; have BB := Hd hbb; clear x2 ab2 hb hbb; refine kG hK AB.out.cell fun kh => ?_; (try simp only [kS]); refine rK [9] ?_; refine xK 9 (fun K hK => ?_) ?_
   {
   go_simp; refine kH hK rfl ?_; (try clear kh); (try simp only [kS]); refine dK ?_ _; go_wp2; go_meet
   case rel => exact ⟨rb, b7, b8, b9, rfl, rfl, RB, AB, BB, X1⟩
   }
   exact nK
   }
   exact nK
   }
   exact nK
   }
   exact nK
   }
   refine xK 7 (fun K hK => ?_) ?_
   {
   refine step_allocA (t := 154) rfl rfl zRule ?_; intro rb wy hb hx hl; have lr : w.heap.size ≤ rb := Nat.le_trans X1.out.size hl; replace X1 := Hd (X1.out.tr hx); replace AB := Hd (AB.out.ext hx)
   (try (have hb2 := And.intro (BB.out.1.ext hx) (And.intro (BB.out.2.1.ext hx) (BB.out.2.2.ext hx))
         replace BB := Hd hb2
         clear hb2))
   (try (have hm2 := hmr.ext hx
         clear hlk; have hlk := HR.out wy qb b7 b8 b9 hm2; clear hmr; have hmr := hm2
         clear hm2))
   have RB := Hd hb; have LRB := Hd lr; clear hb lr; refine kG hK AB.out.cell fun kh => ?_; (try simp only [kS]); clear hx hl; refine rK [0] ?_; refine xK 0 (fun K hK => ?_) ?_
   {
   refine cK #[] Tryz.func73 (rules_any _) ?_; rintro e wy ⟨qb, b7, b8, b9, rfl, hmr, hb7, hb8, hb9, hl1, hl2, hl3, hl4, hx⟩; refine ⟨_, rfl, ?_⟩; have hlk := HR.out wy qb b7 b8 b9 hmr; replace X1 := Hd (X1.out.tr hx); replace AB := Hd (AB.out.ext hx)
   (try replace RB := Hd (RB.out.ext hx))
   have BB := Hd (And.intro hb7 (And.intro hb8 hb9)); refine kG hK AB.out.cell fun kh => ?_; (try simp only [kS]); clear hl1 hl2 hl3 hl4 hx hb7 hb8 hb9; refine rK [3] ?_; refine xK 3 (fun K hK => ?_) ?_
   {
   go_simp; refine kG hK AB.out.cell fun kh => ?_; (try simp only [kS]); clear hlk hmr; refine kX 4 kh ?_; simp only [kS]; refine kX 5 kh ?_; simp only [kS]; refine kX 6 kh ?_; simp only [kS]; refine rK [8] ?_; refine xK 8 (fun K hK => ?_) ?_
   {
   refine step_storeK (cells := #[.bool false, .nilFunc, .nilFunc]) rfl rfl RB.out rfl rfl tRule rfl (by simp [Value.oneCell']) ?_; intro wz hb ho; have x2 := X1.out.then_only ho (fun j (e : j = rb) => by rw [e]; exact LRB.out); have hna : ab ≠ rb := fun e => absurd (blk_ty AB.out (e ▸ RB.out)) (by decide); have ab2 := AB.out.only ho hna; have hn7 : b7 ≠ rb := fun e => absurd (blk_ty BB.out.1 (e ▸ RB.out)) (by decide); have hn8 : b8 ≠ rb := fun e => absurd (blk_ty BB.out.2.1 (e ▸ RB.out)) (by decide); have hn9 : b9 ≠ rb := fun e => absurd (blk_ty BB.out.2.2 (e ▸ RB.out)) (by decide); have hbb := And.intro (BB.out.1.only ho hn7) (And.intro (BB.out.2.1.only ho hn8) (BB.out.2.2.only ho hn9)); clear X1 AB RB BB hna hn7 hn8 hn9 ho; have X1 := Hd x2; have AB := Hd ab2; have RB := Hd hb; have BB := Hd hbb; clear x2 ab2 hb hbb; refine kG hK AB.out.cell fun kh => ?_; (try simp only [kS]); refine rK [9] ?_; refine xK 9 (fun K hK => ?_) ?_
   {
   go_simp; refine kH hK rfl ?_; (try clear kh); (try simp only [kS]); refine dK ?_ _; go_wp2; go_meet
   case rel => exact ⟨rb, b7, b8, b9, rfl, rfl, RB, AB, BB, X1⟩
   }
   exact nK
   }
   exact nK
   }
   exact nK
   }
   exact nK
   }
   exact nK
 case rest =>
 obtain ⟨rb, b7, b8, b9, rfl, rfl, RB, AB, BB, X1⟩ := hcut; obtain ⟨wE, rfl⟩ : ∃ W, W = wc := ⟨wc, rfl⟩; go_wp2; go_ret; exact ⟨ret_int HE.out.symm, by rw [HD.out]; exact H0.out.ext X1.out, Only.of_ext X1.out⟩
theorem act1 (x : Int) (h : MOw B w mb pb ub c p s vj) (hl : s.units.length ≤ 3) (hj : s.units.length = p.jam.length) :
 Calls Tryz.prog 40 #[.pointer (some ⟨mb, 0, none⟩), .agg #[.int .i64 1, .int .i64 x]] w (ActPost B w mb pb ub c p s vj 1 x) :=
 act_of 1 x h hl (u := true) (okf := 88) (dof := 89) (caps := noCaps) (by decide)
  (ruleAt_of (by unfold I64; decide) (fun b7 b8 b9 v' h => by unfold ruleL at h; simpa [noCaps] using h) (fun b7 b8 b9 => ⟨_, by unfold ruleL; simp; rfl⟩)) rfl (fun a w => by kernel_rfl) (fun a w => by kernel_rfl)
  (fun w1 i h1 hi => ok1 h1 hi) (fun w1 i b7 b8 b9 h1 hi h7 h8 h9 => do1 h1 hi)
theorem act2 (x : Int) (h : MOw B w mb pb ub c p s vj) (hl : s.units.length ≤ 3) (hj : s.units.length = p.jam.length) :
 Calls Tryz.prog 40 #[.pointer (some ⟨mb, 0, none⟩), .agg #[.int .i64 2, .int .i64 x]] w (ActPost B w mb pb ub c p s vj 2 x) :=
 act_of 2 x h hl (u := true) (okf := 90) (dof := 91) (caps := noCaps) (by decide)
  (ruleAt_of (by unfold I64; decide) (fun b7 b8 b9 v' h => by unfold ruleL at h; simpa [noCaps] using h) (fun b7 b8 b9 => ⟨_, by unfold ruleL; simp; rfl⟩)) rfl (fun a w => by kernel_rfl) (fun a w => by kernel_rfl)
  (fun w1 i h1 hi => ok2 h1 hi) (fun w1 i b7 b8 b9 h1 hi h7 h8 h9 => do2 h1 hi)
theorem act3 (x : Int) (h : MOw B w mb pb ub c p s vj) (hl : s.units.length ≤ 3) (hj : s.units.length = p.jam.length) :
 Calls Tryz.prog 40 #[.pointer (some ⟨mb, 0, none⟩), .agg #[.int .i64 3, .int .i64 x]] w (ActPost B w mb pb ub c p s vj 3 x) :=
 act_of 3 x h hl (u := true) (okf := 92) (dof := 93) (caps := noCaps) (by decide)
  (ruleAt_of (by unfold I64; decide) (fun b7 b8 b9 v' h => by unfold ruleL at h; simpa [noCaps] using h) (fun b7 b8 b9 => ⟨_, by unfold ruleL; simp; rfl⟩)) rfl (fun a w => by kernel_rfl) (fun a w => by kernel_rfl)
  (fun w1 i h1 hi => ok3 h1 hi) (fun w1 i b7 b8 b9 h1 hi h7 h8 h9 => do3 h1 hi)
theorem act4 (x : Int) (h : MOw B w mb pb ub c p s vj) (hl : s.units.length ≤ 3) (hj : s.units.length = p.jam.length) :
 Calls Tryz.prog 40 #[.pointer (some ⟨mb, 0, none⟩), .agg #[.int .i64 4, .int .i64 x]] w (ActPost B w mb pb ub c p s vj 4 x) :=
 act_of 4 x h hl (u := true) (okf := 94) (dof := 97) (caps := noCaps) (by decide)
  (ruleAt_of (by unfold I64; decide) (fun b7 b8 b9 v' h => by unfold ruleL at h; simpa [noCaps] using h) (fun b7 b8 b9 => ⟨_, by unfold ruleL; simp; rfl⟩)) rfl (fun a w => by kernel_rfl) (fun a w => by kernel_rfl)
  (fun w1 i h1 hi => ok4 h1 hi (Nat.le_trans hl (by decide)) hj) (fun w1 i b7 b8 b9 h1 hi h7 h8 h9 => do4 h1 hi)
theorem act5 (x : Int) (h : MOw B w mb pb ub c p s vj) (hl : s.units.length ≤ 3) (hj : s.units.length = p.jam.length) :
 Calls Tryz.prog 40 #[.pointer (some ⟨mb, 0, none⟩), .agg #[.int .i64 5, .int .i64 x]] w (ActPost B w mb pb ub c p s vj 5 x) :=
 act_of 5 x h hl (u := true) (okf := 98) (dof := 99) (caps := noCaps) (by decide)
  (ruleAt_of (by unfold I64; decide) (fun b7 b8 b9 v' h => by unfold ruleL at h; simpa [noCaps] using h) (fun b7 b8 b9 => ⟨_, by unfold ruleL; simp; rfl⟩)) rfl (fun a w => by kernel_rfl) (fun a w => by kernel_rfl)
  (fun w1 i h1 hi => ok5 h1 hi) (fun w1 i b7 b8 b9 h1 hi h7 h8 h9 => do5 h1 hi)
theorem act6 (x : Int) (h : MOw B w mb pb ub c p s vj) (hl : s.units.length ≤ 3) (hj : s.units.length = p.jam.length) :
 Calls Tryz.prog 40 #[.pointer (some ⟨mb, 0, none⟩), .agg #[.int .i64 6, .int .i64 x]] w (ActPost B w mb pb ub c p s vj 6 x) :=
 act_of 6 x h hl (u := true) (okf := 100) (dof := 101) (caps := noCaps) (by decide)
  (ruleAt_of (by unfold I64; decide) (fun b7 b8 b9 v' h => by unfold ruleL at h; simpa [noCaps] using h) (fun b7 b8 b9 => ⟨_, by unfold ruleL; simp; rfl⟩)) rfl (fun a w => by kernel_rfl) (fun a w => by kernel_rfl)
  (fun w1 i h1 hi => ok6 h1 hi (Nat.le_trans hl (by decide))) (fun w1 i b7 b8 b9 h1 hi h7 h8 h9 => do6 h1 hi)
theorem act7 (x : Int) (h : MOw B w mb pb ub c p s vj) (hl : s.units.length ≤ 3) (hj : s.units.length = p.jam.length) :
 Calls Tryz.prog 40 #[.pointer (some ⟨mb, 0, none⟩), .agg #[.int .i64 7, .int .i64 x]] w (ActPost B w mb pb ub c p s vj 7 x) :=
 act_of 7 x h hl (u := false) (okf := 102) (dof := 87) (caps := (fun b7 b8 b9 => #[.pointer (some ⟨b7, 0, none⟩)])) (by decide)
  (ruleAt_of (by unfold I64; decide) (fun b7 b8 b9 v' h => by unfold ruleL at h; simpa [noCaps] using h) (fun b7 b8 b9 => ⟨_, by unfold ruleL; simp; rfl⟩)) rfl (fun a w => by kernel_rfl) (fun a w => by kernel_rfl)
  (fun w1 i h1 hi => ok7 h1 (Nat.le_trans hl (by decide))) (fun w1 i b7 b8 b9 h1 hi h7 h8 h9 => doDr h1 h7 rfl)
theorem act8 (x : Int) (h : MOw B w mb pb ub c p s vj) (hl : s.units.length ≤ 3) (hj : s.units.length = p.jam.length) :
 Calls Tryz.prog 40 #[.pointer (some ⟨mb, 0, none⟩), .agg #[.int .i64 8, .int .i64 x]] w (ActPost B w mb pb ub c p s vj 8 x) :=
 act_of 8 x h hl (u := false) (okf := 103) (dof := 87) (caps := (fun b7 b8 b9 => #[.pointer (some ⟨b8, 0, none⟩)])) (by decide)
  (ruleAt_of (by unfold I64; decide) (fun b7 b8 b9 v' h => by unfold ruleL at h; simpa [noCaps] using h) (fun b7 b8 b9 => ⟨_, by unfold ruleL; simp; rfl⟩)) rfl (fun a w => by kernel_rfl) (fun a w => by kernel_rfl)
  (fun w1 i h1 hi => ok8 h1 (Nat.le_trans hl (by decide))) (fun w1 i b7 b8 b9 h1 hi h7 h8 h9 => doDr h1 h8 rfl)
theorem act9 (x : Int) (h : MOw B w mb pb ub c p s vj) (hl : s.units.length ≤ 3) (hj : s.units.length = p.jam.length) :
 Calls Tryz.prog 40 #[.pointer (some ⟨mb, 0, none⟩), .agg #[.int .i64 9, .int .i64 x]] w (ActPost B w mb pb ub c p s vj 9 x) :=
 act_of 9 x h hl (u := false) (okf := 104) (dof := 87) (caps := (fun b7 b8 b9 => #[.pointer (some ⟨b9, 0, none⟩)])) (by decide)
  (ruleAt_of (by unfold I64; decide) (fun b7 b8 b9 v' h => by unfold ruleL at h; simpa [noCaps] using h) (fun b7 b8 b9 => ⟨_, by unfold ruleL; simp; rfl⟩)) rfl (fun a w => by kernel_rfl) (fun a w => by kernel_rfl)
  (fun w1 i h1 hi => ok9 h1 (Nat.le_trans hl (by decide))) (fun w1 i b7 b8 b9 h1 hi h7 h8 h9 => doDr h1 h9 rfl)
theorem act10 (x : Int) (h : MOw B w mb pb ub c p s vj) (hl : s.units.length ≤ 3) (hj : s.units.length = p.jam.length) :
 Calls Tryz.prog 40 #[.pointer (some ⟨mb, 0, none⟩), .agg #[.int .i64 10, .int .i64 x]] w (ActPost B w mb pb ub c p s vj 10 x) :=
 act_of 10 x h hl (u := false) (okf := 105) (dof := 106) (caps := noCaps) (by decide)
  (ruleAt_of (by unfold I64; decide) (fun b7 b8 b9 v' h => by unfold ruleL at h; simpa [noCaps] using h) (fun b7 b8 b9 => ⟨_, by unfold ruleL; simp; rfl⟩)) rfl (fun a w => by kernel_rfl) (fun a w => by kernel_rfl)
  (fun w1 i h1 hi => ok10 h1 hi) (fun w1 i b7 b8 b9 h1 hi h7 h8 h9 => do10 h1)
theorem act11 (x : Int) (h : MOw B w mb pb ub c p s vj) (hl : s.units.length ≤ 3) (hj : s.units.length = p.jam.length) :
 Calls Tryz.prog 40 #[.pointer (some ⟨mb, 0, none⟩), .agg #[.int .i64 11, .int .i64 x]] w (ActPost B w mb pb ub c p s vj 11 x) :=
 act_of 11 x h hl (u := false) (okf := 107) (dof := 108) (caps := noCaps) (by decide)
  (ruleAt_of (by unfold I64; decide) (fun b7 b8 b9 v' h => by unfold ruleL at h; simpa [noCaps] using h) (fun b7 b8 b9 => ⟨_, by unfold ruleL; simp; rfl⟩)) rfl (fun a w => by kernel_rfl) (fun a w => by kernel_rfl)
  (fun w1 i h1 hi => ok11 h1 hi) (fun w1 i b7 b8 b9 h1 hi h7 h8 h9 => do11 h1)
theorem act12 (x : Int) (h : MOw B w mb pb ub c p s vj) (hl : s.units.length ≤ 3) (hj : s.units.length = p.jam.length) :
 Calls Tryz.prog 40 #[.pointer (some ⟨mb, 0, none⟩), .agg #[.int .i64 12, .int .i64 x]] w (ActPost B w mb pb ub c p s vj 12 x) :=
 act_of 12 x h hl (u := true) (okf := 109) (dof := 110) (caps := noCaps) (by decide)
  (ruleAt_of (by unfold I64; decide) (fun b7 b8 b9 v' h => by unfold ruleL at h; simpa [noCaps] using h) (fun b7 b8 b9 => ⟨_, by unfold ruleL; simp; rfl⟩)) rfl (fun a w => by kernel_rfl) (fun a w => by kernel_rfl)
  (fun w1 i h1 hi => ok12 h1 hi) (fun w1 i b7 b8 b9 h1 hi h7 h8 h9 => do12 h1 hi)
theorem act_any (k x : Int) (h : MOw B w mb pb ub c p s vj) (hl : s.units.length ≤ 3) (hj : s.units.length = p.jam.length) (hk : I64 k) :
 Calls Tryz.prog 40 #[.pointer (some ⟨mb, 0, none⟩), .agg #[.int .i64 k, .int .i64 x]] w (ActPost B w mb pb ub c p s vj k x) := by
 by_cases hm : k < 1 ∨ 12 < k
 · exact act_miss k x h hk hm
 {
 have : k = 1 ∨ k = 2 ∨ k = 3 ∨ k = 4 ∨ k = 5 ∨ k = 6 ∨ k = 7 ∨ k = 8 ∨ k = 9 ∨ k = 10 ∨ k = 11 ∨ k = 12 := by omega
 rcases this with rfl | rfl | rfl | rfl | rfl | rfl | rfl | rfl | rfl | rfl | rfl | rfl
 · exact act1 x h hl hj
 · exact act2 x h hl hj
 · exact act3 x h hl hj
 · exact act4 x h hl hj
 · exact act5 x h hl hj
 · exact act6 x h hl hj
 · exact act7 x h hl hj
 · exact act8 x h hl hj
 · exact act9 x h hl hj
 · exact act10 x h hl hj
 · exact act11 x h hl hj
 · exact act12 x h hl hj
 }
end
end Go.Proofs.YtojobdffnnibaaaGreat