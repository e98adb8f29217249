/- act. -/
import Derived.Test.YtojobdffnnibaaaGreatPDo
import Derived.Test.YtojobdffnnibaaaGreatJ6
import Derived.Test.YtojobdffnnibaaaGreatPRul4
namespace Go.Proofs.YtojobdffnnibaaaGreat
open Go.RowKit
set_option linter.unusedVariables false
set_option linter.unusedSimpArgs false
theorem tRule : (Tryz.prog.info? 154).map (·.size) = some 3 := by kernel_rfl
/-- What the rules hold at a kind. -/
def RuleAt (k : Int) (u : Bool) (okf dof : Nat) (caps : Nat → Nat → Nat → Array Value) : Prop :=
 ∀ (w' : World) (mb b7 b8 b9 : Nat), MapR Tryz.prog 3 w' mb (ruleL b7 b8 b9) → (Instr.lookup 156 (.map (some mb)) (.int .i64 k) true).run Tryz.prog w' = .ok (.tuple #[.agg #[.bool u, fnV okf, .func (.func dof) #[] (caps b7 b8 b9)], .bool true]) w'
theorem ruleAt_of {k : Int} (hk : I64 k) {u : Bool} {okf dof : Nat} {caps : Nat → Nat → Nat → Array Value}
 (h1 : ∀ b7 b8 b9 v', (Value.int .i64 k, v') ∈ ruleL b7 b8 b9 → v' = .agg #[.bool u, fnV okf, .func (.func dof) #[] (caps b7 b8 b9)])
 (h2 : ∀ b7 b8 b9, ∃ v', (Value.int .i64 k, v') ∈ ruleL b7 b8 b9) : RuleAt k u okf dof caps := fun w' mb b7 b8 b9 hm =>
 hm.look kInt uRules (keyInt hk) (h1 b7 b8 b9) (h2 b7 b8 b9) true
def noCaps : Nat → Nat → Nat → Array Value := fun _ _ _ => #[]
theorem zRule (w : World) : (zeroValue 154).run Tryz.prog w = .ok (.agg #[.bool false, .nilFunc, .nilFunc]) w := by kernel_rfl
theorem ruleMiss {k : Int} (hk : I64 k) (h : k < 1 ∨ 12 < k) (w' : World) (mb b7 b8 b9 : Nat) (hm : MapR Tryz.prog 3 w' mb (ruleL b7 b8 b9)) :
 (Instr.lookup 156 (.map (some mb)) (.int .i64 k) true).run Tryz.prog w' = .ok (.tuple #[.agg #[.bool false, .nilFunc, .nilFunc], .bool false]) w' :=
 hm.miss kInt uRules (keyInt hk) (zRule w') (fun y hy => by
  unfold ruleL at hy; simp only [List.mem_cons, List.not_mem_nil, or_false] at hy
  rcases hy with rfl | rfl | rfl | rfl | rfl | rfl | rfl | rfl | rfl | rfl | rfl | rfl <;> (intro e; cases e; omega)) true
/-- What act does. -/
def ActPost (B : Nat) (w : World) (mb pb ub c : Nat) (p : PressD) (s : StD) (vj : Value) (k x : Int) (e : Ending) (w' : World) : Prop :=
 e = .returned (.int .i64 (actErr p s k x)) ∧ MOw B w' mb pb ub c p (actD p s k x) vj ∧ Only (fun b => b = mb ∨ b = ub) w w'
section
variable {B : Nat} {w : World} {mb pb ub c : Nat} {p : PressD} {s : StD} {vj : Value}
set_option maxRecDepth 100000 in
set_option maxHeartbeats 4000000 in
theorem act_of (k x : Int) (h : MOw B w mb pb ub c p s vj) (hl : s.units.length ≤ 3) {u : Bool} {okf dof : Nat} {caps : Nat → Nat → Nat → Array Value}
 (hk : 1 ≤ k ∧ k ≤ 12) (hr : RuleAt k u okf dof caps) (hu : ofUnit k = u) (hid1 : ∀ (a : Array Value) (w : World), (callFunc okf a).run Tryz.prog w = .ok (.enter okf a) w) (hid2 : ∀ (a : Array Value) (w : World), (callFunc dof a).run Tryz.prog w = .ok (.enter dof a) w)
 (hok : ∀ w1 i, MOw B w1 mb pb ub c p s vj → i < s.units.length → OkC okf (allowD p s k i) w1 mb ub i)
 (hdo : ∀ w1 i b7 b8 b9, MOw B w1 mb pb ub c p s vj → i < s.units.length → Blk w1 b7 #[.int .i64 1] 3 → Blk w1 b8 #[.int .i64 2] 3 → Blk w1 b9 #[.int .i64 0] 3 → DoC B dof (caps b7 b8 b9) w1 mb pb ub c i p (doD s k i) vj) :
 Calls Tryz.prog 40 #[.pointer (some ⟨mb, 0, none⟩), .agg #[.int .i64 k, .int .i64 x]] w (ActPost B w mb pb ub c p s vj k x) := by
 have he : actErr p s k x = if x < 0 ∨ (s.units.length : Int) ≤ x ∨ (u = false ∧ x ≠ 0) then 1 else if allowD p s k x.toNat then 0 else 80 := by
  unfold actErr; rw [if_neg (by omega), hu]
 have hd : actD p s k x = if actErr p s k x = 0 then doD s k x.toNat else s := rfl; have H0 := Hd h; have HL := Hd hl; have HR := Hd hr; have HOK := Hd hok; have HDO := Hd hdo; have HE := Hd he; have HD := Hd hd; clear h hl hr hok hdo he hd; clear hu hk
 go_enter Tryz.func40, Tryz.ntmps40
 go_upto_region 1 with (
  (with_reducible refine wpList_boxA (t := 72) (cs := #[.int .i64 k, .int .i64 x]) rfl rfl rfl ?_); rintro ab w1 hx1 hx2 hx3; have AB := Hd hx1; have X1 := Hd hx2; clear hx1 hx2
  clear hx3)
 go_cut [5, 6] (fun v5 v6 W => ∃ rb b7 b8 b9, v5 = .pointer (some ⟨rb, 0, none⟩) ∧ v6 = .bool true ∧ Hid (Blk W rb #[.bool u, fnV okf, .func (.func dof) #[] (caps b7 b8 b9)] 154) ∧ Hid (Blk W ab #[.int .i64 k, .int .i64 x] 72) ∧ Hid (Blk W b7 #[.int .i64 1] 3 ∧ Blk W b8 #[.int .i64 2] 3 ∧ Blk W b9 #[.int .i64 0] 3) ∧ Hid (Ext w W))
 case first =>
  as_aux_lemma =>
   have xd : Ext w1 w1.drew := (Below.refl _ w1).drew; have x2 := X1.out.tr xd; have ab2 := AB.out.ext xd; clear AB X1; refine wp_region_K (fun wx => ∀ j, wx.cell? ⟨ab, j, none⟩ = (#[.int .i64 k, .int .i64 x] : Array Value)[j]?) 9 (by kernel_rfl) ab2.cell (fun kh => ?_); generalize w1.drew = wA at *; have X1 := Hd x2; have AB := Hd ab2; clear x2 ab2; clear xd; refine kX 1 kh ?_; simp only [kS]; refine kX 2 kh ?_; simp only [kS]; refine rK [0, 7] ?_; refine xK 0 (fun K hK => ?_) ?_
   {
   refine cK #[] Tryz.func73 (rules_any _) ?_; rintro e wy ⟨qb, b7, b8, b9, rfl, hmr, hb7, hb8, hb9, hl1, hl2, hl3, hl4, hx⟩; refine ⟨_, rfl, ?_⟩; have hlk := HR.out wy qb b7 b8 b9 hmr; replace X1 := Hd (X1.out.tr hx); replace AB := Hd (AB.out.ext hx)
   (try replace RB := Hd (RB.out.ext hx))
   have BB := Hd (And.intro hb7 (And.intro hb8 hb9)); refine kG hK AB.out.cell fun kh => ?_; (try simp only [kS]); clear hl1 hl2 hl3 hl4 hx hb7 hb8 hb9; refine rK [3, 7] ?_; refine xK 3 (fun K hK => ?_) ?_
   {
   go_simp; refine kG hK AB.out.cell fun kh => ?_; (try simp only [kS]); clear hlk hmr; refine kX 4 kh ?_; simp only [kS]; refine kX 5 kh ?_; simp only [kS]; refine kX 6 kh ?_; simp only [kS]; refine rK [7] ?_; refine xK 7 (fun K hK => ?_) ?_
   {
   refine step_allocA (t := 154) rfl rfl zRule ?_; intro rb wy hb hx hl; have lr : w.heap.size ≤ rb := Nat.le_trans X1.out.size hl; replace X1 := Hd (X1.out.tr hx); replace AB := Hd (AB.out.ext hx)
   (try (have hb2 := And.intro (BB.out.1.ext hx) (And.intro (BB.out.2.1.ext hx) (BB.out.2.2.ext hx))
         replace BB := Hd hb2
         clear hb2))
   (try (have hm2 := hmr.ext hx
         clear hlk; have hlk := HR.out wy qb b7 b8 b9 hm2; clear hmr; have hmr := hm2
         clear hm2))
   have RB := Hd hb; have LRB := Hd lr; clear hb lr; refine kG hK AB.out.cell fun kh => ?_; (try simp only [kS]); clear hx hl; refine rK [8] ?_; refine xK 8 (fun K hK => ?_) ?_
   {
   refine step_storeK (cells := #[.bool u, fnV okf, .func (.func dof) #[] (caps b7 b8 b9)]) rfl rfl RB.out rfl rfl tRule rfl (by simp [Value.oneCell']) ?_; intro wz hb ho; have x2 := X1.out.then_only ho (fun j (e : j = rb) => by rw [e]; exact LRB.out); have hna : ab ≠ rb := fun e => absurd (blk_ty AB.out (e ▸ RB.out)) (by decide); have ab2 := AB.out.only ho hna; have hn7 : b7 ≠ rb := fun e => absurd (blk_ty BB.out.1 (e ▸ RB.out)) (by decide); have hn8 : b8 ≠ rb := fun e => absurd (blk_ty BB.out.2.1 (e ▸ RB.out)) (by decide); have hn9 : b9 ≠ rb := fun e => absurd (blk_ty BB.out.2.2 (e ▸ RB.out)) (by decide); have hbb := And.intro (BB.out.1.only ho hn7) (And.intro (BB.out.2.1.only ho hn8) (BB.out.2.2.only ho hn9)); clear X1 AB RB BB hna hn7 hn8 hn9 ho; have X1 := Hd x2; have AB := Hd ab2; have RB := Hd hb; have BB := Hd hbb; clear x2 ab2 hb hbb; refine kG hK AB.out.cell fun kh => ?_; (try simp only [kS]); refine rK [9] ?_; refine xK 9 (fun K hK => ?_) ?_
   {
   go_simp; refine kH hK rfl ?_; (try clear kh); (try simp only [kS]); refine dK ?_ _; go_wp2; go_meet
   case rel => exact ⟨rb, b7, b8, b9, rfl, rfl, RB, AB, BB, X1⟩
   }
   exact nK
   }
   exact nK
   }
   exact nK
   }
   refine xK 7 (fun K hK => ?_) ?_
   {
   refine step_allocA (t := 154) rfl rfl zRule ?_; intro rb wy hb hx hl; have lr : w.heap.size ≤ rb := Nat.le_trans X1.out.size hl; replace X1 := Hd (X1.out.tr hx); replace AB := Hd (AB.out.ext hx)
   (try (have hb2 := And.intro (BB.out.1.ext hx) (And.intro (BB.out.2.1.ext hx) (BB.out.2.2.ext hx))
         replace BB := Hd hb2
         clear hb2))
   (try (have hm2 := hmr.ext hx
         clear hlk; have hlk := HR.out wy qb b7 b8 b9 hm2; clear hmr; have hmr := hm2
         clear hm2))
   have RB := Hd hb; have LRB := Hd lr; clear hb lr; refine kG hK AB.out.cell fun kh => ?_; (try simp only [kS]); clear hx hl; refine rK [3] ?_; refine xK 3 (fun K hK => ?_) ?_
   {
   go_simp; refine kG hK AB.out.cell fun kh => ?_; (try simp only [kS]); clear hlk hmr; refine kX 4 kh ?_; simp only [kS]; refine kX 5 kh ?_; simp only [kS]; refine kX 6 kh ?_; simp only [kS]; refine rK [8] ?_; refine xK 8 (fun K hK => ?_) ?_
   {
   refine step_storeK (cells := #[.bool u, fnV okf, .func (.func dof) #[] (caps b7 b8 b9)]) rfl rfl RB.out rfl rfl tRule rfl (by simp [Value.oneCell']) ?_; intro wz hb ho; have x2 := X1.out.then_only ho (fun j (e : j = rb) => by rw [e]; exact LRB.out); have hna : ab ≠ rb := fun e => absurd (blk_ty AB.out (e ▸ RB.out)) (by decide); have ab2 := AB.out.only ho hna; have hn7 : b7 ≠ rb := fun e => absurd (blk_ty BB.out.1 (e ▸ RB.out)) (by decide); have hn8 : b8 ≠ rb := fun e => absurd (blk_ty BB.out.2.1 (e ▸ RB.out)) (by decide); have hn9 : b9 ≠ rb := fun e => absurd (blk_ty BB.out.2.2 (e ▸ RB.out)) (by decide); have hbb := And.intro (BB.out.1.only ho hn7) (And.intro (BB.out.2.1.only ho hn8) (BB.out.2.2.only ho hn9)); clear X1 AB RB BB hna hn7 hn8 hn9 ho; have X1 := Hd x2; have AB := Hd ab2; have RB := Hd hb; have BB := Hd hbb; clear x2 ab2 hb hbb; refine kG hK AB.out.cell fun kh => ?_; (try simp only [kS]); refine rK [9] ?_; refine xK 9 (fun K hK => ?_) ?_
   {
   go_simp; refine kH hK rfl ?_; (try clear kh); (try simp only [kS]); refine dK ?_ _; go_wp2; go_meet
   case rel => exact ⟨rb, b7, b8, b9, rfl, rfl, RB, AB, BB, X1⟩
   }
   exact nK
   }
   exact nK
   }
   exact nK
   }
   exact nK
   }
   refine xK 7 (fun K hK => ?_) ?_
   {
   refine step_allocA (t := 154) rfl rfl zRule ?_; intro rb wy hb hx hl; have lr : w.heap.size ≤ rb := Nat.le_trans X1.out.size hl; replace X1 := Hd (X1.out.tr hx); replace AB := Hd (AB.out.ext hx)
   (try (have hb2 := And.intro (BB.out.1.ext hx) (And.intro (BB.out.2.1.ext hx) (BB.out.2.2.ext hx))
         replace BB := Hd hb2
         clear hb2))
   (try (have hm2 := hmr.ext hx
         clear hlk; have hlk := HR.out wy qb b7 b8 b9 hm2; clear hmr; have hmr := hm2
         clear hm2))
   have RB := Hd hb; have LRB := Hd lr; clear hb lr; refine kG hK AB.out.cell fun kh => ?_; (try simp only [kS]); clear hx hl; refine rK [0] ?_; refine xK 0 (fun K hK => ?_) ?_
   {
   refine cK #[] Tryz.func73 (rules_any _) ?_; rintro e wy ⟨qb, b7, b8, b9, rfl, hmr, hb7, hb8, hb9, hl1, hl2, hl3, hl4, hx⟩; refine ⟨_, rfl, ?_⟩; have hlk := HR.out wy qb b7 b8 b9 hmr; replace X1 := Hd (X1.out.tr hx); replace AB := Hd (AB.out.ext hx)
   (try replace RB := Hd (RB.out.ext hx))
   have BB := Hd (And.intro hb7 (And.intro hb8 hb9)); refine kG hK AB.out.cell fun kh => ?_; (try simp only [kS]); clear hl1 hl2 hl3 hl4 hx hb7 hb8 hb9; refine rK [3] ?_; refine xK 3 (fun K hK => ?_) ?_
   {
   go_simp; refine kG hK AB.out.cell fun kh => ?_; (try simp only [kS]); clear hlk hmr; refine kX 4 kh ?_; simp only [kS]; refine kX 5 kh ?_; simp only [kS]; refine kX 6 kh ?_; simp only [kS]; refine rK [8] ?_; refine xK 8 (fun K hK => ?_) ?_
   {
   refine step_storeK (cells := #[.bool u, fnV okf, .func (.func dof) #[] (caps b7 b8 b9)]) rfl rfl RB.out rfl rfl tRule rfl (by simp [Value.oneCell']) ?_; intro wz hb ho; have x2 := X1.out.then_only ho (fun j (e : j = rb) => by rw [e]; exact LRB.out); have hna : ab ≠ rb := fun e => absurd (blk_ty AB.out (e ▸ RB.out)) (by decide); have ab2 := AB.out.only ho hna; have hn7 : b7 ≠ rb := fun e => absurd (blk_ty BB.out.1 (e ▸ RB.out)) (by decide); have hn8 : b8 ≠ rb := fun e => absurd (blk_ty BB.out.2.1 (e ▸ RB.out)) (by decide); have hn9 : b9 ≠ rb := fun e => absurd (blk_ty BB.out.2.2 (e ▸ RB.out)) (by decide); have hbb := And.intro (BB.out.1.only ho hn7) (And.intro (BB.out.2.1.only ho hn8) (BB.out.2.2.only ho hn9)); clear X1 AB RB BB hna hn7 hn8 hn9 ho; have X1 := Hd x2; have AB := Hd ab2; have RB := Hd hb; have BB := Hd hbb; clear x2 ab2 hb hbb; refine kG hK AB.out.cell fun kh => ?_; (try simp only [kS]); refine rK [9] ?_; refine xK 9 (fun K hK => ?_) ?_
   {
   go_simp; refine kH hK rfl ?_; (try clear kh); (try simp only [kS]); refine dK ?_ _; go_wp2; go_meet
   case rel => exact ⟨rb, b7, b8, b9, rfl, rfl, RB, AB, BB, X1⟩
   }
   exact nK
   }
   exact nK
   }
   exact nK
   }
   exact nK
   }
   exact nK
 case rest =>
 obtain ⟨rb, b7, b8, b9, rfl, rfl, RB, AB, BB, X1⟩ := hcut; obtain ⟨wE, rfl⟩ : ∃ W, W = wc := ⟨wc, rfl⟩; have hm := H0.out.ext X1.out; have d := hm.bm.cell; have c1 := AB.out.cell; have c2 := RB.out.cell; have hll := HL.out; obtain ⟨b1, hb1⟩ : ∃ b, inB x 0 ((s.units.length:Int) - 1) = b := ⟨_, rfl⟩
 have hia : ∀ n, Calls Tryz.prog 66 #[.int .i64 x, .int .i64 0, .int .i64 ((s.units.length:Int) - 1)] (wE.drewN n) fun e w' => e = .returned (.bool b1) ∧ w' = wE.drewN n := fun n =>
  (in_any x 0 ((s.units.length:Int) - 1) (wE.drewN n)).mono fun e w' ⟨a, b⟩ => ⟨by rw [a, hb1], b.symm⟩
 have HIA := Hd hia; have HM := Hd hm; clear hia hm
 cases b1
 {
 have hx0 : True := trivial; have h1 : actErr p s k x = 1 := (by rw [HE.out, if_pos (by first | (right; right; exact ⟨rfl, hx0⟩) | (unfold inB at hb1; simp at hb1; omega))]); have hac : actD p s k x = s := (by rw [HD.out, if_neg (by rw [h1]; decide)]); have H1 := Hd h1; have HAC := Hd hac; clear h1 hac
 go_upto_region 4 with (fail)
 go_quiet ((go_at_call 66; exact Calls.quiet_of_same (HIA.out _)))
 have xq : Ext wE (wE.drewN nq) := Ext.of_drewN _ _; generalize wE.drewN nq = wq at *; have XQ := Hd xq; clear xq; go_wp2; go_ret; exact ⟨ret_int H1.out.symm, by rw [HAC.out]; exact HM.out.ext XQ.out, Only.of_ext (X1.out.tr XQ.out)⟩
 }
 {
 have hxb := (inB_iff _ _ _).1 hb1
 cases u
 {
 by_cases hx0 : x = 0
 {
 obtain ⟨i, rfl⟩ : ∃ i : Nat, x = i := ⟨x.toNat, by omega⟩; have hi : i < s.units.length := (by omega); obtain ⟨ok, hok1⟩ : ∃ b, allowD p s k i = b := ⟨_, rfl⟩
 have he1 : actErr p s k i = if ok then 0 else 80 := by
  rw [HE.out, if_neg (by simp; omega), Int.toNat_natCast, hok1]
 have hd1 : actD p s k i = if ok then doD s k i else s := by
  rw [HD.out, he1, Int.toNat_natCast]; cases ok <;> simp
 have hokc := fun w1 (kx : Ext wE w1) => HOK.out w1 i (HM.out.ext kx) hi; rw [hok1] at hokc; have HE1 := Hd he1; have HD1 := Hd hd1; have HOKC := Hd hokc; clear he1 hd1 hokc; clear hok1
 try (have q0 : ((i:Int) != 0) = false := by rw [hx0]; rfl
      clear hx0)
 go_upto_region 4 with (fail)
 go_quiet ((go_at_call 66; exact Calls.quiet_of_same (HIA.out _)))
 have xq : Ext wE (wE.drewN nq) := Ext.of_drewN _ _; generalize wE.drewN nq = wq at *; have d' := (HM.out.ext xq).bm.cell; have c1' := (AB.out.ext xq).cell; have c2' := (RB.out.ext xq).cell; clear d c1 c2; have XQ := Hd xq; clear xq
 go_upto_region 6 with (fail)
 have i1 : (0:Int) ≤ (i:Int) := (by omega); have i2 : (i:Int) < (s.units.length:Int) := by omega
 go_quiet (fail)
 have xq := XQ.out.tr (Ext.of_drewN wq nq); generalize wq.drewN nq = wp at *; have c2 := (RB.out.ext xq).cell; clear d' c1' c2' XQ; have XQ := Hd xq; clear xq
 cases ok
 {
 go_wp2_with (
  refine (HOKC.out _ XQ.out).mono ?_; rintro e w9 ⟨rfl, hx9⟩; have x9 := XQ.out.tr hx9; clear XQ hx9; have XQ := Hd x9
  clear x9)
 go_ret; exact ⟨ret_int (by rw [HE1.out]; rfl), by rw [HD1.out]; exact HM.out.ext XQ.out, Only.of_ext (X1.out.tr XQ.out)⟩
 }
 {
 have hdo := fun w1 (kx : Ext wE w1) => HDO.out w1 i b7 b8 b9 (HM.out.ext kx) hi (BB.out.1.ext kx) (BB.out.2.1.ext kx) (BB.out.2.2.ext kx); obtain ⟨cp, hcp⟩ : ∃ x, caps b7 b8 b9 = x := ⟨_, rfl⟩; rw [hcp] at hdo c2; have hrb := RB.out; rw [hcp] at hrb; have HDOC := Hd hdo; have RBX := Hd hrb; clear hdo hrb; clear hcp
 go_wp2_with (first
  | (refine (HOKC.out _ XQ.out).mono ?_
     rintro e w9 ⟨rfl, hx9⟩; have x9 := XQ.out.tr hx9; have c2' := (RBX.out.ext x9).cell; clear XQ hx9 c2 HOKC; have XQ := Hd x9
     clear x9)
  | (refine (HDOC.out _ XQ.out).mono ?_
     rintro e w9 ⟨rfl, hm9, ho9⟩; have ho := (Only.of_ext (S := fun b => b = mb ∨ b = ub) (X1.out.tr XQ.out)).tr ho9; clear c2' ho9; have HM9 := Hd hm9; have HO9 := Hd ho
     clear hm9 ho))
 go_ret; exact ⟨ret_int (by rw [HE1.out]; rfl), by rw [HD1.out]; exact HM9.out, HO9.out⟩
 }
 }
 {
 have h1 : actErr p s k x = 1 := (by rw [HE.out, if_pos (by first | (right; right; exact ⟨rfl, hx0⟩) | (unfold inB at hb1; simp at hb1; omega))]); have hac : actD p s k x = s := (by rw [HD.out, if_neg (by rw [h1]; decide)]); have H1 := Hd h1; have HAC := Hd hac; clear h1 hac
 go_upto_region 4 with (fail)
 go_quiet ((go_at_call 66; exact Calls.quiet_of_same (HIA.out _)))
 have xq : Ext wE (wE.drewN nq) := Ext.of_drewN _ _; generalize wE.drewN nq = wq at *; have XQ := Hd xq; clear xq; go_wp2; go_ret; exact ⟨ret_int H1.out.symm, by rw [HAC.out]; exact HM.out.ext XQ.out, Only.of_ext (X1.out.tr XQ.out)⟩
 }
 }
 {
 obtain ⟨i, rfl⟩ : ∃ i : Nat, x = i := ⟨x.toNat, by omega⟩; have hi : i < s.units.length := (by omega); obtain ⟨ok, hok1⟩ : ∃ b, allowD p s k i = b := ⟨_, rfl⟩
 have he1 : actErr p s k i = if ok then 0 else 80 := by
  rw [HE.out, if_neg (by simp; omega), Int.toNat_natCast, hok1]
 have hd1 : actD p s k i = if ok then doD s k i else s := by
  rw [HD.out, he1, Int.toNat_natCast]; cases ok <;> simp
 have hokc := fun w1 (kx : Ext wE w1) => HOK.out w1 i (HM.out.ext kx) hi; rw [hok1] at hokc; have HE1 := Hd he1; have HD1 := Hd hd1; have HOKC := Hd hokc; clear he1 hd1 hokc; clear hok1
 try (have q0 : ((i:Int) != 0) = false := by rw [hx0]; rfl
      clear hx0)
 go_upto_region 4 with (fail)
 go_quiet ((go_at_call 66; exact Calls.quiet_of_same (HIA.out _)))
 have xq : Ext wE (wE.drewN nq) := Ext.of_drewN _ _; generalize wE.drewN nq = wq at *; have d' := (HM.out.ext xq).bm.cell; have c1' := (AB.out.ext xq).cell; have c2' := (RB.out.ext xq).cell; clear d c1 c2; have XQ := Hd xq; clear xq
 go_upto_region 6 with (fail)
 have i1 : (0:Int) ≤ (i:Int) := (by omega); have i2 : (i:Int) < (s.units.length:Int) := by omega
 go_quiet (fail)
 have xq := XQ.out.tr (Ext.of_drewN wq nq); generalize wq.drewN nq = wp at *; have c2 := (RB.out.ext xq).cell; clear d' c1' c2' XQ; have XQ := Hd xq; clear xq
 cases ok
 {
 go_wp2_with (
  refine (HOKC.out _ XQ.out).mono ?_; rintro e w9 ⟨rfl, hx9⟩; have x9 := XQ.out.tr hx9; clear XQ hx9; have XQ := Hd x9
  clear x9)
 go_ret; exact ⟨ret_int (by rw [HE1.out]; rfl), by rw [HD1.out]; exact HM.out.ext XQ.out, Only.of_ext (X1.out.tr XQ.out)⟩
 }
 {
 have hdo := fun w1 (kx : Ext wE w1) => HDO.out w1 i b7 b8 b9 (HM.out.ext kx) hi (BB.out.1.ext kx) (BB.out.2.1.ext kx) (BB.out.2.2.ext kx); obtain ⟨cp, hcp⟩ : ∃ x, caps b7 b8 b9 = x := ⟨_, rfl⟩; rw [hcp] at hdo c2; have hrb := RB.out; rw [hcp] at hrb; have HDOC := Hd hdo; have RBX := Hd hrb; clear hdo hrb; clear hcp
 go_wp2_with (first
  | (refine (HOKC.out _ XQ.out).mono ?_
     rintro e w9 ⟨rfl, hx9⟩; have x9 := XQ.out.tr hx9; have c2' := (RBX.out.ext x9).cell; clear XQ hx9 c2 HOKC; have XQ := Hd x9
     clear x9)
  | (refine (HDOC.out _ XQ.out).mono ?_
     rintro e w9 ⟨rfl, hm9, ho9⟩; have ho := (Only.of_ext (S := fun b => b = mb ∨ b = ub) (X1.out.tr XQ.out)).tr ho9; clear c2' ho9; have HM9 := Hd hm9; have HO9 := Hd ho
     clear hm9 ho))
 go_ret; exact ⟨ret_int (by rw [HE1.out]; rfl), by rw [HD1.out]; exact HM9.out, HO9.out⟩
 }
 }
 }
end
end Go.Proofs.YtojobdffnnibaaaGreat