/- PressActs: the reference's after. -/
import Derived.Test.YtojobdffnnibaaaGreatJ11
namespace Go.Proofs.YtojobdffnnibaaaGreat
open Go.RowKit
set_option linter.unusedVariables false
set_option linter.unusedSimpArgs false
theorem uL_set5 {us : List UnitD} {i : Nat} (u : UnitD) (hi : i < us.length) :
 (((((uL us).set (i * 5 + 0) (.bool u.op)).set (i * 5 + 1) (.bool u.th)).set (i * 5 + 2) (.bool u.cl)).set (i * 5 + 3) (.bool u.pr)).set (i * 5 + 4) (.int .i64 u.ink) = uL (us.set i u) := by
 obtain ⟨y, hy⟩ : ∃ y, us[i] = y := ⟨_, rfl⟩; obtain ⟨a, b, c, d, e⟩ := y; obtain ⟨a', b', c', d', e'⟩ := u; dsimp only
 rw [uL_set (u := ⟨a', b, c, d, e⟩) hi (by omega) (by rw [hy]; rfl),
  uL_set (u := ⟨a', b', c, d, e⟩) (by rw [List.length_set]; exact hi) (by omega) (by rw [List.getElem_set_self]; rfl), List.set_set,
  uL_set (u := ⟨a', b', c', d, e⟩) (by rw [List.length_set]; exact hi) (by omega) (by rw [List.getElem_set_self]; rfl), List.set_set,
  uL_set (u := ⟨a', b', c', d', e⟩) (by rw [List.length_set]; exact hi) (by omega) (by rw [List.getElem_set_self]; rfl), List.set_set,
  uL_set (u := ⟨a', b', c', d', e'⟩) (by rw [List.length_set]; exact hi) (by omega) (by rw [List.getElem_set_self]; rfl), List.set_set]
theorem do_at {s : StD} {i : Nat} {uop uth ucl upr : Bool} {uin : Int} (hg : s.units.getD i default = ⟨uop, uth, ucl, upr, uin⟩) (hs : s.units.set i ⟨uop, uth, ucl, upr, uin⟩ = s.units) :
 doD s 1 i = ⟨s.drive, s.folder, s.units.set i ⟨true, uth, ucl, upr, uin⟩, s.fresh⟩ ∧
 doD s 2 i = ⟨s.drive, s.folder, s.units.set i ⟨false, uth, ucl, upr, uin⟩, s.fresh⟩ ∧
 doD s 3 i = ⟨s.drive, s.folder, s.units.set i ⟨uop, true, ucl, upr, uin⟩, s.fresh⟩ ∧
 doD s 4 i = ⟨s.drive, s.folder, s.units.set i ⟨uop, uth, true, upr, 0⟩, s.fresh⟩ ∧
 doD s 5 i = ⟨s.drive, s.folder, s.units.set i ⟨uop, uth, ucl, true, uin⟩, s.fresh⟩ ∧
 doD s 6 i = ⟨s.drive, s.folder, s.units.set i ⟨uop, uth, ucl, false, uin⟩, s.fresh⟩ ∧
 doD s 7 i = ⟨1, s.folder, s.units.set i ⟨uop, uth, ucl, upr, uin⟩, 0⟩ ∧
 doD s 8 i = ⟨2, s.folder, s.units.set i ⟨uop, uth, ucl, upr, uin⟩, 0⟩ ∧
 doD s 9 i = ⟨0, s.folder, s.units.set i ⟨uop, uth, ucl, upr, uin⟩, 0⟩ ∧
 doD s 10 i = ⟨s.drive, true, s.units.set i ⟨uop, uth, ucl, upr, uin⟩, s.fresh⟩ ∧
 doD s 11 i = ⟨s.drive, false, s.units.set i ⟨uop, uth, ucl, upr, uin⟩, s.fresh⟩ ∧
 doD s 12 i = ⟨s.drive, s.folder, s.units.set i ⟨uop, false, ucl, upr, uin⟩, s.fresh⟩ := by
 rw [hs]; refine ⟨?_, ?_, ?_, ?_, ?_, ?_, ?_, ?_, ?_, ?_, ?_, ?_⟩ <;> (simp only [doD, hg]; rfl)
section
variable {P : Program} {w : World} {ops : Array Oper} {rest : List Oper} {o : Oper} {a : Act} {Q : Exit → Act → World → Prop}
theorem wpList_setU (hgd : o.guard = none) {ty : TypeId} {x y : Operand} (ho : o.op = .store ty x y) {B b i n c : Nat} {e : TypeId} {us : List UnitD} {u : UnitD} {cs : Array Value}
 (hr : w.ownsRow B e 5 (.slice (some ⟨b, 0, none⟩) n c) n (uL us)) (hb : Blk w b cs e) (hn : us.length = n) (hi : i < n) (hlt : n * 5 ≤ cs.size)
 (hx : a.eval x = .pointer (some ⟨b, i * 5, none⟩)) (hy : a.eval y = .agg #[.bool u.op, .bool u.th, .bool u.cl, .bool u.pr, .int .i64 u.ink]) (hsz : (P.info? ty).map (·.size) = some 5)
 (h : ∀ w1, w1.ownsRow B e 5 (.slice (some ⟨b, 0, none⟩) n c) n (uL (us.set i u)) → Only (fun k => k = b) w w1 → wpList P ops Q rest (a.put o.dst undef) w1) : wpList P ops Q (o :: rest) a w := by
 refine wpList_plain hgd fun K hK => ?_; obtain ⟨inf, hinf, hs1⟩ := Option.map_eq_some_iff.1 hsz
 have hc : ∀ j, (w.cell? ⟨b, i * 5 + 0 + j, none⟩).isSome = decide (i * 5 + 0 + j < cs.size) := fun j => by
  rw [blk_cell hb]
  by_cases e : i * 5 + 0 + j < cs.size
  · rw [Array.getElem?_eq_getElem e, decide_eq_true e]; rfl
  · rw [Array.getElem?_eq_none (by omega), decide_eq_false e]; rfl
 have h1 : [Value.bool u.op, .bool u.th, .bool u.cl, .bool u.pr, .int .i64 u.ink].all (·.oneCell') = true := by simp [Value.oneCell']
 have hst : (storeVar ty ⟨b, i * 5, none⟩ (.agg #[.bool u.op, .bool u.th, .bool u.cl, .bool u.pr, .int .i64 u.ink])).run P w = .ok () (w.setCells b (i * 5 + 0) [.bool u.op, .bool u.th, .bool u.cl, .bool u.pr, .int .i64 u.ink]) := by
  have hs := run_storeCells_cells (P := P) b (i * 5) [.bool u.op, .bool u.th, .bool u.cl, .bool u.pr, .int .i64 u.ink] 0 w (fun j hj => (hc j).trans (decide_eq_true (by have : j < 5 := hj; omega))) (fun j hj => blk_free hb _) (fun v hv => List.all_eq_true.1 h1 v hv); simp [storeVar, sizeOf, typeInfo, hinf, hs1, Value.cells, hs]
 unfold Oper.wp execOp; simp only [ho, hx, hy, Instr.storeAt, Instr.sureAddr, Sem.run_bind, Sem.run_pure, Result.andThen_ok, hst]; have B1 := blk_set hb (i * 5 + 0) (.bool u.op); have O1 := owns_putN hr hb B1; have B2 := blk_set B1 (i * 5 + 1) (.bool u.th); have O2 := owns_putN O1 B1 B2; have B3 := blk_set B2 (i * 5 + 2) (.bool u.cl); have O3 := owns_putN O2 B2 B3; have B4 := blk_set B3 (i * 5 + 3) (.bool u.pr); have O4 := owns_putN O3 B3 B4; have B5 := blk_set B4 (i * 5 + 4) (.int .i64 u.ink); have O5 := owns_putN O4 B4 B5; rw [uL_set5 u (by omega)] at O5; refine hK _ _ (h _ O5 ?_); exact ((((Only.set (S := fun k => k = b) w ⟨b, i * 5 + 0, none⟩ (.bool u.op) rfl).tr (Only.set _ ⟨b, _, none⟩ (.bool u.th) rfl)).tr (Only.set _ ⟨b, _, none⟩ (.bool u.cl) rfl)).tr (Only.set _ ⟨b, _, none⟩ (.bool u.pr) rfl)).tr (Only.set _ ⟨b, _, none⟩ (.int .i64 u.ink) rfl)
end
set_option maxRecDepth 100000 in
set_option maxHeartbeats 4000000 in
theorem rAfter_any {s : StD} (k : Int) (i : Nat) (hk : 1 ≤ k ∧ k ≤ 12) (hi : i < s.units.length) (hl3 : s.units.length ≤ 3) (vu : Value) (w : World) (hu : UnIn w vu s.units) :
 Calls Tryz.prog 80 #[sV vu s, .agg #[.int .i64 k, .int .i64 i]] w fun e w' => ∃ v, e = .returned (sV v (doD s k i)) ∧ w'.ownsRow w.heap.size 63 5 v (doD s k i).units.length (uL (doD s k i).units) ∧ Ext w w' := by
 obtain ⟨a, c, rfl, Hu⟩ := hu.form; obtain ⟨u, hux⟩ : ∃ u, s.units[i] = u := ⟨_, rfl⟩; have hgu : s.units.getD i default = u := (by rw [List.getD_eq_getElem?_getD, List.getElem?_eq_getElem hi]; exact hux); have hsame : s.units.set i u = s.units := (by rw [← hux]; exact List.set_getElem_self hi); obtain ⟨uop, uth, ucl, upr, uin⟩ := u; obtain ⟨n, hn⟩ : ∃ n, s.units.length = n := ⟨_, rfl⟩; unfold sV; rw [hn] at hi hl3 ⊢; have hn0 : 0 < n := (by omega); have hun := Hu.out; rw [hn] at hun; have HN := Hd hn; have HUX := Hd hux; have HGU := Hd hgu; have HSM := Hd hsame; have HK := Hd hk; have HUN := Hd hun; clear hn hux hgu hsame hk hun; clear hu Hu
 go_enter Tryz.func80, Tryz.ntmps80
 go_upto_region 1 with (first
  | (with_reducible refine wpList_boxA (t := 27) (cs := #[.int .i64 s.drive, .bool s.folder, .slice a n c, .int .i64 s.fresh]) rfl rfl rfl ?_
     rintro sb w1 hx1 hx2 hx3; have l2 : w.heap.size ≤ sb := hx3; have SB := Hd hx1; have X1 := Hd hx2; have LS := Hd l2; clear hx1 hx2 l2
     clear hx3)
  | (with_reducible refine wpList_boxA (t := 66) (cs := #[.int .i64 k, .int .i64 i]) rfl rfl rfl ?_
     rintro ab w2 hy1 hy2 hy3; have sb2 := SB.out.ext hy2; have x2 := X1.out.tr hy2; clear X1 SB; have SB := Hd sb2; have X1 := Hd x2; have AB := Hd hy1; clear sb2 x2 hy1
     clear hy3 hy2)
  | (with_reducible refine wpList_allocA (t := 27) rfl rfl Tryz.zeroValue27 ?_
     rintro rb w3 hy1 hy2 hy3; have sb2 := SB.out.ext hy2; have ab2 := AB.out.ext hy2; have x2 := X1.out.tr hy2; have lr : w.heap.size ≤ rb := Nat.le_trans X1.out.size hy3; have lw3 := x2.size; have lrb := hy1.lt; have hrs : rb ≠ sb := fun e => (by have := SB.out.lt; omega); have d := sb2.cell; clear X1 SB AB; have SB := Hd sb2; have X1 := Hd x2; have AB := Hd ab2; have RB := Hd hy1; have LR := Hd lr; have HRS := Hd hrs; have LW3 := Hd lw3; have LRB := Hd lrb; clear sb2 x2 ab2 hy1 lr hrs lw3 lrb
     clear hy3 hy2))
 go_upto_region 2 with (first
  | (with_reducible refine wpList_build0 tRUnits rfl rfl ?_
     intro v0 w5 hx5 hown5; obtain ⟨a5, c5, hv5⟩ := row_form hown5; subst hv5; have c9 := (SB.out.ext hx5).cell; clear d; have HO := Hd hown5; have HX := Hd hx5
     clear hown5 hx5)
  | (at_builtin
     refine wpList_app tRUnits rfl rfl (v := .slice a5 0 c5) rfl HO.out rfl (UnIn.src (HUN.out.ext (X1.out.tr HX.out))) (uL_one s.units) (by have := HN.out; omega) HX.out.size ?_; intro v6 w6 hown6 hgr6 hf6; rw [Nat.zero_add, List.nil_append] at hown6; have hx6 := ext_grown HX.out HO.out hgr6; rw [HN.out] at hown6; obtain ⟨a6, c6, hv6⟩ := row_form hown6; subst hv6; have d := (SB.out.ext hx6).cell; clear HO HX c9 hgr6 hf6; have HO := Hd hown6; have HX := Hd hx6
     clear hown6 hx6)
  | (with_reducible refine wpList_setK (b := sb) (i := 2) (v := .slice a6 n c6) rfl rfl (SB.out.ext HX.out) ?_ ?_ ?_ ?_ ?_ ?_ ?_
     rfl; rfl
     · simp
     kernel_rfl; rfl; rfl; rintro w7 hb7 ho7; have how := owns_only HO.out ho7 (fun b hb e => by have h1 := (HO.out.lt b hb).1; have h2 := SB.out.lt; omega); have rb2 := (RB.out.ext HX.out).only ho7 HRS.out; have ab2 := (AB.out.ext HX.out).only ho7 (fun e => absurd (blk_ty AB.out (e ▸ SB.out)) (by decide)); have x2 := (X1.out.tr HX.out).then_only ho7 (fun k (e : k = sb) => by rw [e]; exact LS.out); have sb7 : Blk w7 sb #[.int .i64 s.drive, .bool s.folder, .slice a6 n c6, .int .i64 s.fresh] 27 := hb7; have d7 := sb7.cell; have c3 := ab2.cell; clear HO HX SB RB AB X1 d ho7 hb7; have SB := Hd sb7; have HO := Hd how; have RB := Hd rb2; have AB := Hd ab2; have X1 := Hd x2
     clear sb7 how rb2 ab2 x2))
 have hol := fun b hb => Nat.le_trans (HO.out.lt b hb).1 (Nat.le_refl _); obtain ⟨ub, cu, hv6⟩ := row_pos HO.out hn0
 cases hv6
 have hlub := (HO.out.lt ub rfl).1; obtain ⟨g9, c9, cur9, hv9, hbk9, hroom9, _⟩ := owns_blkN HO.out hn0
 cases hv9
 have hcl := owns_at HO.out rfl; have hg5 : ∀ j, j < 5 → (uL s.units)[i * 5 + j]? = (uC s.units[i])[j]? := fun j hj => uL_get s.units i j (by rw [HN.out]; exact hi) hj; rw [HUX.out] at hg5; have e0 := hcl (i * 5) _ (hg5 0 (by omega)); have e1 := hcl (i * 5 + 1) _ (hg5 1 (by omega)); have e2 := hcl (i * 5 + 2) _ (hg5 2 (by omega)); have e3 := hcl (i * 5 + 3) _ (hg5 3 (by omega)); have e4 := hcl (i * 5 + 4) _ (hg5 4 (by omega)); have i1 : (0:Int) ≤ (i:Int) := (by omega); have i2 : (i:Int) < (n:Int) := (by omega); clear hcl hg5 hol; dsimp only at e0 e1 e2 e3 e4; have lub := (HO.out.lt ub rfl).2; have hru : rb ≠ ub := fun e => (by have := LRB.out; omega); have hdo := do_at (s := s) (i := i) HGU.out HSM.out; have lw7 := X1.out.size; have HI := Hd hi; have HN0 := Hd hn0; have LUB := Hd lub; have HRU := Hd hru; have HDO := Hd hdo; have HL3 := Hd hl3; have LW7 := Hd lw7; clear hi hn0 lub hru hdo hl3 lw7; clear hbk9 hroom9
 rename List.take (n * 5) cur9.toList = uL s.units => hcur9
 clear hcur9 cur9
 go_upto_region 3 with (first
  | (with_reducible refine wpList_allocA (t := 63) rfl rfl Tryz.zeroValue63 ?_
     rintro tb w8 hy1 hy2 hy3; have sb2 := SB.out.ext hy2; have ab2 := AB.out.ext hy2; have rb2 := RB.out.ext hy2; have how := owns_ext HO.out hy2; have x2 := X1.out.tr hy2; have lt2 : w.heap.size ≤ tb := Nat.le_trans LW7.out hy3; have htu : tb ≠ ub := fun e => (by have := LUB.out; omega); clear SB AB RB HO X1 d7 c3 e0 e1 e2 e3 e4 hy2 hy3; have SB := Hd sb2; have AB := Hd ab2; have RB := Hd rb2; have HO := Hd how; have X1 := Hd x2; have TB := Hd hy1; have LT := Hd lt2; have HTU := Hd htu
     clear sb2 ab2 rb2 how x2 hy1 lt2 htu)
  | (with_reducible refine wpList_storeK (ty := 63) (cells := #[.bool uop, .bool uth, .bool ucl, .bool upr, .int .i64 uin]) rfl rfl TB.out ?_ ?_ ?_ ?_ ?_ ?_
     rfl; rfl; kernel_rfl; rfl; simp [Value.oneCell']; rintro w9 hb ho; have sb2 := SB.out.only ho (fun e => absurd (blk_ty SB.out (e ▸ TB.out)) (by decide)); have ab2 := AB.out.only ho (fun e => absurd (blk_ty AB.out (e ▸ TB.out)) (by decide)); have rb2 := RB.out.only ho (fun e => absurd (blk_ty RB.out (e ▸ TB.out)) (by decide)); have how := owns_only HO.out ho (fun b hb e => HTU.out (e.symm.trans (Option.some.inj hb).symm)); have x2 := X1.out.then_only ho (fun k (e : k = tb) => by rw [e]; exact LT.out); have c3 := ab2.cell; have c4 := hb.cell; have c5 := sb2.cell; clear SB AB RB HO X1 TB ho; have SB := Hd sb2; have AB := Hd ab2; have RB := Hd rb2; have HO := Hd how; have X1 := Hd x2; have TB := Hd hb
     clear sb2 ab2 rb2 how x2 hb))
 have hk2 : k = 1 ∨ k = 2 ∨ k = 3 ∨ k = 4 ∨ k = 5 ∨ k = 6 ∨ k = 7 ∨ k = 8 ∨ k = 9 ∨ k = 10 ∨ k = 11 ∨ k = 12 := (by have := HK.out; omega); clear HK
 rcases hk2 with rfl | rfl | rfl | rfl | rfl | rfl | rfl | rfl | rfl | rfl | rfl | rfl
 {
 have hd1 := HDO.out.1; clear HDO; have HD1 := Hd hd1; clear hd1
 go_wp2_with (first
  | (with_reducible refine wpList_setK (b := tb) (i := 0) (v := .bool true) rfl rfl TB.out ?_ ?_ ?_ ?_ ?_ ?_ ?_
     rfl; rfl
     · simp
     kernel_rfl; rfl; rfl; rintro wA0 hb ho; have tb2 : Blk wA0 tb #[.bool true, .bool uth, .bool ucl, .bool upr, .int .i64 uin] 63 := hb; have sb2 := SB.out.only ho (fun e => absurd (blk_ty SB.out (e ▸ TB.out)) (by decide)); have ab2 := AB.out.only ho (fun e => absurd (blk_ty AB.out (e ▸ TB.out)) (by decide)); have rb2 := RB.out.only ho (fun e => absurd (blk_ty RB.out (e ▸ TB.out)) (by decide)); have how := owns_only HO.out ho (fun b hb e => HTU.out (e.symm.trans (Option.some.inj hb).symm)); have x2 := X1.out.then_only ho (fun k (e : k = tb) => by rw [e]; exact LT.out); clear c3 c4 c5; have c3 := ab2.cell; have c4 := tb2.cell; have c5 := sb2.cell; clear SB AB RB HO X1 TB ho hb; have SB := Hd sb2; have AB := Hd ab2; have RB := Hd rb2; have HO := Hd how; have X1 := Hd x2; have TB := Hd tb2
     clear sb2 ab2 rb2 how x2 tb2)
  | (obtain ⟨g1, cc1, cur1, hv1, hbk1, hroom1, _⟩ := owns_blkN HO.out HN0.out
     cases hv1
     (with_reducible refine wpList_setU (i := i) (u := ⟨true, uth, ucl, upr, uin⟩) rfl rfl HO.out hbk1 HN.out HI.out hroom1 ?_ ?_ ?_ ?_); rfl; rfl; kernel_rfl; rintro wU hoU ho; have sb2 := SB.out.only ho (fun e => absurd (blk_ty SB.out (e ▸ hbk1)) (by decide)); have rb2 := RB.out.only ho HRU.out; have x2 := X1.out.then_only ho (fun k (e : k = ub) => by rw [e]; exact Nat.le_trans LW3.out hlub); clear c3 c4 c5; have c5 := sb2.cell; clear SB AB RB HO X1 TB ho hbk1 hroom1; have SB := Hd sb2; have RB := Hd rb2; have HO := Hd hoU; have X1 := Hd x2
     clear sb2 rb2 hoU x2)
  | (with_reducible refine wpList_storeK (ty := 27) (cells := #[.int .i64 s.drive, .bool s.folder, .slice (some ⟨ub, 0, none⟩) n c6, .int .i64 s.fresh]) rfl rfl RB.out ?_ ?_ ?_ ?_ ?_ ?_
     rfl; rfl; kernel_rfl; rfl; simp [Value.oneCell']; rintro wR hb ho; have k0 := hb.cell; have how := owns_only HO.out ho (fun b hb e => HRU.out (e.symm.trans (Option.some.inj hb).symm)); have x2 := X1.out.then_only ho (fun k (e : k = rb) => by rw [e]; exact LR.out); clear RB HO X1 ho hb; have HO := Hd how; have X1 := Hd x2
     clear how x2))
 refine bodyPost_ret (v := sV (.slice (some ⟨ub, 0, none⟩) n c6) (⟨s.drive, s.folder, s.units.set i ⟨true, uth, ucl, upr, uin⟩, s.fresh⟩ : StD)) (by simp [results, Tryz.results80, go_sem, k0, sV]) rfl ?_; refine ⟨.slice (some ⟨ub, 0, none⟩) n c6, by rw [HD1.out]; rfl, ?_, X1.out⟩; rw [HD1.out]; have hlf : (s.units.set i ⟨true, uth, ucl, upr, uin⟩).length = n := (by rw [List.length_set, HN.out]); dsimp only; rw [hlf]; exact owns_weak HO.out LW3.out
 }
 {
 have hd1 := HDO.out.2.1; clear HDO; have HD1 := Hd hd1; clear hd1
 go_wp2_with (first
  | (with_reducible refine wpList_setK (b := tb) (i := 0) (v := .bool false) rfl rfl TB.out ?_ ?_ ?_ ?_ ?_ ?_ ?_
     rfl; rfl
     · simp
     kernel_rfl; rfl; rfl; rintro wA0 hb ho; have tb2 : Blk wA0 tb #[.bool false, .bool uth, .bool ucl, .bool upr, .int .i64 uin] 63 := hb; have sb2 := SB.out.only ho (fun e => absurd (blk_ty SB.out (e ▸ TB.out)) (by decide)); have ab2 := AB.out.only ho (fun e => absurd (blk_ty AB.out (e ▸ TB.out)) (by decide)); have rb2 := RB.out.only ho (fun e => absurd (blk_ty RB.out (e ▸ TB.out)) (by decide)); have how := owns_only HO.out ho (fun b hb e => HTU.out (e.symm.trans (Option.some.inj hb).symm)); have x2 := X1.out.then_only ho (fun k (e : k = tb) => by rw [e]; exact LT.out); clear c3 c4 c5; have c3 := ab2.cell; have c4 := tb2.cell; have c5 := sb2.cell; clear SB AB RB HO X1 TB ho hb; have SB := Hd sb2; have AB := Hd ab2; have RB := Hd rb2; have HO := Hd how; have X1 := Hd x2; have TB := Hd tb2
     clear sb2 ab2 rb2 how x2 tb2)
  | (obtain ⟨g1, cc1, cur1, hv1, hbk1, hroom1, _⟩ := owns_blkN HO.out HN0.out
     cases hv1
     (with_reducible refine wpList_setU (i := i) (u := ⟨false, uth, ucl, upr, uin⟩) rfl rfl HO.out hbk1 HN.out HI.out hroom1 ?_ ?_ ?_ ?_); rfl; rfl; kernel_rfl; rintro wU hoU ho; have sb2 := SB.out.only ho (fun e => absurd (blk_ty SB.out (e ▸ hbk1)) (by decide)); have rb2 := RB.out.only ho HRU.out; have x2 := X1.out.then_only ho (fun k (e : k = ub) => by rw [e]; exact Nat.le_trans LW3.out hlub); clear c3 c4 c5; have c5 := sb2.cell; clear SB AB RB HO X1 TB ho hbk1 hroom1; have SB := Hd sb2; have RB := Hd rb2; have HO := Hd hoU; have X1 := Hd x2
     clear sb2 rb2 hoU x2)
  | (with_reducible refine wpList_storeK (ty := 27) (cells := #[.int .i64 s.drive, .bool s.folder, .slice (some ⟨ub, 0, none⟩) n c6, .int .i64 s.fresh]) rfl rfl RB.out ?_ ?_ ?_ ?_ ?_ ?_
     rfl; rfl; kernel_rfl; rfl; simp [Value.oneCell']; rintro wR hb ho; have k0 := hb.cell; have how := owns_only HO.out ho (fun b hb e => HRU.out (e.symm.trans (Option.some.inj hb).symm)); have x2 := X1.out.then_only ho (fun k (e : k = rb) => by rw [e]; exact LR.out); clear RB HO X1 ho hb; have HO := Hd how; have X1 := Hd x2
     clear how x2))
 refine bodyPost_ret (v := sV (.slice (some ⟨ub, 0, none⟩) n c6) (⟨s.drive, s.folder, s.units.set i ⟨false, uth, ucl, upr, uin⟩, s.fresh⟩ : StD)) (by simp [results, Tryz.results80, go_sem, k0, sV]) rfl ?_; refine ⟨.slice (some ⟨ub, 0, none⟩) n c6, by rw [HD1.out]; rfl, ?_, X1.out⟩; rw [HD1.out]; have hlf : (s.units.set i ⟨false, uth, ucl, upr, uin⟩).length = n := (by rw [List.length_set, HN.out]); dsimp only; rw [hlf]; exact owns_weak HO.out LW3.out
 }
 {
 have hd1 := HDO.out.2.2.1; clear HDO; have HD1 := Hd hd1; clear hd1
 go_wp2_with (first
  | (with_reducible refine wpList_setK (b := tb) (i := 1) (v := .bool true) rfl rfl TB.out ?_ ?_ ?_ ?_ ?_ ?_ ?_
     rfl; rfl
     · simp
     kernel_rfl; rfl; rfl; rintro wA0 hb ho; have tb2 : Blk wA0 tb #[.bool uop, .bool true, .bool ucl, .bool upr, .int .i64 uin] 63 := hb; have sb2 := SB.out.only ho (fun e => absurd (blk_ty SB.out (e ▸ TB.out)) (by decide)); have ab2 := AB.out.only ho (fun e => absurd (blk_ty AB.out (e ▸ TB.out)) (by decide)); have rb2 := RB.out.only ho (fun e => absurd (blk_ty RB.out (e ▸ TB.out)) (by decide)); have how := owns_only HO.out ho (fun b hb e => HTU.out (e.symm.trans (Option.some.inj hb).symm)); have x2 := X1.out.then_only ho (fun k (e : k = tb) => by rw [e]; exact LT.out); clear c3 c4 c5; have c3 := ab2.cell; have c4 := tb2.cell; have c5 := sb2.cell; clear SB AB RB HO X1 TB ho hb; have SB := Hd sb2; have AB := Hd ab2; have RB := Hd rb2; have HO := Hd how; have X1 := Hd x2; have TB := Hd tb2
     clear sb2 ab2 rb2 how x2 tb2)
  | (obtain ⟨g1, cc1, cur1, hv1, hbk1, hroom1, _⟩ := owns_blkN HO.out HN0.out
     cases hv1
     (with_reducible refine wpList_setU (i := i) (u := ⟨uop, true, ucl, upr, uin⟩) rfl rfl HO.out hbk1 HN.out HI.out hroom1 ?_ ?_ ?_ ?_); rfl; rfl; kernel_rfl; rintro wU hoU ho; have sb2 := SB.out.only ho (fun e => absurd (blk_ty SB.out (e ▸ hbk1)) (by decide)); have rb2 := RB.out.only ho HRU.out; have x2 := X1.out.then_only ho (fun k (e : k = ub) => by rw [e]; exact Nat.le_trans LW3.out hlub); clear c3 c4 c5; have c5 := sb2.cell; clear SB AB RB HO X1 TB ho hbk1 hroom1; have SB := Hd sb2; have RB := Hd rb2; have HO := Hd hoU; have X1 := Hd x2
     clear sb2 rb2 hoU x2)
  | (with_reducible refine wpList_storeK (ty := 27) (cells := #[.int .i64 s.drive, .bool s.folder, .slice (some ⟨ub, 0, none⟩) n c6, .int .i64 s.fresh]) rfl rfl RB.out ?_ ?_ ?_ ?_ ?_ ?_
     rfl; rfl; kernel_rfl; rfl; simp [Value.oneCell']; rintro wR hb ho; have k0 := hb.cell; have how := owns_only HO.out ho (fun b hb e => HRU.out (e.symm.trans (Option.some.inj hb).symm)); have x2 := X1.out.then_only ho (fun k (e : k = rb) => by rw [e]; exact LR.out); clear RB HO X1 ho hb; have HO := Hd how; have X1 := Hd x2
     clear how x2))
 refine bodyPost_ret (v := sV (.slice (some ⟨ub, 0, none⟩) n c6) (⟨s.drive, s.folder, s.units.set i ⟨uop, true, ucl, upr, uin⟩, s.fresh⟩ : StD)) (by simp [results, Tryz.results80, go_sem, k0, sV]) rfl ?_; refine ⟨.slice (some ⟨ub, 0, none⟩) n c6, by rw [HD1.out]; rfl, ?_, X1.out⟩; rw [HD1.out]; have hlf : (s.units.set i ⟨uop, true, ucl, upr, uin⟩).length = n := (by rw [List.length_set, HN.out]); dsimp only; rw [hlf]; exact owns_weak HO.out LW3.out
 }
 {
 have hd1 := HDO.out.2.2.2.1; clear HDO; have HD1 := Hd hd1; clear hd1
 go_wp2_with (first
  | (with_reducible refine wpList_setK (b := tb) (i := 2) (v := .bool true) rfl rfl TB.out ?_ ?_ ?_ ?_ ?_ ?_ ?_
     rfl; rfl
     · simp
     kernel_rfl; rfl; rfl; rintro wA0 hb ho; have tb2 : Blk wA0 tb #[.bool uop, .bool uth, .bool true, .bool upr, .int .i64 uin] 63 := hb; have sb2 := SB.out.only ho (fun e => absurd (blk_ty SB.out (e ▸ TB.out)) (by decide)); have ab2 := AB.out.only ho (fun e => absurd (blk_ty AB.out (e ▸ TB.out)) (by decide)); have rb2 := RB.out.only ho (fun e => absurd (blk_ty RB.out (e ▸ TB.out)) (by decide)); have how := owns_only HO.out ho (fun b hb e => HTU.out (e.symm.trans (Option.some.inj hb).symm)); have x2 := X1.out.then_only ho (fun k (e : k = tb) => by rw [e]; exact LT.out); clear c3 c4 c5; have c3 := ab2.cell; have c4 := tb2.cell; have c5 := sb2.cell; clear SB AB RB HO X1 TB ho hb; have SB := Hd sb2; have AB := Hd ab2; have RB := Hd rb2; have HO := Hd how; have X1 := Hd x2; have TB := Hd tb2
     clear sb2 ab2 rb2 how x2 tb2)
  | (with_reducible refine wpList_setK (b := tb) (i := 4) (v := .int .i64 0) rfl rfl TB.out ?_ ?_ ?_ ?_ ?_ ?_ ?_
     rfl; rfl
     · simp
     kernel_rfl; rfl; rfl; rintro wA1 hb ho; have tb2 : Blk wA1 tb #[.bool uop, .bool uth, .bool true, .bool upr, .int .i64 0] 63 := hb; have sb2 := SB.out.only ho (fun e => absurd (blk_ty SB.out (e ▸ TB.out)) (by decide)); have ab2 := AB.out.only ho (fun e => absurd (blk_ty AB.out (e ▸ TB.out)) (by decide)); have rb2 := RB.out.only ho (fun e => absurd (blk_ty RB.out (e ▸ TB.out)) (by decide)); have how := owns_only HO.out ho (fun b hb e => HTU.out (e.symm.trans (Option.some.inj hb).symm)); have x2 := X1.out.then_only ho (fun k (e : k = tb) => by rw [e]; exact LT.out); clear c3 c4 c5; have c3 := ab2.cell; have c4 := tb2.cell; have c5 := sb2.cell; clear SB AB RB HO X1 TB ho hb; have SB := Hd sb2; have AB := Hd ab2; have RB := Hd rb2; have HO := Hd how; have X1 := Hd x2; have TB := Hd tb2
     clear sb2 ab2 rb2 how x2 tb2)
  | (obtain ⟨g1, cc1, cur1, hv1, hbk1, hroom1, _⟩ := owns_blkN HO.out HN0.out
     cases hv1
     (with_reducible refine wpList_setU (i := i) (u := ⟨uop, uth, true, upr, 0⟩) rfl rfl HO.out hbk1 HN.out HI.out hroom1 ?_ ?_ ?_ ?_); rfl; rfl; kernel_rfl; rintro wU hoU ho; have sb2 := SB.out.only ho (fun e => absurd (blk_ty SB.out (e ▸ hbk1)) (by decide)); have rb2 := RB.out.only ho HRU.out; have x2 := X1.out.then_only ho (fun k (e : k = ub) => by rw [e]; exact Nat.le_trans LW3.out hlub); clear c3 c4 c5; have c5 := sb2.cell; clear SB AB RB HO X1 TB ho hbk1 hroom1; have SB := Hd sb2; have RB := Hd rb2; have HO := Hd hoU; have X1 := Hd x2
     clear sb2 rb2 hoU x2)
  | (with_reducible refine wpList_storeK (ty := 27) (cells := #[.int .i64 s.drive, .bool s.folder, .slice (some ⟨ub, 0, none⟩) n c6, .int .i64 s.fresh]) rfl rfl RB.out ?_ ?_ ?_ ?_ ?_ ?_
     rfl; rfl; kernel_rfl; rfl; simp [Value.oneCell']; rintro wR hb ho; have k0 := hb.cell; have how := owns_only HO.out ho (fun b hb e => HRU.out (e.symm.trans (Option.some.inj hb).symm)); have x2 := X1.out.then_only ho (fun k (e : k = rb) => by rw [e]; exact LR.out); clear RB HO X1 ho hb; have HO := Hd how; have X1 := Hd x2
     clear how x2))
 refine bodyPost_ret (v := sV (.slice (some ⟨ub, 0, none⟩) n c6) (⟨s.drive, s.folder, s.units.set i ⟨uop, uth, true, upr, 0⟩, s.fresh⟩ : StD)) (by simp [results, Tryz.results80, go_sem, k0, sV]) rfl ?_; refine ⟨.slice (some ⟨ub, 0, none⟩) n c6, by rw [HD1.out]; rfl, ?_, X1.out⟩; rw [HD1.out]; have hlf : (s.units.set i ⟨uop, uth, true, upr, 0⟩).length = n := (by rw [List.length_set, HN.out]); dsimp only; rw [hlf]; exact owns_weak HO.out LW3.out
 }
 {
 have hd1 := HDO.out.2.2.2.2.1; clear HDO; have HD1 := Hd hd1; clear hd1
 go_wp2_with (first
  | (with_reducible refine wpList_setK (b := tb) (i := 3) (v := .bool true) rfl rfl TB.out ?_ ?_ ?_ ?_ ?_ ?_ ?_
     rfl; rfl
     · simp
     kernel_rfl; rfl; rfl; rintro wA0 hb ho; have tb2 : Blk wA0 tb #[.bool uop, .bool uth, .bool ucl, .bool true, .int .i64 uin] 63 := hb; have sb2 := SB.out.only ho (fun e => absurd (blk_ty SB.out (e ▸ TB.out)) (by decide)); have ab2 := AB.out.only ho (fun e => absurd (blk_ty AB.out (e ▸ TB.out)) (by decide)); have rb2 := RB.out.only ho (fun e => absurd (blk_ty RB.out (e ▸ TB.out)) (by decide)); have how := owns_only HO.out ho (fun b hb e => HTU.out (e.symm.trans (Option.some.inj hb).symm)); have x2 := X1.out.then_only ho (fun k (e : k = tb) => by rw [e]; exact LT.out); clear c3 c4 c5; have c3 := ab2.cell; have c4 := tb2.cell; have c5 := sb2.cell; clear SB AB RB HO X1 TB ho hb; have SB := Hd sb2; have AB := Hd ab2; have RB := Hd rb2; have HO := Hd how; have X1 := Hd x2; have TB := Hd tb2
     clear sb2 ab2 rb2 how x2 tb2)
  | (obtain ⟨g1, cc1, cur1, hv1, hbk1, hroom1, _⟩ := owns_blkN HO.out HN0.out
     cases hv1
     (with_reducible refine wpList_setU (i := i) (u := ⟨uop, uth, ucl, true, uin⟩) rfl rfl HO.out hbk1 HN.out HI.out hroom1 ?_ ?_ ?_ ?_); rfl; rfl; kernel_rfl; rintro wU hoU ho; have sb2 := SB.out.only ho (fun e => absurd (blk_ty SB.out (e ▸ hbk1)) (by decide)); have rb2 := RB.out.only ho HRU.out; have x2 := X1.out.then_only ho (fun k (e : k = ub) => by rw [e]; exact Nat.le_trans LW3.out hlub); clear c3 c4 c5; have c5 := sb2.cell; clear SB AB RB HO X1 TB ho hbk1 hroom1; have SB := Hd sb2; have RB := Hd rb2; have HO := Hd hoU; have X1 := Hd x2
     clear sb2 rb2 hoU x2)
  | (with_reducible refine wpList_storeK (ty := 27) (cells := #[.int .i64 s.drive, .bool s.folder, .slice (some ⟨ub, 0, none⟩) n c6, .int .i64 s.fresh]) rfl rfl RB.out ?_ ?_ ?_ ?_ ?_ ?_
     rfl; rfl; kernel_rfl; rfl; simp [Value.oneCell']; rintro wR hb ho; have k0 := hb.cell; have how := owns_only HO.out ho (fun b hb e => HRU.out (e.symm.trans (Option.some.inj hb).symm)); have x2 := X1.out.then_only ho (fun k (e : k = rb) => by rw [e]; exact LR.out); clear RB HO X1 ho hb; have HO := Hd how; have X1 := Hd x2
     clear how x2))
 refine bodyPost_ret (v := sV (.slice (some ⟨ub, 0, none⟩) n c6) (⟨s.drive, s.folder, s.units.set i ⟨uop, uth, ucl, true, uin⟩, s.fresh⟩ : StD)) (by simp [results, Tryz.results80, go_sem, k0, sV]) rfl ?_; refine ⟨.slice (some ⟨ub, 0, none⟩) n c6, by rw [HD1.out]; rfl, ?_, X1.out⟩; rw [HD1.out]; have hlf : (s.units.set i ⟨uop, uth, ucl, true, uin⟩).length = n := (by rw [List.length_set, HN.out]); dsimp only; rw [hlf]; exact owns_weak HO.out LW3.out
 }
 {
 have hd1 := HDO.out.2.2.2.2.2.1; clear HDO; have HD1 := Hd hd1; clear hd1
 go_wp2_with (first
  | (with_reducible refine wpList_setK (b := tb) (i := 3) (v := .bool false) rfl rfl TB.out ?_ ?_ ?_ ?_ ?_ ?_ ?_
     rfl; rfl
     · simp
     kernel_rfl; rfl; rfl; rintro wA0 hb ho; have tb2 : Blk wA0 tb #[.bool uop, .bool uth, .bool ucl, .bool false, .int .i64 uin] 63 := hb; have sb2 := SB.out.only ho (fun e => absurd (blk_ty SB.out (e ▸ TB.out)) (by decide)); have ab2 := AB.out.only ho (fun e => absurd (blk_ty AB.out (e ▸ TB.out)) (by decide)); have rb2 := RB.out.only ho (fun e => absurd (blk_ty RB.out (e ▸ TB.out)) (by decide)); have how := owns_only HO.out ho (fun b hb e => HTU.out (e.symm.trans (Option.some.inj hb).symm)); have x2 := X1.out.then_only ho (fun k (e : k = tb) => by rw [e]; exact LT.out); clear c3 c4 c5; have c3 := ab2.cell; have c4 := tb2.cell; have c5 := sb2.cell; clear SB AB RB HO X1 TB ho hb; have SB := Hd sb2; have AB := Hd ab2; have RB := Hd rb2; have HO := Hd how; have X1 := Hd x2; have TB := Hd tb2
     clear sb2 ab2 rb2 how x2 tb2)
  | (obtain ⟨g1, cc1, cur1, hv1, hbk1, hroom1, _⟩ := owns_blkN HO.out HN0.out
     cases hv1
     (with_reducible refine wpList_setU (i := i) (u := ⟨uop, uth, ucl, false, uin⟩) rfl rfl HO.out hbk1 HN.out HI.out hroom1 ?_ ?_ ?_ ?_); rfl; rfl; kernel_rfl; rintro wU hoU ho; have sb2 := SB.out.only ho (fun e => absurd (blk_ty SB.out (e ▸ hbk1)) (by decide)); have rb2 := RB.out.only ho HRU.out; have x2 := X1.out.then_only ho (fun k (e : k = ub) => by rw [e]; exact Nat.le_trans LW3.out hlub); clear c3 c4 c5; have c5 := sb2.cell; clear SB AB RB HO X1 TB ho hbk1 hroom1; have SB := Hd sb2; have RB := Hd rb2; have HO := Hd hoU; have X1 := Hd x2
     clear sb2 rb2 hoU x2)
  | (with_reducible refine wpList_storeK (ty := 27) (cells := #[.int .i64 s.drive, .bool s.folder, .slice (some ⟨ub, 0, none⟩) n c6, .int .i64 s.fresh]) rfl rfl RB.out ?_ ?_ ?_ ?_ ?_ ?_
     rfl; rfl; kernel_rfl; rfl; simp [Value.oneCell']; rintro wR hb ho; have k0 := hb.cell; have how := owns_only HO.out ho (fun b hb e => HRU.out (e.symm.trans (Option.some.inj hb).symm)); have x2 := X1.out.then_only ho (fun k (e : k = rb) => by rw [e]; exact LR.out); clear RB HO X1 ho hb; have HO := Hd how; have X1 := Hd x2
     clear how x2))
 refine bodyPost_ret (v := sV (.slice (some ⟨ub, 0, none⟩) n c6) (⟨s.drive, s.folder, s.units.set i ⟨uop, uth, ucl, false, uin⟩, s.fresh⟩ : StD)) (by simp [results, Tryz.results80, go_sem, k0, sV]) rfl ?_; refine ⟨.slice (some ⟨ub, 0, none⟩) n c6, by rw [HD1.out]; rfl, ?_, X1.out⟩; rw [HD1.out]; have hlf : (s.units.set i ⟨uop, uth, ucl, false, uin⟩).length = n := (by rw [List.length_set, HN.out]); dsimp only; rw [hlf]; exact owns_weak HO.out LW3.out
 }
 {
 have hd1 := HDO.out.2.2.2.2.2.2.1; clear HDO; have HD1 := Hd hd1; clear hd1
 go_wp2_with (first
  | (with_reducible refine wpList_setK (b := sb) (i := 0) (v := .int .i64 1) rfl rfl SB.out ?_ ?_ ?_ ?_ ?_ ?_ ?_
     rfl; rfl
     · simp
     kernel_rfl; rfl; rfl; rintro wA0 hb ho; have sb2 : Blk wA0 sb #[.int .i64 1, .bool s.folder, .slice (some ⟨ub, 0, none⟩) n c6, .int .i64 s.fresh] 27 := hb; have tb2 := TB.out.only ho (fun e => absurd (blk_ty TB.out (e ▸ SB.out)) (by decide)); have ab2 := AB.out.only ho (fun e => absurd (blk_ty AB.out (e ▸ SB.out)) (by decide)); have rb2 := RB.out.only ho HRS.out; have how := owns_only HO.out ho (owns_ne' HO.out SB.out (by decide)); have x2 := X1.out.then_only ho (fun k (e : k = sb) => by rw [e]; exact LS.out); clear c3 c4 c5; have c3 := ab2.cell; have c4 := tb2.cell; have c5 := sb2.cell; clear SB AB RB HO X1 TB ho hb; have SB := Hd sb2; have AB := Hd ab2; have RB := Hd rb2; have HO := Hd how; have X1 := Hd x2; have TB := Hd tb2
     clear sb2 ab2 rb2 how x2 tb2)
  | (with_reducible refine wpList_setK (b := sb) (i := 3) (v := .int .i64 0) rfl rfl SB.out ?_ ?_ ?_ ?_ ?_ ?_ ?_
     rfl; rfl
     · simp
     kernel_rfl; rfl; rfl; rintro wA1 hb ho; have sb2 : Blk wA1 sb #[.int .i64 1, .bool s.folder, .slice (some ⟨ub, 0, none⟩) n c6, .int .i64 0] 27 := hb; have tb2 := TB.out.only ho (fun e => absurd (blk_ty TB.out (e ▸ SB.out)) (by decide)); have ab2 := AB.out.only ho (fun e => absurd (blk_ty AB.out (e ▸ SB.out)) (by decide)); have rb2 := RB.out.only ho HRS.out; have how := owns_only HO.out ho (owns_ne' HO.out SB.out (by decide)); have x2 := X1.out.then_only ho (fun k (e : k = sb) => by rw [e]; exact LS.out); clear c3 c4 c5; have c3 := ab2.cell; have c4 := tb2.cell; have c5 := sb2.cell; clear SB AB RB HO X1 TB ho hb; have SB := Hd sb2; have AB := Hd ab2; have RB := Hd rb2; have HO := Hd how; have X1 := Hd x2; have TB := Hd tb2
     clear sb2 ab2 rb2 how x2 tb2)
  | (obtain ⟨g1, cc1, cur1, hv1, hbk1, hroom1, _⟩ := owns_blkN HO.out HN0.out
     cases hv1
     (with_reducible refine wpList_setU (i := i) (u := ⟨uop, uth, ucl, upr, uin⟩) rfl rfl HO.out hbk1 HN.out HI.out hroom1 ?_ ?_ ?_ ?_); rfl; rfl; kernel_rfl; rintro wU hoU ho; have sb2 := SB.out.only ho (fun e => absurd (blk_ty SB.out (e ▸ hbk1)) (by decide)); have rb2 := RB.out.only ho HRU.out; have x2 := X1.out.then_only ho (fun k (e : k = ub) => by rw [e]; exact Nat.le_trans LW3.out hlub); clear c3 c4 c5; have c5 := sb2.cell; clear SB AB RB HO X1 TB ho hbk1 hroom1; have SB := Hd sb2; have RB := Hd rb2; have HO := Hd hoU; have X1 := Hd x2
     clear sb2 rb2 hoU x2)
  | (with_reducible refine wpList_storeK (ty := 27) (cells := #[.int .i64 1, .bool s.folder, .slice (some ⟨ub, 0, none⟩) n c6, .int .i64 0]) rfl rfl RB.out ?_ ?_ ?_ ?_ ?_ ?_
     rfl; rfl; kernel_rfl; rfl; simp [Value.oneCell']; rintro wR hb ho; have k0 := hb.cell; have how := owns_only HO.out ho (fun b hb e => HRU.out (e.symm.trans (Option.some.inj hb).symm)); have x2 := X1.out.then_only ho (fun k (e : k = rb) => by rw [e]; exact LR.out); clear RB HO X1 ho hb; have HO := Hd how; have X1 := Hd x2
     clear how x2))
 refine bodyPost_ret (v := sV (.slice (some ⟨ub, 0, none⟩) n c6) (⟨1, s.folder, s.units.set i ⟨uop, uth, ucl, upr, uin⟩, 0⟩ : StD)) (by simp [results, Tryz.results80, go_sem, k0, sV]) rfl ?_; refine ⟨.slice (some ⟨ub, 0, none⟩) n c6, by rw [HD1.out]; rfl, ?_, X1.out⟩; rw [HD1.out]; have hlf : (s.units.set i ⟨uop, uth, ucl, upr, uin⟩).length = n := (by rw [List.length_set, HN.out]); dsimp only; rw [hlf]; exact owns_weak HO.out LW3.out
 }
 {
 have hd1 := HDO.out.2.2.2.2.2.2.2.1; clear HDO; have HD1 := Hd hd1; clear hd1
 go_wp2_with (first
  | (with_reducible refine wpList_setK (b := sb) (i := 0) (v := .int .i64 2) rfl rfl SB.out ?_ ?_ ?_ ?_ ?_ ?_ ?_
     rfl; rfl
     · simp
     kernel_rfl; rfl; rfl; rintro wA0 hb ho; have sb2 : Blk wA0 sb #[.int .i64 2, .bool s.folder, .slice (some ⟨ub, 0, none⟩) n c6, .int .i64 s.fresh] 27 := hb; have tb2 := TB.out.only ho (fun e => absurd (blk_ty TB.out (e ▸ SB.out)) (by decide)); have ab2 := AB.out.only ho (fun e => absurd (blk_ty AB.out (e ▸ SB.out)) (by decide)); have rb2 := RB.out.only ho HRS.out; have how := owns_only HO.out ho (owns_ne' HO.out SB.out (by decide)); have x2 := X1.out.then_only ho (fun k (e : k = sb) => by rw [e]; exact LS.out); clear c3 c4 c5; have c3 := ab2.cell; have c4 := tb2.cell; have c5 := sb2.cell; clear SB AB RB HO X1 TB ho hb; have SB := Hd sb2; have AB := Hd ab2; have RB := Hd rb2; have HO := Hd how; have X1 := Hd x2; have TB := Hd tb2
     clear sb2 ab2 rb2 how x2 tb2)
  | (with_reducible refine wpList_setK (b := sb) (i := 3) (v := .int .i64 0) rfl rfl SB.out ?_ ?_ ?_ ?_ ?_ ?_ ?_
     rfl; rfl
     · simp
     kernel_rfl; rfl; rfl; rintro wA1 hb ho; have sb2 : Blk wA1 sb #[.int .i64 2, .bool s.folder, .slice (some ⟨ub, 0, none⟩) n c6, .int .i64 0] 27 := hb; have tb2 := TB.out.only ho (fun e => absurd (blk_ty TB.out (e ▸ SB.out)) (by decide)); have ab2 := AB.out.only ho (fun e => absurd (blk_ty AB.out (e ▸ SB.out)) (by decide)); have rb2 := RB.out.only ho HRS.out; have how := owns_only HO.out ho (owns_ne' HO.out SB.out (by decide)); have x2 := X1.out.then_only ho (fun k (e : k = sb) => by rw [e]; exact LS.out); clear c3 c4 c5; have c3 := ab2.cell; have c4 := tb2.cell; have c5 := sb2.cell; clear SB AB RB HO X1 TB ho hb; have SB := Hd sb2; have AB := Hd ab2; have RB := Hd rb2; have HO := Hd how; have X1 := Hd x2; have TB := Hd tb2
     clear sb2 ab2 rb2 how x2 tb2)
  | (obtain ⟨g1, cc1, cur1, hv1, hbk1, hroom1, _⟩ := owns_blkN HO.out HN0.out
     cases hv1
     (with_reducible refine wpList_setU (i := i) (u := ⟨uop, uth, ucl, upr, uin⟩) rfl rfl HO.out hbk1 HN.out HI.out hroom1 ?_ ?_ ?_ ?_); rfl; rfl; kernel_rfl; rintro wU hoU ho; have sb2 := SB.out.only ho (fun e => absurd (blk_ty SB.out (e ▸ hbk1)) (by decide)); have rb2 := RB.out.only ho HRU.out; have x2 := X1.out.then_only ho (fun k (e : k = ub) => by rw [e]; exact Nat.le_trans LW3.out hlub); clear c3 c4 c5; have c5 := sb2.cell; clear SB AB RB HO X1 TB ho hbk1 hroom1; have SB := Hd sb2; have RB := Hd rb2; have HO := Hd hoU; have X1 := Hd x2
     clear sb2 rb2 hoU x2)
  | (with_reducible refine wpList_storeK (ty := 27) (cells := #[.int .i64 2, .bool s.folder, .slice (some ⟨ub, 0, none⟩) n c6, .int .i64 0]) rfl rfl RB.out ?_ ?_ ?_ ?_ ?_ ?_
     rfl; rfl; kernel_rfl; rfl; simp [Value.oneCell']; rintro wR hb ho; have k0 := hb.cell; have how := owns_only HO.out ho (fun b hb e => HRU.out (e.symm.trans (Option.some.inj hb).symm)); have x2 := X1.out.then_only ho (fun k (e : k = rb) => by rw [e]; exact LR.out); clear RB HO X1 ho hb; have HO := Hd how; have X1 := Hd x2
     clear how x2))
 refine bodyPost_ret (v := sV (.slice (some ⟨ub, 0, none⟩) n c6) (⟨2, s.folder, s.units.set i ⟨uop, uth, ucl, upr, uin⟩, 0⟩ : StD)) (by simp [results, Tryz.results80, go_sem, k0, sV]) rfl ?_; refine ⟨.slice (some ⟨ub, 0, none⟩) n c6, by rw [HD1.out]; rfl, ?_, X1.out⟩; rw [HD1.out]; have hlf : (s.units.set i ⟨uop, uth, ucl, upr, uin⟩).length = n := (by rw [List.length_set, HN.out]); dsimp only; rw [hlf]; exact owns_weak HO.out LW3.out
 }
 {
 have hd1 := HDO.out.2.2.2.2.2.2.2.2.1; clear HDO; have HD1 := Hd hd1; clear hd1
 go_wp2_with (first
  | (with_reducible refine wpList_setK (b := sb) (i := 0) (v := .int .i64 0) rfl rfl SB.out ?_ ?_ ?_ ?_ ?_ ?_ ?_
     rfl; rfl
     · simp
     kernel_rfl; rfl; rfl; rintro wA0 hb ho; have sb2 : Blk wA0 sb #[.int .i64 0, .bool s.folder, .slice (some ⟨ub, 0, none⟩) n c6, .int .i64 s.fresh] 27 := hb; have tb2 := TB.out.only ho (fun e => absurd (blk_ty TB.out (e ▸ SB.out)) (by decide)); have ab2 := AB.out.only ho (fun e => absurd (blk_ty AB.out (e ▸ SB.out)) (by decide)); have rb2 := RB.out.only ho HRS.out; have how := owns_only HO.out ho (owns_ne' HO.out SB.out (by decide)); have x2 := X1.out.then_only ho (fun k (e : k = sb) => by rw [e]; exact LS.out); clear c3 c4 c5; have c3 := ab2.cell; have c4 := tb2.cell; have c5 := sb2.cell; clear SB AB RB HO X1 TB ho hb; have SB := Hd sb2; have AB := Hd ab2; have RB := Hd rb2; have HO := Hd how; have X1 := Hd x2; have TB := Hd tb2
     clear sb2 ab2 rb2 how x2 tb2)
  | (with_reducible refine wpList_setK (b := sb) (i := 3) (v := .int .i64 0) rfl rfl SB.out ?_ ?_ ?_ ?_ ?_ ?_ ?_
     rfl; rfl
     · simp
     kernel_rfl; rfl; rfl; rintro wA1 hb ho; have sb2 : Blk wA1 sb #[.int .i64 0, .bool s.folder, .slice (some ⟨ub, 0, none⟩) n c6, .int .i64 0] 27 := hb; have tb2 := TB.out.only ho (fun e => absurd (blk_ty TB.out (e ▸ SB.out)) (by decide)); have ab2 := AB.out.only ho (fun e => absurd (blk_ty AB.out (e ▸ SB.out)) (by decide)); have rb2 := RB.out.only ho HRS.out; have how := owns_only HO.out ho (owns_ne' HO.out SB.out (by decide)); have x2 := X1.out.then_only ho (fun k (e : k = sb) => by rw [e]; exact LS.out); clear c3 c4 c5; have c3 := ab2.cell; have c4 := tb2.cell; have c5 := sb2.cell; clear SB AB RB HO X1 TB ho hb; have SB := Hd sb2; have AB := Hd ab2; have RB := Hd rb2; have HO := Hd how; have X1 := Hd x2; have TB := Hd tb2
     clear sb2 ab2 rb2 how x2 tb2)
  | (obtain ⟨g1, cc1, cur1, hv1, hbk1, hroom1, _⟩ := owns_blkN HO.out HN0.out
     cases hv1
     (with_reducible refine wpList_setU (i := i) (u := ⟨uop, uth, ucl, upr, uin⟩) rfl rfl HO.out hbk1 HN.out HI.out hroom1 ?_ ?_ ?_ ?_); rfl; rfl; kernel_rfl; rintro wU hoU ho; have sb2 := SB.out.only ho (fun e => absurd (blk_ty SB.out (e ▸ hbk1)) (by decide)); have rb2 := RB.out.only ho HRU.out; have x2 := X1.out.then_only ho (fun k (e : k = ub) => by rw [e]; exact Nat.le_trans LW3.out hlub); clear c3 c4 c5; have c5 := sb2.cell; clear SB AB RB HO X1 TB ho hbk1 hroom1; have SB := Hd sb2; have RB := Hd rb2; have HO := Hd hoU; have X1 := Hd x2
     clear sb2 rb2 hoU x2)
  | (with_reducible refine wpList_storeK (ty := 27) (cells := #[.int .i64 0, .bool s.folder, .slice (some ⟨ub, 0, none⟩) n c6, .int .i64 0]) rfl rfl RB.out ?_ ?_ ?_ ?_ ?_ ?_
     rfl; rfl; kernel_rfl; rfl; simp [Value.oneCell']; rintro wR hb ho; have k0 := hb.cell; have how := owns_only HO.out ho (fun b hb e => HRU.out (e.symm.trans (Option.some.inj hb).symm)); have x2 := X1.out.then_only ho (fun k (e : k = rb) => by rw [e]; exact LR.out); clear RB HO X1 ho hb; have HO := Hd how; have X1 := Hd x2
     clear how x2))
 refine bodyPost_ret (v := sV (.slice (some ⟨ub, 0, none⟩) n c6) (⟨0, s.folder, s.units.set i ⟨uop, uth, ucl, upr, uin⟩, 0⟩ : StD)) (by simp [results, Tryz.results80, go_sem, k0, sV]) rfl ?_; refine ⟨.slice (some ⟨ub, 0, none⟩) n c6, by rw [HD1.out]; rfl, ?_, X1.out⟩; rw [HD1.out]; have hlf : (s.units.set i ⟨uop, uth, ucl, upr, uin⟩).length = n := (by rw [List.length_set, HN.out]); dsimp only; rw [hlf]; exact owns_weak HO.out LW3.out
 }
 {
 have hd1 := HDO.out.2.2.2.2.2.2.2.2.2.1; clear HDO; have HD1 := Hd hd1; clear hd1
 go_wp2_with (first
  | (with_reducible refine wpList_setK (b := sb) (i := 1) (v := .bool true) rfl rfl SB.out ?_ ?_ ?_ ?_ ?_ ?_ ?_
     rfl; rfl
     · simp
     kernel_rfl; rfl; rfl; rintro wA0 hb ho; have sb2 : Blk wA0 sb #[.int .i64 s.drive, .bool true, .slice (some ⟨ub, 0, none⟩) n c6, .int .i64 s.fresh] 27 := hb; have tb2 := TB.out.only ho (fun e => absurd (blk_ty TB.out (e ▸ SB.out)) (by decide)); have ab2 := AB.out.only ho (fun e => absurd (blk_ty AB.out (e ▸ SB.out)) (by decide)); have rb2 := RB.out.only ho HRS.out; have how := owns_only HO.out ho (owns_ne' HO.out SB.out (by decide)); have x2 := X1.out.then_only ho (fun k (e : k = sb) => by rw [e]; exact LS.out); clear c3 c4 c5; have c3 := ab2.cell; have c4 := tb2.cell; have c5 := sb2.cell; clear SB AB RB HO X1 TB ho hb; have SB := Hd sb2; have AB := Hd ab2; have RB := Hd rb2; have HO := Hd how; have X1 := Hd x2; have TB := Hd tb2
     clear sb2 ab2 rb2 how x2 tb2)
  | (obtain ⟨g1, cc1, cur1, hv1, hbk1, hroom1, _⟩ := owns_blkN HO.out HN0.out
     cases hv1
     (with_reducible refine wpList_setU (i := i) (u := ⟨uop, uth, ucl, upr, uin⟩) rfl rfl HO.out hbk1 HN.out HI.out hroom1 ?_ ?_ ?_ ?_); rfl; rfl; kernel_rfl; rintro wU hoU ho; have sb2 := SB.out.only ho (fun e => absurd (blk_ty SB.out (e ▸ hbk1)) (by decide)); have rb2 := RB.out.only ho HRU.out; have x2 := X1.out.then_only ho (fun k (e : k = ub) => by rw [e]; exact Nat.le_trans LW3.out hlub); clear c3 c4 c5; have c5 := sb2.cell; clear SB AB RB HO X1 TB ho hbk1 hroom1; have SB := Hd sb2; have RB := Hd rb2; have HO := Hd hoU; have X1 := Hd x2
     clear sb2 rb2 hoU x2)
  | (with_reducible refine wpList_storeK (ty := 27) (cells := #[.int .i64 s.drive, .bool true, .slice (some ⟨ub, 0, none⟩) n c6, .int .i64 s.fresh]) rfl rfl RB.out ?_ ?_ ?_ ?_ ?_ ?_
     rfl; rfl; kernel_rfl; rfl; simp [Value.oneCell']; rintro wR hb ho; have k0 := hb.cell; have how := owns_only HO.out ho (fun b hb e => HRU.out (e.symm.trans (Option.some.inj hb).symm)); have x2 := X1.out.then_only ho (fun k (e : k = rb) => by rw [e]; exact LR.out); clear RB HO X1 ho hb; have HO := Hd how; have X1 := Hd x2
     clear how x2))
 refine bodyPost_ret (v := sV (.slice (some ⟨ub, 0, none⟩) n c6) (⟨s.drive, true, s.units.set i ⟨uop, uth, ucl, upr, uin⟩, s.fresh⟩ : StD)) (by simp [results, Tryz.results80, go_sem, k0, sV]) rfl ?_; refine ⟨.slice (some ⟨ub, 0, none⟩) n c6, by rw [HD1.out]; rfl, ?_, X1.out⟩; rw [HD1.out]; have hlf : (s.units.set i ⟨uop, uth, ucl, upr, uin⟩).length = n := (by rw [List.length_set, HN.out]); dsimp only; rw [hlf]; exact owns_weak HO.out LW3.out
 }
 {
 have hd1 := HDO.out.2.2.2.2.2.2.2.2.2.2.1; clear HDO; have HD1 := Hd hd1; clear hd1
 go_wp2_with (first
  | (with_reducible refine wpList_setK (b := sb) (i := 1) (v := .bool false) rfl rfl SB.out ?_ ?_ ?_ ?_ ?_ ?_ ?_
     rfl; rfl
     · simp
     kernel_rfl; rfl; rfl; rintro wA0 hb ho; have sb2 : Blk wA0 sb #[.int .i64 s.drive, .bool false, .slice (some ⟨ub, 0, none⟩) n c6, .int .i64 s.fresh] 27 := hb; have tb2 := TB.out.only ho (fun e => absurd (blk_ty TB.out (e ▸ SB.out)) (by decide)); have ab2 := AB.out.only ho (fun e => absurd (blk_ty AB.out (e ▸ SB.out)) (by decide)); have rb2 := RB.out.only ho HRS.out; have how := owns_only HO.out ho (owns_ne' HO.out SB.out (by decide)); have x2 := X1.out.then_only ho (fun k (e : k = sb) => by rw [e]; exact LS.out); clear c3 c4 c5; have c3 := ab2.cell; have c4 := tb2.cell; have c5 := sb2.cell; clear SB AB RB HO X1 TB ho hb; have SB := Hd sb2; have AB := Hd ab2; have RB := Hd rb2; have HO := Hd how; have X1 := Hd x2; have TB := Hd tb2
     clear sb2 ab2 rb2 how x2 tb2)
  | (obtain ⟨g1, cc1, cur1, hv1, hbk1, hroom1, _⟩ := owns_blkN HO.out HN0.out
     cases hv1
     (with_reducible refine wpList_setU (i := i) (u := ⟨uop, uth, ucl, upr, uin⟩) rfl rfl HO.out hbk1 HN.out HI.out hroom1 ?_ ?_ ?_ ?_); rfl; rfl; kernel_rfl; rintro wU hoU ho; have sb2 := SB.out.only ho (fun e => absurd (blk_ty SB.out (e ▸ hbk1)) (by decide)); have rb2 := RB.out.only ho HRU.out; have x2 := X1.out.then_only ho (fun k (e : k = ub) => by rw [e]; exact Nat.le_trans LW3.out hlub); clear c3 c4 c5; have c5 := sb2.cell; clear SB AB RB HO X1 TB ho hbk1 hroom1; have SB := Hd sb2; have RB := Hd rb2; have HO := Hd hoU; have X1 := Hd x2
     clear sb2 rb2 hoU x2)
  | (with_reducible refine wpList_storeK (ty := 27) (cells := #[.int .i64 s.drive, .bool false, .slice (some ⟨ub, 0, none⟩) n c6, .int .i64 s.fresh]) rfl rfl RB.out ?_ ?_ ?_ ?_ ?_ ?_
     rfl; rfl; kernel_rfl; rfl; simp [Value.oneCell']; rintro wR hb ho; have k0 := hb.cell; have how := owns_only HO.out ho (fun b hb e => HRU.out (e.symm.trans (Option.some.inj hb).symm)); have x2 := X1.out.then_only ho (fun k (e : k = rb) => by rw [e]; exact LR.out); clear RB HO X1 ho hb; have HO := Hd how; have X1 := Hd x2
     clear how x2))
 refine bodyPost_ret (v := sV (.slice (some ⟨ub, 0, none⟩) n c6) (⟨s.drive, false, s.units.set i ⟨uop, uth, ucl, upr, uin⟩, s.fresh⟩ : StD)) (by simp [results, Tryz.results80, go_sem, k0, sV]) rfl ?_; refine ⟨.slice (some ⟨ub, 0, none⟩) n c6, by rw [HD1.out]; rfl, ?_, X1.out⟩; rw [HD1.out]; have hlf : (s.units.set i ⟨uop, uth, ucl, upr, uin⟩).length = n := (by rw [List.length_set, HN.out]); dsimp only; rw [hlf]; exact owns_weak HO.out LW3.out
 }
 {
 have hd1 := HDO.out.2.2.2.2.2.2.2.2.2.2.2; clear HDO; have HD1 := Hd hd1; clear hd1
 go_wp2_with (first
  | (with_reducible refine wpList_setK (b := tb) (i := 1) (v := .bool false) rfl rfl TB.out ?_ ?_ ?_ ?_ ?_ ?_ ?_
     rfl; rfl
     · simp
     kernel_rfl; rfl; rfl; rintro wA0 hb ho; have tb2 : Blk wA0 tb #[.bool uop, .bool false, .bool ucl, .bool upr, .int .i64 uin] 63 := hb; have sb2 := SB.out.only ho (fun e => absurd (blk_ty SB.out (e ▸ TB.out)) (by decide)); have ab2 := AB.out.only ho (fun e => absurd (blk_ty AB.out (e ▸ TB.out)) (by decide)); have rb2 := RB.out.only ho (fun e => absurd (blk_ty RB.out (e ▸ TB.out)) (by decide)); have how := owns_only HO.out ho (fun b hb e => HTU.out (e.symm.trans (Option.some.inj hb).symm)); have x2 := X1.out.then_only ho (fun k (e : k = tb) => by rw [e]; exact LT.out); clear c3 c4 c5; have c3 := ab2.cell; have c4 := tb2.cell; have c5 := sb2.cell; clear SB AB RB HO X1 TB ho hb; have SB := Hd sb2; have AB := Hd ab2; have RB := Hd rb2; have HO := Hd how; have X1 := Hd x2; have TB := Hd tb2
     clear sb2 ab2 rb2 how x2 tb2)
  | (obtain ⟨g1, cc1, cur1, hv1, hbk1, hroom1, _⟩ := owns_blkN HO.out HN0.out
     cases hv1
     (with_reducible refine wpList_setU (i := i) (u := ⟨uop, false, ucl, upr, uin⟩) rfl rfl HO.out hbk1 HN.out HI.out hroom1 ?_ ?_ ?_ ?_); rfl; rfl; kernel_rfl; rintro wU hoU ho; have sb2 := SB.out.only ho (fun e => absurd (blk_ty SB.out (e ▸ hbk1)) (by decide)); have rb2 := RB.out.only ho HRU.out; have x2 := X1.out.then_only ho (fun k (e : k = ub) => by rw [e]; exact Nat.le_trans LW3.out hlub); clear c3 c4 c5; have c5 := sb2.cell; clear SB AB RB HO X1 TB ho hbk1 hroom1; have SB := Hd sb2; have RB := Hd rb2; have HO := Hd hoU; have X1 := Hd x2
     clear sb2 rb2 hoU x2)
  | (with_reducible refine wpList_storeK (ty := 27) (cells := #[.int .i64 s.drive, .bool s.folder, .slice (some ⟨ub, 0, none⟩) n c6, .int .i64 s.fresh]) rfl rfl RB.out ?_ ?_ ?_ ?_ ?_ ?_
     rfl; rfl; kernel_rfl; rfl; simp [Value.oneCell']; rintro wR hb ho; have k0 := hb.cell; have how := owns_only HO.out ho (fun b hb e => HRU.out (e.symm.trans (Option.some.inj hb).symm)); have x2 := X1.out.then_only ho (fun k (e : k = rb) => by rw [e]; exact LR.out); clear RB HO X1 ho hb; have HO := Hd how; have X1 := Hd x2
     clear how x2))
 refine bodyPost_ret (v := sV (.slice (some ⟨ub, 0, none⟩) n c6) (⟨s.drive, s.folder, s.units.set i ⟨uop, false, ucl, upr, uin⟩, s.fresh⟩ : StD)) (by simp [results, Tryz.results80, go_sem, k0, sV]) rfl ?_; refine ⟨.slice (some ⟨ub, 0, none⟩) n c6, by rw [HD1.out]; rfl, ?_, X1.out⟩; rw [HD1.out]; have hlf : (s.units.set i ⟨uop, false, ucl, upr, uin⟩).length = n := (by rw [List.length_set, HN.out]); dsimp only; rw [hlf]; exact owns_weak HO.out LW3.out
 }
end Go.Proofs.YtojobdffnnibaaaGreat