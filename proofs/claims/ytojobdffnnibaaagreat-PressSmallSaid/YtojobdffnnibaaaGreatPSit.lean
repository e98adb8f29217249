/- The situation of a state. -/
import Derived.Test.YtojobdffnnibaaaGreatJ7
import Derived.Laws.CopyOwn
import Derived.Great.BuildSlice
namespace Go.Proofs.YtojobdffnnibaaaGreat
open Go.RowKit
set_option linter.unusedVariables false
set_option linter.unusedSimpArgs false
theorem tBl : SliceT Tryz.prog 22 4 (.bool false) 1 1 := ⟨by kernel_rfl, by kernel_rfl, rfl, by decide, by decide⟩
/-- The situation when k towers have been gone through. -/
def sitK (s : StD) (k : Nat) : List Bool := [s.drive == 1, s.drive == 2, s.folder] ++ unitsB (s.units.take k) ++ List.replicate (12 - 4 * k) false
theorem unitsB_len (us : List UnitD) : (unitsB us).length = 4 * us.length := by
 unfold unitsB
 induction us with
 | nil => rfl
 | cons u us ih => rw [List.flatMap_cons, List.length_append, ih, List.length_cons]; simp; omega
theorem sitK_len (s : StD) (k : Nat) (h : k ≤ s.units.length) (h3 : k ≤ 3) : (sitK s k).length = 15 := by
 unfold sitK; simp [unitsB_len]; omega
theorem sitK_end (s : StD) (h : s.units.length ≤ 3) : sitK s s.units.length = sitD s := by
 unfold sitK sitD; rw [List.take_length]; generalize hA : [s.drive == 1, s.drive == 2, s.folder] ++ unitsB s.units = A; have hl : A.length = 3 + 4 * s.units.length := (by rw [← hA, List.length_append, unitsB_len]; rfl); rw [List.take_append, List.take_of_length_le (by omega), List.take_replicate, hl]
 congr 2
 omega
theorem sitK_succ (s : StD) (k : Nat) (hk : k < s.units.length) (h3 : k < 3) :
 splice ((sitK s k).map Value.bool) (3 + 4 * k) [.bool s.units[k].op, .bool s.units[k].th, .bool s.units[k].cl, .bool s.units[k].pr] = (sitK s (k + 1)).map Value.bool := by
 have e : sitK s (k + 1) = [s.drive == 1, s.drive == 2, s.folder] ++ unitsB (s.units.take k) ++ [s.units[k].op, s.units[k].th, s.units[k].cl, s.units[k].pr] ++ List.replicate (12 - 4 * (k + 1)) false := by
  unfold sitK unitsB; rw [List.take_succ_eq_append_getElem hk, List.flatMap_append, List.flatMap_cons, List.flatMap_nil, List.append_nil]; simp only [List.append_assoc]
 rw [e]; unfold sitK; generalize hA : [s.drive == 1, s.drive == 2, s.folder] ++ unitsB (s.units.take k) = A
 have hl : A.length = 3 + 4 * k := by
  rw [← hA, List.length_append, unitsB_len, List.length_take, Nat.min_eq_left (Nat.le_of_lt hk)]; rfl
 rw [List.map_append]; unfold splice; have hm : (A.map Value.bool).length = 3 + 4 * k := (by rw [List.length_map, hl]); rw [List.take_append, List.take_of_length_le (by omega), List.drop_append, List.drop_of_length_le (by simp; omega), hm]; simp; omega
section
variable {P : Program} {w : World} {ops : Array Oper} {o : Oper} {a : Act} {Q : Exit → Act → World → Prop} {K : Act → World → Prop} {E : Prop}
theorem step_build4 {t e : TypeId} {z : Value} {bytes : Nat} (T : SliceT P t e z 1 bytes) (hgd : o.guard = none) {x0 x1 x2 x3 : Operand} (ho : o.op = .buildSlice t 4 #[(0, x0), (1, x1), (2, x2), (3, x3)]) {v0 v1 v2 v3 : Value}
 (h0 : a.eval x0 = v0) (h1 : a.eval x1 = v1) (h2 : a.eval x2 = v2) (h3 : a.eval x3 = v3) (c0 : v0.cells = #[v0]) (c1 : v1.cells = #[v1]) (c2 : v2.cells = #[v2]) (c3 : v3.cells = #[v3])
 (h : ∀ b w', Ext w w' → w.heap.size ≤ b → b < w'.heap.size → (∀ j u, [v0, v1, v2, v3][j]? = some u → w'.cell? ⟨b, j, none⟩ = some u) → K (a.put o.dst (.slice (some ⟨b, 0, none⟩) 4 4)) w') :
 if Region.wanted o (yielded ops a.tmps) = true then Oper.wp P o a w K Q else E := by
 have hw : Region.wanted o (yielded ops a.tmps) = true := (by simp [Region.wanted, hgd]); rw [if_pos hw]; obtain ⟨ht, hinfo, hzs, hpos, hbyt⟩ := T; obtain ⟨i, hi, hp⟩ := Option.map_eq_some_iff.1 hinfo; simp only [Prod.mk.injEq] at hp; obtain ⟨hz, hsz, hby⟩ := hp; refine wp_buildSlice t e 4 _ ho [v0, v1, v2, v3].toArray i z ht hi hz (by rw [hsz]; omega) (by rw [hsz]; omega) ?_ ?_
 {
 rw [hsz]; have : (#[(0, x0), (1, x1), (2, x2), (3, x3)].map fun ((i, x) : Nat × Operand) => (i, a.eval x)).toList = [(0, v0), (1, v1), (2, v2), (3, v3)] := (by simp [h0, h1, h2, h3]); rw [this]
 have h5 := Great.fill_whole (s := 1) (by omega) [v0, v1, v2, v3] ((Array.range (4 * 1)).map (z.cells[· % z.cells.size]!)) (fun u hu => by
  simp only [List.mem_cons, List.not_mem_nil, or_false] at hu
  rcases hu with rfl | rfl | rfl | rfl
  · rw [c0]; rfl
  · rw [c1]; rfl
  · rw [c2]; rfl
  · rw [c3]; rfl) (by simp)
 have h6 : ([v0, v1, v2, v3].flatMap fun v => v.cells.toList).toArray = [v0, v1, v2, v3].toArray := (by simp [c0, c1, c2, c3]); rw [h6] at h5; exact h5
 }
 · exact h _ _ (ext_lit w _ _) (Nat.le_refl _) (by simp) (new_cells w [v0, v1, v2, v3] e)
end
theorem list15 (l : List Bool) (h : l.length = 15) : ∃ b0 b1 b2 b3 b4 b5 b6 b7 b8 b9 b10 b11 b12 b13 b14, l = [b0, b1, b2, b3, b4, b5, b6, b7, b8, b9, b10, b11, b12, b13, b14] := by
 match l, h with
 | [b0, b1, b2, b3, b4, b5, b6, b7, b8, b9, b10, b11, b12, b13, b14], _ => exact ⟨b0, b1, b2, b3, b4, b5, b6, b7, b8, b9, b10, b11, b12, b13, b14, rfl⟩
/-- A situation as a value. -/
def sitV (s : StD) : Value := .agg ((sitD s).map Value.bool).toArray
abbrev f15 : Array Value := #[.bool false, .bool false, .bool false, .bool false, .bool false, .bool false, .bool false, .bool false, .bool false, .bool false, .bool false, .bool false, .bool false, .bool false, .bool false]
set_option maxRecDepth 100000 in
set_option maxHeartbeats 4000000 in
theorem situation_any {B : Nat} {mb pb ub c : Nat} {p : PressD} {s : StD} {vj : Value} (w : World) (h : MOw B w mb pb ub c p s vj) (hl : s.units.length ≤ 3) :
 Calls Tryz.prog 43 #[.pointer (some ⟨mb, 0, none⟩)] w fun e w' => e = .returned (sitV s) ∧ Ext w w' := by
 obtain ⟨b1, hb1⟩ : ∃ b, (s.drive == 1) = b := ⟨_, rfl⟩; obtain ⟨b2, hb2⟩ : ∃ b, (s.drive == 2) = b := ⟨_, rfl⟩
 have h0 : ((sitK s 0).map Value.bool).toArray = #[.bool b1, .bool b2, .bool s.folder, .bool false, .bool false, .bool false, .bool false, .bool false, .bool false, .bool false, .bool false, .bool false, .bool false, .bool false, .bool false] := by
  unfold sitK; rw [hb1, hb2]; rfl
 have H0 := Hd h; have HL := Hd hl; have HK0 := Hd h0; clear h hl h0
 go_enter Tryz.func43, Tryz.ntmps43
 go_upto_region 1 with (
  (with_reducible refine wpList_allocA (t := 105) (cs := f15) rfl rfl (fun w => by kernel_rfl) ?_); rintro rb w1 hx1 hx2 hx3; have RB := Hd hx1; have X1 := Hd hx2; have LR := Hd hx3
  clear hx1 hx2 hx3)
 try simp only [kA, kB, kC, kD, kE]
 go_cut [3] (fun v W => ∃ qb, v = .pointer (some ⟨qb, 0, none⟩) ∧ Hid (Blk W qb ((sitK s 0).map Value.bool).toArray 105) ∧ Hid (Blk W rb f15 105) ∧ Hid (rb < qb) ∧ Hid (Ext w W))
 case first =>
  as_aux_lemma =>
   have xd : Ext w1 w1.drew := (Below.refl _ w1).drew; have x2 := X1.out.tr xd; have rb2 := RB.out.ext xd; have hmc := (H0.out.ext x2).bm.cell; refine wp_region_K (fun wx => ∀ j, wx.cell? ⟨mb, j, none⟩ = (#[.pointer (some ⟨pb, 0, none⟩), .int .i64 s.drive, .bool s.folder, .slice (some ⟨ub, 0, none⟩) s.units.length c, .int .i64 s.fresh] : Array Value)[j]?) 19 (by kernel_rfl) hmc (fun kh => ?_); generalize w1.drew = wA at *; clear X1 RB xd hmc; have X1 := Hd x2; have RB := Hd rb2; clear x2 rb2; refine kX 0 kh ?_; simp only [kS]; refine kX 1 kh ?_; simp only [kS]; refine kX 2 kh ?_; simp only [kS]; refine kX 3 kh ?_; simp only [kS]; refine kX 4 kh ?_; simp only [kS]; refine kX 5 kh ?_; simp only [kS]; refine kX 6 kh ?_; simp only [kS]; refine kX 7 kh ?_; simp only [kS]; refine kX 8 kh ?_; simp only [kS]; refine kX 9 kh ?_; simp only [kS]; refine kX 10 kh ?_; simp only [kS]; refine kX 11 kh ?_; simp only [kS]; refine kX 12 kh ?_; simp only [kS]; refine kX 13 kh ?_; simp only [kS]; refine kX 14 kh ?_; simp only [kS]; refine kX 15 kh ?_; simp only [kS]; refine kX 16 kh ?_; simp only [kS]; refine kX 17 kh ?_; simp only [kS]; refine rK [18] ?_; refine xK 18 (fun K hK => ?_) ?_
   {
   refine step_allocA (t := 105) (cs := f15) rfl rfl (fun w => by kernel_rfl) ?_; intro qb wy hb hx hl; have lq : rb < qb := Nat.lt_of_lt_of_le RB.out.lt hl; have lw : w.heap.size ≤ qb := Nat.le_trans X1.out.size hl; have x2 := X1.out.tr hx; have rb2 := RB.out.ext hx; clear X1 RB hx hl; have X1 := Hd x2; have RB := Hd rb2; have QB := Hd hb; have LQ := Hd lq; have LW := Hd lw; clear x2 rb2 hb lq lw; refine kG hK ((H0.out.ext X1.out).bm.cell) fun kh => ?_; (try simp only [kS]); refine rK [19] ?_; refine xK 19 (fun K hK => ?_) ?_
   {
   refine sK #[.bool b1, .bool b2, .bool s.folder, .bool false, .bool false, .bool false, .bool false, .bool false, .bool false, .bool false, .bool false, .bool false, .bool false, .bool false, .bool false] QB.out ?_; intro wz hb ho; rw [← HK0.out] at hb; have x2 := X1.out.then_only ho (fun j (e : j = qb) => by rw [e]; exact LW.out); have rb2 := RB.out.only ho (fun (e : rb = qb) => by have := LQ.out; omega); clear X1 RB ho; have X1 := Hd x2; have RB := Hd rb2; have QB2 := Hd hb; clear x2 rb2 hb; refine kH hK rfl ?_; (try clear kh); (try simp only [kS]); refine dK ?_ _; go_wp2; go_meet
   case rel => exact ⟨qb, rfl, QB2, RB, LQ, X1⟩
   }
   exact nK
   }
   exact nK
 case rest =>
 obtain ⟨qb, rfl, QB, RB, LQ, X1⟩ := hcut; obtain ⟨w2, rfl⟩ : ∃ W, W = wc := ⟨wc, rfl⟩; have d := (H0.out.ext X1.out).bm.cell; have lw : w.heap.size ≤ qb := (by have := LR.out; have := LQ.out; omega); have lq2 : qb < w2.heap.size := QB.out.lt; have LW := Hd lw; have LQ2 := Hd lq2; clear lw lq2
 go_upto_region 3 with (fail)
 clear d
 go_loopw [30] (fun t30 wr => ∃ k : Nat, k ≤ s.units.length ∧ t30 = .int .i64 k ∧ Hid (Blk wr qb ((sitK s k).map Value.bool).toArray 105) ∧ Hid (Below qb w2 wr)) (fun t30 _ => s.units.length - (intOf t30).toNat)
 case atStart => exact ⟨0, Nat.zero_le _, rfl, QB, Below.refl _ _⟩
 case round =>
  obtain ⟨k, hk, rfl, HQ, HB⟩ := hrel; have hkb : k ≤ 3 := Nat.le_trans hk HL.out; have x3 : Ext w wr := X1.out.trans (HB.out.mono LW.out)
  by_cases hlt : k < s.units.length
  {
  have hm := H0.out.ext x3; obtain ⟨c0, c1, c2, c3, c5⟩ := hm.at hlt; have hsuc := sitK_succ s k hlt (by have := HL.out; omega); have hl15 := sitK_len s k hk hkb; obtain ⟨u, hu⟩ : ∃ u, s.units[k] = u := ⟨_, rfl⟩; rw [hu] at c0 c1 c2 c3 c5 hsuc; obtain ⟨uo, ut, uc, up, ui⟩ := u; dsimp only at *; have i1 : (0:Int) ≤ (k:Int) := (by omega); have i2 : (k:Int) < (s.units.length:Int) := (by omega); have lqr : qb < wr.heap.size := HQ.out.lt; obtain ⟨nx, hnx⟩ : ∃ nx, (sitK s (k + 1)).map Value.bool = nx := ⟨_, rfl⟩; obtain ⟨k1, hk1⟩ : ∃ k1, k + 1 = k1 := ⟨_, rfl⟩; rw [hnx] at hsuc; rw [hk1] at hnx; have k1b : k1 ≤ s.units.length := (by omega); have k1i : (k1:Int) = (k:Int) + 1 := (by omega); clear hk1; have hnx2 : nx = (sitK s k1).map Value.bool := hnx.symm; clear hnx; have HSUC := Hd hsuc; have HL15 := Hd hl15; have LQR := Hd lqr; have HNX := Hd hnx2; have K1B := Hd k1b; have K1I := Hd k1i; clear hsuc hl15 lqr hnx2 k1b k1i; clear hu hm x3
  go_upto_region 5 with (first
   | (with_reducible refine wpList_allocA (t := 82) rfl rfl Tryz.zeroValue82 ?_
      rintro zb w5 hz1 hz2 hz3; have lz : qb < zb := Nat.lt_of_lt_of_le LQR.out hz3; have hb2 := HB.out.trans (hz2.mono (Nat.le_of_lt LQR.out)); have hq2 := HQ.out.ext hz2; clear HB HQ; have ZB := Hd hz1; have HB := Hd hb2; have LZ := Hd lz; have HQ := Hd hq2; clear hz1 hb2 lz hq2
      clear hz2 hz3)
   | (with_reducible refine wpList_storeK (ty := 82) (cells := #[.bool uo, .bool ut, .bool uc, .bool up, .int .i64 ui]) rfl rfl ZB.out ?_ ?_ ?_ ?_ ?_ ?_
      rfl; rfl; kernel_rfl; rfl; simp [Value.oneCell']; rintro w6 hb6 ho6; have hq2 := HQ.out.only ho6 (fun e => by have := LZ.out; omega); have hb2 := HB.out.trans (ho6.below (B := qb) (by have := HQ.out.lt; omega) (fun k (e : k = zb) => by have := LZ.out; omega)); clear HB HQ ZB ho6 c0 c1 c2 c3 c5; have HB := Hd hb2; have HQ := Hd hq2; have ZB := Hd hb6
      clear hb2 hq2 hb6))
  have xd : Ext w6 w6.drew := (Below.refl _ w6).drew; have zb2 := ZB.out.ext xd; have hq2 := HQ.out.ext xd; have hb2 := HB.out.trans (xd.mono (by have := HQ.out.lt; omega)); clear ZB HQ HB; refine wp_region_K (fun wx => ∀ j, wx.cell? ⟨zb, j, none⟩ = (#[.bool uo, .bool ut, .bool uc, .bool up, .int .i64 ui] : Array Value)[j]?) 13 (by kernel_rfl) zb2.cell (fun kh => ?_); generalize w6.drew = wA at *; clear xd; have ZB := Hd zb2; have HQ := Hd hq2; have HB := Hd hb2; clear zb2 hq2 hb2; have hk3 : k = 0 ∨ k = 1 ∨ k = 2 := (by have := HL.out; omega); have g0 : IntKind.i64.wrap 0 = 0 := (by decide); have g3 : IntKind.i64.wrap 3 = 3 := (by decide); have g4 : IntKind.i64.wrap 4 = 4 := (by decide); have g7 : IntKind.i64.wrap 7 = 7 := (by decide); have g8 : IntKind.i64.wrap 8 = 8 := (by decide); have g11 : IntKind.i64.wrap 11 = 11 := (by decide); have q3 : ∀ w, (Instr.sliceAt 105 (.pointer (some ⟨qb, 0, none⟩)) (some (.int .i64 3)) none none).run Tryz.prog w = .ok (.slice (some ⟨qb, 3, none⟩) 12 12) w := fun w => (by kernel_rfl); have q7 : ∀ w, (Instr.sliceAt 105 (.pointer (some ⟨qb, 0, none⟩)) (some (.int .i64 7)) none none).run Tryz.prog w = .ok (.slice (some ⟨qb, 7, none⟩) 8 8) w := fun w => (by kernel_rfl); have q11 : ∀ w, (Instr.sliceAt 105 (.pointer (some ⟨qb, 0, none⟩)) (some (.int .i64 11)) none none).run Tryz.prog w = .ok (.slice (some ⟨qb, 11, none⟩) 4 4) w := fun w => by kernel_rfl
  rcases hk3 with rfl | rfl | rfl
  {
  refine kX 4 kh ?_; simp only [kS]; refine kX 5 kh ?_; simp only [kS]; refine kX 6 kh ?_; simp only [kS]; refine kX 7 kh ?_; simp only [kS]; refine kX 8 kh ?_; simp only [kS]; refine kX 9 kh ?_; simp only [kS]; refine kX 10 kh ?_; simp only [kS]; refine kX 11 kh ?_; simp only [kS]; refine rK [0, 12] ?_; refine xK 0 (fun K hK => ?_) ?_
  {
  go_simp; refine kG hK ZB.out.cell fun kh => ?_; (try simp only [kS]); refine kX 1 kh ?_; simp only [kS]; refine kX 2 kh ?_; simp only [kS]; refine kX 3 kh ?_; simp only [kS]; refine rK [12] ?_; refine xK 12 (fun K hK => ?_) ?_
  {
  refine step_build4 tBl rfl rfl (v0 := .bool uo) (v1 := .bool ut) (v2 := .bool uc) (v3 := .bool up) rfl rfl rfl rfl rfl rfl rfl rfl ?_; intro lb wy hx hl hlb hlc; have zb2 := ZB.out.ext hx; have hq2 := HQ.out.ext hx; have hb2 := HB.out.trans (hx.mono (by have := HQ.out.lt; omega)); clear ZB HQ HB; have ZB := Hd zb2; have HQ := Hd hq2; have HB := Hd hb2; have LC := Hd hlc; clear zb2 hq2 hb2 hlc; refine kG hK ZB.out.cell fun kh => ?_; (try simp only [kS]); clear hx hl hlb; refine rK [13] ?_; refine xK 13 (fun K hK => ?_) ?_
  {
  refine step_copy_splice rfl _ _ _ _ rfl 4 tBl.ht (by kernel_rfl) _ _ _ _ _ _ rfl rfl qb _ _ 105 HQ.out [.bool uo, .bool ut, .bool uc, .bool up] rfl (fun _ => ⟨rfl, ⟨lb, 0, none⟩, rfl, fun j v hj => by rw [addr0]; exact LC.out j v hj⟩) (by rw [List.length_map, HL15.out]; simp) (by simp [Value.oneCell']) qb w2 HB.out (Nat.le_refl _) ?_; intro w9 hg9 hb9; have hq9 : Blk w9 qb nx.toArray 105 := hg9.out.trans (congrArg (fun x : List Value => some (Obj.cells x.toArray 105 (0, 0))) HSUC.out); clear hg9; have HQ9 := Hd hq9; have HB9 := Hd hb9; clear hq9 hb9; refine kH hK rfl ?_; (try clear kh); (try simp only [kS]); refine dK ?_ _; go_wp2
  go_roundw
  case rel => exact ⟨k1, K1B.out, by rw [K1I.out]; first | rfl | go_num, by rw [← HNX.out]; exact HQ9, HB9⟩
  case measure => simp [intOf] <;> omega
  }
  exact nK
  }
  exact nK
  }
  refine xK 12 (fun K hK => ?_) ?_
  {
  refine step_build4 tBl rfl rfl (v0 := .bool uo) (v1 := .bool ut) (v2 := .bool uc) (v3 := .bool up) rfl rfl rfl rfl rfl rfl rfl rfl ?_; intro lb wy hx hl hlb hlc; have zb2 := ZB.out.ext hx; have hq2 := HQ.out.ext hx; have hb2 := HB.out.trans (hx.mono (by have := HQ.out.lt; omega)); clear ZB HQ HB; have ZB := Hd zb2; have HQ := Hd hq2; have HB := Hd hb2; have LC := Hd hlc; clear zb2 hq2 hb2 hlc; refine kG hK ZB.out.cell fun kh => ?_; (try simp only [kS]); clear hx hl hlb; refine rK [0] ?_; refine xK 0 (fun K hK => ?_) ?_
  {
  go_simp; refine kG hK ZB.out.cell fun kh => ?_; (try simp only [kS]); refine kX 1 kh ?_; simp only [kS]; refine kX 2 kh ?_; simp only [kS]; refine kX 3 kh ?_; simp only [kS]; refine rK [13] ?_; refine xK 13 (fun K hK => ?_) ?_
  {
  refine step_copy_splice rfl _ _ _ _ rfl 4 tBl.ht (by kernel_rfl) _ _ _ _ _ _ rfl rfl qb _ _ 105 HQ.out [.bool uo, .bool ut, .bool uc, .bool up] rfl (fun _ => ⟨rfl, ⟨lb, 0, none⟩, rfl, fun j v hj => by rw [addr0]; exact LC.out j v hj⟩) (by rw [List.length_map, HL15.out]; simp) (by simp [Value.oneCell']) qb w2 HB.out (Nat.le_refl _) ?_; intro w9 hg9 hb9; have hq9 : Blk w9 qb nx.toArray 105 := hg9.out.trans (congrArg (fun x : List Value => some (Obj.cells x.toArray 105 (0, 0))) HSUC.out); clear hg9; have HQ9 := Hd hq9; have HB9 := Hd hb9; clear hq9 hb9; refine kH hK rfl ?_; (try clear kh); (try simp only [kS]); refine dK ?_ _; go_wp2
  go_roundw
  case rel => exact ⟨k1, K1B.out, by rw [K1I.out]; first | rfl | go_num, by rw [← HNX.out]; exact HQ9, HB9⟩
  case measure => simp [intOf] <;> omega
  }
  exact nK
  }
  exact nK
  }
  exact nK
  }
  {
  refine kX 4 kh ?_; simp only [kS]; refine kX 5 kh ?_; simp only [kS]; refine kX 6 kh ?_; simp only [kS]; refine kX 7 kh ?_; simp only [kS]; refine kX 8 kh ?_; simp only [kS]; refine kX 9 kh ?_; simp only [kS]; refine kX 10 kh ?_; simp only [kS]; refine kX 11 kh ?_; simp only [kS]; refine rK [0, 12] ?_; refine xK 0 (fun K hK => ?_) ?_
  {
  go_simp; refine kG hK ZB.out.cell fun kh => ?_; (try simp only [kS]); refine kX 1 kh ?_; simp only [kS]; refine kX 2 kh ?_; simp only [kS]; refine kX 3 kh ?_; simp only [kS]; refine rK [12] ?_; refine xK 12 (fun K hK => ?_) ?_
  {
  refine step_build4 tBl rfl rfl (v0 := .bool uo) (v1 := .bool ut) (v2 := .bool uc) (v3 := .bool up) rfl rfl rfl rfl rfl rfl rfl rfl ?_; intro lb wy hx hl hlb hlc; have zb2 := ZB.out.ext hx; have hq2 := HQ.out.ext hx; have hb2 := HB.out.trans (hx.mono (by have := HQ.out.lt; omega)); clear ZB HQ HB; have ZB := Hd zb2; have HQ := Hd hq2; have HB := Hd hb2; have LC := Hd hlc; clear zb2 hq2 hb2 hlc; refine kG hK ZB.out.cell fun kh => ?_; (try simp only [kS]); clear hx hl hlb; refine rK [13] ?_; refine xK 13 (fun K hK => ?_) ?_
  {
  refine step_copy_splice rfl _ _ _ _ rfl 4 tBl.ht (by kernel_rfl) _ _ _ _ _ _ rfl rfl qb _ _ 105 HQ.out [.bool uo, .bool ut, .bool uc, .bool up] rfl (fun _ => ⟨rfl, ⟨lb, 0, none⟩, rfl, fun j v hj => by rw [addr0]; exact LC.out j v hj⟩) (by rw [List.length_map, HL15.out]; simp) (by simp [Value.oneCell']) qb w2 HB.out (Nat.le_refl _) ?_; intro w9 hg9 hb9; have hq9 : Blk w9 qb nx.toArray 105 := hg9.out.trans (congrArg (fun x : List Value => some (Obj.cells x.toArray 105 (0, 0))) HSUC.out); clear hg9; have HQ9 := Hd hq9; have HB9 := Hd hb9; clear hq9 hb9; refine kH hK rfl ?_; (try clear kh); (try simp only [kS]); refine dK ?_ _; go_wp2
  go_roundw
  case rel => exact ⟨k1, K1B.out, by rw [K1I.out]; first | rfl | go_num, by rw [← HNX.out]; exact HQ9, HB9⟩
  case measure => simp [intOf] <;> omega
  }
  exact nK
  }
  exact nK
  }
  refine xK 12 (fun K hK => ?_) ?_
  {
  refine step_build4 tBl rfl rfl (v0 := .bool uo) (v1 := .bool ut) (v2 := .bool uc) (v3 := .bool up) rfl rfl rfl rfl rfl rfl rfl rfl ?_; intro lb wy hx hl hlb hlc; have zb2 := ZB.out.ext hx; have hq2 := HQ.out.ext hx; have hb2 := HB.out.trans (hx.mono (by have := HQ.out.lt; omega)); clear ZB HQ HB; have ZB := Hd zb2; have HQ := Hd hq2; have HB := Hd hb2; have LC := Hd hlc; clear zb2 hq2 hb2 hlc; refine kG hK ZB.out.cell fun kh => ?_; (try simp only [kS]); clear hx hl hlb; refine rK [0] ?_; refine xK 0 (fun K hK => ?_) ?_
  {
  go_simp; refine kG hK ZB.out.cell fun kh => ?_; (try simp only [kS]); refine kX 1 kh ?_; simp only [kS]; refine kX 2 kh ?_; simp only [kS]; refine kX 3 kh ?_; simp only [kS]; refine rK [13] ?_; refine xK 13 (fun K hK => ?_) ?_
  {
  refine step_copy_splice rfl _ _ _ _ rfl 4 tBl.ht (by kernel_rfl) _ _ _ _ _ _ rfl rfl qb _ _ 105 HQ.out [.bool uo, .bool ut, .bool uc, .bool up] rfl (fun _ => ⟨rfl, ⟨lb, 0, none⟩, rfl, fun j v hj => by rw [addr0]; exact LC.out j v hj⟩) (by rw [List.length_map, HL15.out]; simp) (by simp [Value.oneCell']) qb w2 HB.out (Nat.le_refl _) ?_; intro w9 hg9 hb9; have hq9 : Blk w9 qb nx.toArray 105 := hg9.out.trans (congrArg (fun x : List Value => some (Obj.cells x.toArray 105 (0, 0))) HSUC.out); clear hg9; have HQ9 := Hd hq9; have HB9 := Hd hb9; clear hq9 hb9; refine kH hK rfl ?_; (try clear kh); (try simp only [kS]); refine dK ?_ _; go_wp2
  go_roundw
  case rel => exact ⟨k1, K1B.out, by rw [K1I.out]; first | rfl | go_num, by rw [← HNX.out]; exact HQ9, HB9⟩
  case measure => simp [intOf] <;> omega
  }
  exact nK
  }
  exact nK
  }
  exact nK
  }
  {
  refine kX 4 kh ?_; simp only [kS]; refine kX 5 kh ?_; simp only [kS]; refine kX 6 kh ?_; simp only [kS]; refine kX 7 kh ?_; simp only [kS]; refine kX 8 kh ?_; simp only [kS]; refine kX 9 kh ?_; simp only [kS]; refine kX 10 kh ?_; simp only [kS]; refine kX 11 kh ?_; simp only [kS]; refine rK [0, 12] ?_; refine xK 0 (fun K hK => ?_) ?_
  {
  go_simp; refine kG hK ZB.out.cell fun kh => ?_; (try simp only [kS]); refine kX 1 kh ?_; simp only [kS]; refine kX 2 kh ?_; simp only [kS]; refine kX 3 kh ?_; simp only [kS]; refine rK [12] ?_; refine xK 12 (fun K hK => ?_) ?_
  {
  refine step_build4 tBl rfl rfl (v0 := .bool uo) (v1 := .bool ut) (v2 := .bool uc) (v3 := .bool up) rfl rfl rfl rfl rfl rfl rfl rfl ?_; intro lb wy hx hl hlb hlc; have zb2 := ZB.out.ext hx; have hq2 := HQ.out.ext hx; have hb2 := HB.out.trans (hx.mono (by have := HQ.out.lt; omega)); clear ZB HQ HB; have ZB := Hd zb2; have HQ := Hd hq2; have HB := Hd hb2; have LC := Hd hlc; clear zb2 hq2 hb2 hlc; refine kG hK ZB.out.cell fun kh => ?_; (try simp only [kS]); clear hx hl hlb; refine rK [13] ?_; refine xK 13 (fun K hK => ?_) ?_
  {
  refine step_copy_splice rfl _ _ _ _ rfl 4 tBl.ht (by kernel_rfl) _ _ _ _ _ _ rfl rfl qb _ _ 105 HQ.out [.bool uo, .bool ut, .bool uc, .bool up] rfl (fun _ => ⟨rfl, ⟨lb, 0, none⟩, rfl, fun j v hj => by rw [addr0]; exact LC.out j v hj⟩) (by rw [List.length_map, HL15.out]; simp) (by simp [Value.oneCell']) qb w2 HB.out (Nat.le_refl _) ?_; intro w9 hg9 hb9; have hq9 : Blk w9 qb nx.toArray 105 := hg9.out.trans (congrArg (fun x : List Value => some (Obj.cells x.toArray 105 (0, 0))) HSUC.out); clear hg9; have HQ9 := Hd hq9; have HB9 := Hd hb9; clear hq9 hb9; refine kH hK rfl ?_; (try clear kh); (try simp only [kS]); refine dK ?_ _; go_wp2
  go_roundw
  case rel => exact ⟨k1, K1B.out, by rw [K1I.out]; first | rfl | go_num, by rw [← HNX.out]; exact HQ9, HB9⟩
  case measure => simp [intOf] <;> omega
  }
  exact nK
  }
  exact nK
  }
  refine xK 12 (fun K hK => ?_) ?_
  {
  refine step_build4 tBl rfl rfl (v0 := .bool uo) (v1 := .bool ut) (v2 := .bool uc) (v3 := .bool up) rfl rfl rfl rfl rfl rfl rfl rfl ?_; intro lb wy hx hl hlb hlc; have zb2 := ZB.out.ext hx; have hq2 := HQ.out.ext hx; have hb2 := HB.out.trans (hx.mono (by have := HQ.out.lt; omega)); clear ZB HQ HB; have ZB := Hd zb2; have HQ := Hd hq2; have HB := Hd hb2; have LC := Hd hlc; clear zb2 hq2 hb2 hlc; refine kG hK ZB.out.cell fun kh => ?_; (try simp only [kS]); clear hx hl hlb; refine rK [0] ?_; refine xK 0 (fun K hK => ?_) ?_
  {
  go_simp; refine kG hK ZB.out.cell fun kh => ?_; (try simp only [kS]); refine kX 1 kh ?_; simp only [kS]; refine kX 2 kh ?_; simp only [kS]; refine kX 3 kh ?_; simp only [kS]; refine rK [13] ?_; refine xK 13 (fun K hK => ?_) ?_
  {
  refine step_copy_splice rfl _ _ _ _ rfl 4 tBl.ht (by kernel_rfl) _ _ _ _ _ _ rfl rfl qb _ _ 105 HQ.out [.bool uo, .bool ut, .bool uc, .bool up] rfl (fun _ => ⟨rfl, ⟨lb, 0, none⟩, rfl, fun j v hj => by rw [addr0]; exact LC.out j v hj⟩) (by rw [List.length_map, HL15.out]; simp) (by simp [Value.oneCell']) qb w2 HB.out (Nat.le_refl _) ?_; intro w9 hg9 hb9; have hq9 : Blk w9 qb nx.toArray 105 := hg9.out.trans (congrArg (fun x : List Value => some (Obj.cells x.toArray 105 (0, 0))) HSUC.out); clear hg9; have HQ9 := Hd hq9; have HB9 := Hd hb9; clear hq9 hb9; refine kH hK rfl ?_; (try clear kh); (try simp only [kS]); refine dK ?_ _; go_wp2
  go_roundw
  case rel => exact ⟨k1, K1B.out, by rw [K1I.out]; first | rfl | go_num, by rw [← HNX.out]; exact HQ9, HB9⟩
  case measure => simp [intOf] <;> omega
  }
  exact nK
  }
  exact nK
  }
  exact nK
  }
  }
  {
  have i2 : decide ((k:Int) < (s.units.length:Int)) = false := decide_eq_false (by omega); obtain rfl : k = s.units.length := (by omega); have hq := HQ.out; rw [sitK_end s HL.out] at hq; obtain ⟨d0, d1, d2, d3, d4, d5, d6, d7, d8, d9, d10, d11, d12, d13, d14, hd⟩ := list15 (sitD s) (sitD_len s); have hsv : sitV s = .agg #[.bool d0, .bool d1, .bool d2, .bool d3, .bool d4, .bool d5, .bool d6, .bool d7, .bool d8, .bool d9, .bool d10, .bool d11, .bool d12, .bool d13, .bool d14] := (by unfold sitV; rw [hd]; rfl); have hq' : Blk wr qb #[.bool d0, .bool d1, .bool d2, .bool d3, .bool d4, .bool d5, .bool d6, .bool d7, .bool d8, .bool d9, .bool d10, .bool d11, .bool d12, .bool d13, .bool d14] 105 := (by rw [hd] at hq; exact hq); have c1 := hq'.cell; have rb2 : Blk wr rb f15 105 := (HB.out.block rb LQ.out).trans RB.out; clear hq hd hq'; have HSV := Hd hsv; have RB2 := Hd rb2; have X3 := Hd x3; clear hsv rb2 x3
  go_wp2_with (
   (with_reducible refine wpList_storeK (ty := 105) (cells := #[.bool d0, .bool d1, .bool d2, .bool d3, .bool d4, .bool d5, .bool d6, .bool d7, .bool d8, .bool d9, .bool d10, .bool d11, .bool d12, .bool d13, .bool d14]) rfl rfl RB2.out ?_ ?_ ?_ ?_ ?_ ?_); rfl; rfl; kernel_rfl; rfl; simp [Value.oneCell']; rintro w9 hb9 ho9; have k0 := hb9.cell; have x9 := X3.out.then_only ho9 (fun k (e : k = rb) => by have := LR.out; omega); clear ho9 hb9; have X9 := Hd x9
   clear x9)
  refine bodyPost_ret (v := .agg #[.bool d0, .bool d1, .bool d2, .bool d3, .bool d4, .bool d5, .bool d6, .bool d7, .bool d8, .bool d9, .bool d10, .bool d11, .bool d12, .bool d13, .bool d14]) (by simp [results, Tryz.results43, go_sem, k0]) rfl ?_; exact ⟨by rw [HSV.out], X9.out⟩
  }
end Go.Proofs.YtojobdffnnibaaaGreat