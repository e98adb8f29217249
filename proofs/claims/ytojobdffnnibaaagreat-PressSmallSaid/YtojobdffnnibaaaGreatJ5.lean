/- The statements' own helpers: Own, State, Same, sameWaste, big. The statements' own helpers: Same, sameWaste, big. -/
import Derived.Test.YtojobdffnnibaaaGreatRPr
import Derived.BigQuiet
namespace Go.Proofs.YtojobdffnnibaaaGreat
open Go.RowKit
set_option linter.unusedVariables false
set_option linter.unusedSimpArgs false
theorem tBools : SliceT Tryz.prog 22 4 (.bool false) 1 1 := ⟨by kernel_rfl, by kernel_rfl, rfl, by decide, by decide⟩
theorem bools_one (bs : List Bool) : ∀ v ∈ bs.map Value.bool, v.oneCell' = true := fun v hv => by
 obtain ⟨b, _, rfl⟩ := List.mem_map.1 hv; rfl
theorem copyTruths_any (bs : List Bool) (va : Value) (w : World) (ha : Truths w va bs) (hb : bs.length ≤ 140737488355328) :
 Calls Tryz.prog 30 #[va] w fun e w' => ∃ v, e = .returned v ∧ Ext w w' ∧ w'.ownsRow w.heap.size 4 1 v bs.length (bs.map .bool) := by
 go_enter Tryz.func30, Tryz.ntmps30
 go_wp2_with (at_builtin; refine wpList_app tBools rfl rfl (v := .slice none 0 0) rfl (World.ownsRow_nil _ w.heap.size _ _) rfl ha.src (bools_one bs) (by simp; omega) (Nat.le_refl _) ?_; rintro v' w' h1 h2 h3)
 go_ret; refine ⟨v', rfl, (Below.refl _ _).grown h2 (Nat.le_refl _) (by simp [Value.ownBlock]), by simpa using h1⟩
set_option maxRecDepth 100000 in
set_option maxHeartbeats 2000000 in
theorem own_any (p : PressD) (vj : Value) (w : World) (hj : Truths w vj p.jam) (hl : p.jam.length ≤ 140737488355328) :
 Calls Tryz.prog 7 #[pV vj p] w fun e w' => ∃ v, e = .returned (pV v p) ∧ Ext w w' ∧ w'.ownsRow w.heap.size 4 1 v p.jam.length (p.jam.map .bool) := by
 have hct := fun w1 (k : Ext w w1) => copyTruths_any p.jam vj w1 (Sl.ext hj k) hl; obtain ⟨_, aj, cj, rfl, _⟩ := hj; rw [List.length_map] at *; unfold pV; have HCT := Hd hct; clear hct
 go_enter Tryz.func7, Tryz.ntmps7
 go_upto_region 1 with (first
  | (with_reducible refine wpList_boxA (t := 24) (cs := #[.slice aj p.jam.length cj, .int .i64 p.warm, .int .i64 p.tail, .int .i64 p.dirt]) rfl rfl rfl ?_
     rintro xb w1 hx1 hx2 hx3; have XB := Hd hx1; have X1 := Hd hx2; clear hx1 hx2
     clear hx3)
  | (with_reducible refine wpList_allocA (t := 34) rfl rfl Tryz.zeroValue34 ?_
     rintro rb w2 hy1 hy2 hy3; have x2 := X1.out.tr hy2; have xb2 := XB.out.ext hy2; have l2 : w.heap.size ≤ rb := Nat.le_trans X1.out.size hy3; clear XB X1; have XB := Hd xb2; have X1 := Hd x2; have RB := Hd hy1; have LR := Hd l2; clear xb2 x2 hy1 l2
     clear hy3 hy2))
 have hxd : Ext w2 w2.drew := (Below.refl _ w2).drew; have xb2 := XB.out.ext hxd; have rb2 := RB.out.ext hxd; have x2 := X1.out.tr hxd; clear XB RB X1; refine wp_region_K (fun wx => ∀ i, wx.cell? ⟨xb, i, none⟩ = (#[.slice aj p.jam.length cj, .int .i64 p.warm, .int .i64 p.tail, .int .i64 p.dirt] : Array Value)[i]?) 10 (by kernel_rfl) xb2.cell (fun kh => ?_); generalize w2.drew = wA at *; have XB := Hd xb2; have RB := Hd rb2; have X1 := Hd x2; clear xb2 rb2 x2; clear hxd; refine kX 0 kh ?_; simp only [kS]; refine kX 1 kh ?_; simp only [kS]; refine kX 3 kh ?_; simp only [kS]; refine kX 4 kh ?_; simp only [kS]; refine kX 5 kh ?_; simp only [kS]; refine kX 6 kh ?_; simp only [kS]; refine kX 7 kh ?_; simp only [kS]; refine kX 8 kh ?_; simp only [kS]; refine rK [2] ?_; refine xK 2 (fun K hK => ?_) ?_
 {
 refine cK #[.slice aj p.jam.length cj] Tryz.func30 (HCT.out _ X1.out) ?_; rintro e wy ⟨v, rfl, hx, ho⟩; refine ⟨_, rfl, ?_⟩; obtain ⟨a5, c5, rfl⟩ := row_form ho; have xb2 := XB.out.ext hx; have rb2 := RB.out.ext hx; have x2 := X1.out.tr hx; have ho2 := owns_weak ho X1.out.size
 have hnb : ∀ b, (Value.slice a5 p.jam.length c5).ownBlock = some b → b ≠ rb := fun b hb e => by
  have h1 := (ho.lt b hb).1; have h2 := RB.out.lt; omega
 clear XB RB X1 hx ho; have XB := Hd xb2; have RB := Hd rb2; have X1 := Hd x2; have HO := Hd ho2; have HNB := Hd hnb; clear xb2 rb2 x2 ho2 hnb; refine kG hK XB.out.cell fun kh => ?_; (try simp only [kS]); refine kX 9 kh ?_; simp only [kS]; refine rK [10] ?_; refine xK 10 (fun K hK => ?_) ?_
 { refine sK #[.slice a5 p.jam.length c5, .int .i64 p.warm, .int .i64 p.tail, .int .i64 p.dirt] RB.out ?_; intro wz hb ho; have k0 := hb.cell; have x2 := X1.out.then_only ho (fun k (e : k = rb) => by rw [e]; exact LR.out); have ho2 := owns_only HO.out ho HNB.out; clear X1 HO hb ho; have X1 := Hd x2; have HO := Hd ho2; clear x2 ho2; refine kH hK rfl ?_; (try clear kh); (try simp only [kS]); refine dK ?_ _; go_wp2; refine bodyPost_ret (v := pV (.slice a5 p.jam.length c5) p) (by simp [results, Tryz.results7, go_sem, k0, pV]) rfl ?_; exact ⟨_, rfl, X1.out, HO.out⟩ }
 exact nK
 }
 exact nK
set_option maxRecDepth 100000 in
set_option maxHeartbeats 2000000 in
theorem state_any (s : StD) (vu : Value) (w : World) (hu : UnIn w vu s.units) (hl : s.units.length ≤ 1000000) :
 Calls Tryz.prog 8 #[sV vu s] w fun e w' => ∃ v, e = .returned (sV v s) ∧ Ext w w' ∧ w'.ownsRow w.heap.size 82 5 v s.units.length (uL s.units) := by
 obtain ⟨a, c, rfl, Hu⟩ := hu.form; clear hu; unfold sV; have HL := Hd hl; clear hl
 go_enter Tryz.func8, Tryz.ntmps8
 go_upto_region 3 with (first
  | (with_reducible refine wpList_boxA (t := 27) (cs := #[.int .i64 s.drive, .bool s.folder, .slice a s.units.length c, .int .i64 s.fresh]) rfl rfl rfl ?_
     rintro xb w1 hx1 hx2 hx3; have c1 := hx1.cell; have XB := Hd hx1; have X1 := Hd hx2; clear hx1 hx2
     clear hx3)
  | (fail_if_success (have := RB.out)
     (with_reducible refine wpList_allocA (t := 38) rfl rfl Tryz.zeroValue38 ?_); rintro rb w2 hy1 hy2 hy3; have x2 := X1.out.tr hy2; have xb2 := XB.out.ext hy2; have l2 : w.heap.size ≤ rb := Nat.le_trans X1.out.size hy3; have d1 := xb2.cell; clear XB X1 c1; have c1 := d1; clear d1; have RB := Hd hy1; have LR := Hd l2; have XB := Hd xb2; have X1 := Hd x2; clear hy1 l2 xb2 x2
     clear hy3 hy2)
  | (have rb0 := RB.out
     clear rb0; (with_reducible refine wpList_allocA (t := 38) rfl rfl Tryz.zeroValue38 ?_); rintro sb w2 hy1 hy2 hy3; have rb0 := RB.out.ext hy2; have hrs : sb ≠ rb := fun e => (by have := RB.out.lt; omega); have x2 := X1.out.tr hy2; have xb2 := XB.out.ext hy2; have l2 : w.heap.size ≤ sb := Nat.le_trans X1.out.size hy3; have d1 := xb2.cell; clear XB X1 c1 RB; have c1 := d1; clear d1; have SB := Hd hy1; have LS := Hd l2; have HRS := Hd hrs; have RB := Hd rb0; have XB := Hd xb2; have X1 := Hd x2; clear hy1 l2 hrs rb0 xb2 x2
     clear hy3 hy2)
  | (with_reducible refine wpList_storeK (ty := 38) (cells := #[.int .i64 s.drive, .bool s.folder, .slice none 0 0, .int .i64 s.fresh]) rfl rfl SB.out ?_ ?_ ?_ ?_ ?_ ?_
     rfl; rfl; kernel_rfl; rfl; simp [Value.oneCell']; rintro w3 hb3 ho3; have x2 := X1.out.then_only ho3 (fun k (e : k = sb) => by rw [e]; exact LS.out); have hxs : xb ≠ sb := fun e => absurd (blk_ty XB.out (e ▸ SB.out)) (by decide); have xb2 := XB.out.only ho3 hxs; have rb2 := RB.out.only ho3 (fun e => HRS.out e.symm); clear c1 XB X1 SB RB ho3; have lw3 : w.heap.size ≤ w3.heap.size := x2.size; have XB := Hd xb2; have X1 := Hd x2; have SB := Hd hb3; have RB := Hd rb2; have HXS := Hd hxs; have LW3 := Hd lw3
     clear xb2 x2 hb3 rb2 hxs lw3))
 go_loopw [4] (fun t4 wr => ∃ (k : Nat) (v : Value), k ≤ s.units.length ∧ t4 = .int .i64 k ∧ Hid (Blk wr sb #[.int .i64 s.drive, .bool s.folder, v, .int .i64 s.fresh] 38) ∧ Hid (wr.ownsRow w3.heap.size 82 5 v k (uL (s.units.take k))) ∧ Hid (Only (fun b => b = sb) w3 wr)) (fun t4 _ => s.units.length - (intOf t4).toNat)
 case atStart => exact ⟨0, _, by omega, rfl, SB, World.ownsRow_nil _ _ _ _, Only.refl _ _⟩
 case round =>
  obtain ⟨k, v, hk, rfl, HSB, HO, HON⟩ := hrel; obtain ⟨a5, c5, rfl⟩ := row_form HO.out; have hkb : k ≤ 1000000 := Nat.le_trans hk HL.out; have c1 := (XB.out.only HON.out HXS.out).cell; have c2 := HSB.out.cell
  by_cases hlt : k < s.units.length
  {
  have xw : Ext w wr := X1.out.then_only HON.out (fun b (e : b = sb) => by rw [e]; exact LS.out); obtain ⟨b, o, rfl, hc⟩ := UnIn.cells (Hu.out.ext xw) (by omega); obtain ⟨d0, d1, d2, d3, d4⟩ := hc k hlt
  have hsn : uL (s.units.take (k + 1)) = uL (s.units.take k) ++ uC s.units[k] := by
   unfold uL; rw [List.take_succ_eq_append_getElem hlt, List.flatMap_append]; simp
  obtain ⟨u, hu⟩ : ∃ u, s.units[k] = u := ⟨_, rfl⟩; rw [hu] at d0 d1 d2 d3 d4 hsn; obtain ⟨uo, ut, uc, up, ui⟩ := u; dsimp only at *; have i1 : (0:Int) ≤ (k:Int) := (by omega); have i2 : (k:Int) < (s.units.length:Int) := (by omega); have HSN := Hd hsn; clear hsn; clear hu hc xw
  go_wp2_with (first
   | (at_builtin
      refine wpList_app (n := k) (m := 1) tUnits rfl rfl (v := .slice a5 k c5) rfl (owns_ext HO.out (ext_lit _ _ _)) rfl (Src.lit _ [.bool uo, .bool ut, .bool uc, .bool up, .int .i64 ui] 1 5 rfl 82 1) (by simp [Value.oneCell']) (by omega) (Nat.le_trans HON.out.size (by simp)) ?_; rintro v' w10 t1 t2 t3; have xt := (HON.out.then (Only.of_ext (S := fun _ => False) (ext_lit wr _ _)) (fun _ _ h => h.elim)).then (only_grown t2) (fun b hb e => by have h1 := (HO.out.lt b e).1; omega); have lsb := HSB.out.lt; have hbs : ∀ b, (Value.slice a5 k c5).ownBlock = some b → w3.heap.size ≤ b := fun b hb => (HO.out.lt b hb).1; have sb2 := (HSB.out.ext (ext_lit wr _ _)).only (only_grown t2) (fun e => by have h1 := hbs _ e; have h2 := SB.out.lt; omega); rw [show uL (s.units.take k) ++ [Value.bool uo, .bool ut, .bool uc, .bool up, .int .i64 ui] = uL (s.units.take (k + 1)) from HSN.out.symm] at t1; obtain ⟨a6, c6, hv6⟩ := row_form t1; subst hv6; have hns : ∀ b, (Value.slice a6 (k + 1) c6).ownBlock = some b → b ≠ sb := fun b hb e => (by have h1 := (t1.lt b hb).1; have h2 := SB.out.lt; omega); clear c2 HO HON HSB; have HO := Hd t1; have HON := Hd xt; have HSB := Hd sb2; have HNS := Hd hns; clear t1 xt sb2 hns
      clear t2 t3 lsb hbs)
   | (with_reducible refine wpList_setK (b := sb) (i := 2) (v := .slice a6 (k + 1) c6) rfl rfl HSB.out ?_ ?_ ?_ ?_ ?_ ?_ ?_
      rfl; rfl
      · simp
      kernel_rfl; rfl; rfl; rintro wS hbS hoS; have ho2 := owns_only HO.out hoS HNS.out; have hn2 := HON.out.tr hoS; have hb2 : Blk wS sb #[.int .i64 s.drive, .bool s.folder, .slice a6 (k + 1) c6, .int .i64 s.fresh] 38 := hbS; clear HO HON HSB hbS hoS; have HO := Hd ho2; have HON := Hd hn2; have HSB := Hd hb2
      clear ho2 hn2 hb2))
  go_roundw
  case rel => exact ⟨k + 1, _, by omega, by go_num, HSB, HO, HON⟩
  case measure => simp [intOf] <;> omega
  }
  {
  have i2 : decide ((k:Int) < (s.units.length:Int)) = false := decide_eq_false (by omega); obtain rfl : k = s.units.length := (by omega); have ho := HO.out; rw [List.take_length] at ho; have x2 := X1.out.then_only HON.out (fun b (e : b = sb) => by rw [e]; exact LS.out); have rb2 := RB.out.only HON.out (fun e => HRS.out e.symm); have lr3 : rb < w3.heap.size := RB.out.lt; clear HO X1 RB; have HO := Hd ho; have X1 := Hd x2; have RB := Hd rb2; have LR3 := Hd lr3; clear ho x2 rb2 lr3
  go_wp2_with (
   (with_reducible refine wpList_storeK (ty := 38) (cells := #[.int .i64 s.drive, .bool s.folder, .slice a5 s.units.length c5, .int .i64 s.fresh]) rfl rfl RB.out ?_ ?_ ?_ ?_ ?_ ?_); rfl; rfl; kernel_rfl; rfl; simp [Value.oneCell']; rintro w9 hb9 ho9; have k0 := hb9.cell; have x2 := X1.out.then_only ho9 (fun k (e : k = rb) => by rw [e]; exact LR.out); have ho2 := owns_only HO.out ho9 (fun b hb (e : b = rb) => by have h1 := (HO.out.lt b hb).1; have h2 := LR3.out; omega); clear X1 HO hb9 ho9; have X1 := Hd x2; have HO := Hd ho2
   clear x2 ho2)
  refine bodyPost_ret (v := sV (.slice a5 s.units.length c5) s) (by simp [results, Tryz.results8, go_sem, k0, sV]) rfl ?_; exact ⟨_, rfl, X1.out, owns_weak HO.out LW3.out⟩
  }
set_option maxRecDepth 100000 in
set_option maxHeartbeats 2000000 in
theorem same_eq (s : StD) (va vb : Value) (w : World) (ha : UnIn w va s.units) (hb : UnIn w vb s.units) :
 Calls Tryz.prog 23 #[sV va s, sV vb s] w fun e w' => e = .returned (.bool true) ∧ Ext w w' := by
 obtain ⟨a, c, rfl, Ha⟩ := ha.form; obtain ⟨b, d, rfl, Hb⟩ := hb.form; have hl := ha.1; clear ha hb; unfold sV
 go_enter Tryz.func23, Tryz.ntmps23
 go_upto_region 1 with (first
  | (with_reducible refine wpList_boxA (t := 38) (cs := #[.int .i64 s.drive, .bool s.folder, .slice a s.units.length c, .int .i64 s.fresh]) rfl rfl rfl ?_
     rintro xb w1 hx1 hx2 hx3; have XB := Hd hx1; have X1 := Hd hx2; clear hx1 hx2
     clear hx3)
  | (with_reducible refine wpList_boxA (t := 27) (cs := #[.int .i64 s.drive, .bool s.folder, .slice b s.units.length d, .int .i64 s.fresh]) rfl rfl rfl ?_
     rintro yb w2 hy1 hy2 hy3; have x2 := X1.out.tr hy2; have xb2 := XB.out.ext hy2; have c1 := xb2.cell; have c2 := hy1.cell; clear XB X1; have XB := Hd xb2; have YB := Hd hy1; have X1 := Hd x2; clear xb2 hy1 x2
     clear hy3 hy2))
 go_wp2; clear c1 c2
 go_loopw [5] (fun t5 wr => ∃ k : Nat, k ≤ s.units.length ∧ t5 = .int .i64 k ∧ Hid (Ext w2 wr)) (fun t5 _ => s.units.length - (intOf t5).toNat)
 case atStart => exact ⟨0, by omega, rfl, Below.refl _ _⟩
 case round =>
  obtain ⟨k, hk, rfl, HX⟩ := hrel; have c1 := (XB.out.ext HX.out).cell; have c2 := (YB.out.ext HX.out).cell
  by_cases hlt : k < s.units.length
  {
  obtain ⟨b1, o1, rfl, hc⟩ := UnIn.cells (Ha.out.ext (X1.out.tr HX.out)) (by omega); obtain ⟨d0, d1, d2, d3, d4⟩ := hc k hlt; obtain ⟨b2, o2, rfl, hc2⟩ := UnIn.cells (Hb.out.ext (X1.out.tr HX.out)) (by omega); obtain ⟨e0, e1, e2, e3, e4⟩ := hc2 k hlt; obtain ⟨u, hu⟩ : ∃ u, s.units[k] = u := ⟨_, rfl⟩; rw [hu] at d0 d1 d2 d3 d4 e0 e1 e2 e3 e4; obtain ⟨uo, ut, uc, up, ui⟩ := u; dsimp only at *; have i1 : (0:Int) ≤ (k:Int) := (by omega); have i2 : (k:Int) < (s.units.length:Int) := (by omega); clear hu hc hc2
  go_upto_region 6 with (fail)
  go_quiet (fail)
  have xq := HX.out.tr (Ext.of_drewN wr nq); generalize wr.drewN nq = wq at *; have XQ := Hd xq; clear xq; go_wp2
  go_roundw
  case rel => exact ⟨k + 1, by omega, by go_num, XQ⟩
  case measure => simp [intOf] <;> omega
  }
  {
  have i2 : decide ((k:Int) < (s.units.length:Int)) = false := decide_eq_false (by omega); obtain rfl : k = s.units.length := by omega
  go_wp2_with (fail)
  go_ret; exact ⟨rfl, X1.out.tr HX.out⟩
  }
/-- Rows of spans that come in. -/
def SpIn (w : World) (v : Value) (l : List SpanD) : Prop :=
 l.length ≤ 1000 ∧ ∃ a c, v = .slice a l.length c ∧ (0 < l.length → ∃ b o, a = some ⟨b, o, none⟩ ∧ ∀ i (h : i < l.length), w.cell? ⟨b, o + i * 3, none⟩ = some (.int .i64 l[i].cause) ∧ w.cell? ⟨b, o + i * 3 + 1, none⟩ = some (.int .i64 l[i].lo) ∧ w.cell? ⟨b, o + i * 3 + 2, none⟩ = some (.int .i64 l[i].hi))
theorem spL_get (l : List SpanD) (i : Nat) (hi : i < l.length) : (spL l)[i * 3]? = some (.int .i64 l[i].cause) ∧ (spL l)[i * 3 + 1]? = some (.int .i64 l[i].lo) ∧ (spL l)[i * 3 + 2]? = some (.int .i64 l[i].hi) := by
 have e : spL l = (List.range l.length).flatMap fun i => spC (l.getD i ⟨0, 0, 0⟩) := by
  unfold spL
  have h : l = (List.range l.length).map fun i => l.getD i ⟨0, 0, 0⟩ := by
   apply List.ext_getElem
   · simp
   · intro k h1 h2; simp [h1]
  conv => lhs; rw [h]
  rw [List.flatMap_map]
 have h : ∀ j, j < 3 → (spL l)[i * 3 + j]? = (spC l[i])[j]? := fun j hj => by
  rw [e, flat_get (f := fun i => spC (l.getD i ⟨0, 0, 0⟩)) (fun _ => rfl) l.length i j hi hj]; simp [List.getD, hi]
 exact ⟨h 0 (by omega), h 1 (by omega), h 2 (by omega)⟩
theorem SpIn.of_owns {w : World} {B : Nat} {e : TypeId} {v : Value} {l : List SpanD} (h : w.ownsRow B e 3 v l.length (spL l)) (hl : l.length ≤ 1000) : SpIn w v l := by
 obtain ⟨a, c, hv⟩ := row_form h; refine ⟨hl, a, c, hv, fun h0 => ?_⟩; obtain ⟨g, c', hv', hc⟩ := owns_pos h h0; rw [hv] at hv'
 cases hv'
 refine ⟨g, 0, rfl, fun i hi => ?_⟩; obtain ⟨h1, h2, h3⟩ := spL_get l i hi; rw [Nat.zero_add]; exact ⟨hc _ _ h1, hc _ _ h2, hc _ _ h3⟩
theorem SpIn.ext {w w' : World} {v : Value} {l : List SpanD} (h : SpIn w v l) (k : Ext w w') : SpIn w' v l := by
 obtain ⟨h0, a, c, h1, h2⟩ := h; refine ⟨h0, a, c, h1, fun h3 => ?_⟩; obtain ⟨b, o, h4, h5⟩ := h2 h3; exact ⟨b, o, h4, fun i hi => ⟨k.cellSome (h5 i hi).1, k.cellSome (h5 i hi).2.1, k.cellSome (h5 i hi).2.2⟩⟩
theorem SpIn.nil (w : World) : SpIn w (.slice none 0 0) [] := ⟨by simp, none, 0, rfl, fun h => by simp at h⟩
theorem SpIn.cells {w : World} {a : Option Addr} {n c : Nat} {l : List SpanD} (h : SpIn w (.slice a n c) l) (h0 : 0 < l.length) :
 ∃ b o, a = some ⟨b, o, none⟩ ∧ ∀ i (h : i < l.length), w.cell? ⟨b, o + i * 3, none⟩ = some (.int .i64 l[i].cause) ∧ w.cell? ⟨b, o + i * 3 + 1, none⟩ = some (.int .i64 l[i].lo) ∧ w.cell? ⟨b, o + i * 3 + 2, none⟩ = some (.int .i64 l[i].hi) := by
 obtain ⟨_, a', c', h1, h2⟩ := h
 cases h1
 exact h2 h0
set_option maxRecDepth 100000 in
set_option maxHeartbeats 2000000 in
theorem sameWaste_eq (l : List SpanD) (va vb : Value) (w : World) (ha : SpIn w va l) (hb : SpIn w vb l) :
 Calls Tryz.prog 65 #[va, vb] w fun e w' => e = .returned (.bool true) ∧ Ext w w' := by
 obtain ⟨a, c, hva⟩ : ∃ a c, va = .slice a l.length c := (by obtain ⟨_, a, c, h, _⟩ := ha; exact ⟨a, c, h⟩); obtain ⟨b, d, hvb⟩ : ∃ a c, vb = .slice a l.length c := (by obtain ⟨_, a, c, h, _⟩ := hb; exact ⟨a, c, h⟩); subst hva; subst hvb; have hl := ha.1; have Ha := Hd ha; have Hb := Hd hb; clear ha hb
 go_enter Tryz.func65, Tryz.ntmps65
 go_wp2
 go_loopw [5] (fun t5 wr => ∃ k : Nat, k ≤ l.length ∧ t5 = .int .i64 k ∧ Hid (Ext w wr)) (fun t5 _ => l.length - (intOf t5).toNat)
 case atStart => exact ⟨0, by omega, rfl, Below.refl _ _⟩
 case round =>
  obtain ⟨k, hk, rfl, HX⟩ := hrel
  by_cases hlt : k < l.length
  {
  obtain ⟨b1, o1, rfl, hc⟩ := SpIn.cells (Ha.out.ext HX.out) (by omega); obtain ⟨d0, d1, d2⟩ := hc k hlt; obtain ⟨b2, o2, rfl, hc2⟩ := SpIn.cells (Hb.out.ext HX.out) (by omega); obtain ⟨e0, e1, e2⟩ := hc2 k hlt; obtain ⟨u, hu⟩ : ∃ u, l[k] = u := ⟨_, rfl⟩; rw [hu] at d0 d1 d2 e0 e1 e2; obtain ⟨uo, ut, uc⟩ := u; dsimp only at *; have i1 : (0:Int) ≤ (k:Int) := (by omega); have i2 : (k:Int) < (l.length:Int) := (by omega); clear hu hc hc2
  go_upto_region 6 with (fail)
  go_quiet (fail)
  have xq := HX.out.tr (Ext.of_drewN wr nq); generalize wr.drewN nq = wq at *; have XQ := Hd xq; clear xq; go_wp2
  go_roundw
  case rel => exact ⟨k + 1, by omega, by go_num, XQ⟩
  case measure => simp [intOf] <;> omega
  }
  {
  have i2 : decide ((k:Int) < (l.length:Int)) = false := decide_eq_false (by omega); obtain rfl : k = l.length := by omega
  go_wp2_with (fail)
  go_ret; exact ⟨rfl, HX.out⟩
  }
set_option maxRecDepth 100000 in
set_option maxHeartbeats 2000000 in
theorem big_any (p : PressD) (s : StD) (g : Int) (vj vu va : Value) (nu nj ng cu cj cg : Nat) (au aj ag : Option Addr) (w : World) (hn : nu ≤ 9223372036854775807 ∧ nj ≤ 9223372036854775807 ∧ ng ≤ 9223372036854775807) :
 Calls Tryz.prog 5 #[.agg #[.slice aj nj cj, .int .i64 p.warm, .int .i64 p.tail, .int .i64 p.dirt], .agg #[.int .i64 s.drive, .bool s.folder, .slice au nu cu, .int .i64 s.fresh], .agg #[.int .i64 g, .slice ag ng cg]] w fun e w' => e = .returned (.bool (decide (20 < nj) || decide (20 < nu) || decide (20 < ng))) ∧ Ext w w' := by
 obtain ⟨h1, h2, h3⟩ := hn
 go_enter Tryz.func5, Tryz.ntmps5
 go_upto_region 1 with (first
  | (with_reducible refine wpList_boxA (t := 24) (cs := #[.slice aj nj cj, .int .i64 p.warm, .int .i64 p.tail, .int .i64 p.dirt]) rfl rfl rfl ?_
     rintro xb w1 hx1 hx2 hx3; have XB := Hd hx1; have X1 := Hd hx2; clear hx1 hx2
     clear hx3)
  | (with_reducible refine wpList_boxA (t := 27) (cs := #[.int .i64 s.drive, .bool s.folder, .slice au nu cu, .int .i64 s.fresh]) rfl rfl rfl ?_
     rintro yb w2 hy1 hy2 hy3; have x2 := X1.out.tr hy2; have xb2 := XB.out.ext hy2; clear XB X1; have XB := Hd xb2; have YB := Hd hy1; have X1 := Hd x2; clear xb2 hy1 x2
     clear hy3 hy2)
  | (with_reducible refine wpList_boxA (t := 29) (cs := #[.int .i64 g, .slice ag ng cg]) rfl rfl rfl ?_
     rintro zb w2 hy1 hy2 hy3; have x2 := X1.out.tr hy2; have c1 := (XB.out.ext hy2).cell; have c2 := (YB.out.ext hy2).cell; have c3 := hy1.cell; clear XB X1 YB; have X1 := Hd x2; clear x2
     clear hy3 hy2))
 by_cases i1 : 20 < nj
 { have j1 : (20:Int) < (nj:Int) := (by omega); go_wp2; go_ret; exact ⟨ret_bool (by simp [i1]), X1.out⟩ }
 {
 have j1 : ¬ (20:Int) < (nj:Int) := by omega
 by_cases i2 : 20 < nu
 { have j2 : (20:Int) < (nu:Int) := (by omega); go_wp2; go_ret; exact ⟨ret_bool (by simp [i1, i2]), X1.out⟩ }
 {
 have j2 : ¬ (20:Int) < (nu:Int) := by omega
 by_cases i3 : 20 < ng
 { have j3 : (20:Int) < (ng:Int) := (by omega); go_wp2; go_ret; exact ⟨ret_bool (by simp [i1, i2, i3]), X1.out⟩ }
 { have j3 : ¬ (20:Int) < (ng:Int) := (by omega); go_wp2; go_ret; exact ⟨ret_bool (by simp [i1, i2, i3]), X1.out⟩ }
 }
 }
end Go.Proofs.YtojobdffnnibaaaGreat