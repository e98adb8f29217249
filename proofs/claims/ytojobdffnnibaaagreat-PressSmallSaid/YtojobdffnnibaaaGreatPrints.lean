/- PressPrints: the walk. -/
import Derived.Test.YtojobdffnnibaaaGreatJ11
import Derived.Test.YtojobdffnnibaaaGreatJ5
import Derived.Test.YtojobdffnnibaaaGreatRPr
namespace Go.Proofs.YtojobdffnnibaaaGreat
open Go.RowKit
set_option linter.unusedVariables false
set_option linter.unusedSimpArgs false
/-- The state and the waste that come out of printing, with an error none. -/
def prS (p : PressD) (s : StD) (n : Int) : StD := if prErr p s n = 0 then prD s n else ⟨0, false, [], 0⟩
def prL (p : PressD) (s : StD) (n : Int) : List SpanD := if prErr p s n = 0 then prW p s n else []
theorem prW_len (p : PressD) (s : StD) (n : Int) : (prW p s n).length ≤ 2 := spansN_len _ _ _ _ _
theorem prD_len' (s : StD) (n : Int) : (prD s n).units.length = s.units.length := by unfold prD; simp
def PrAns (w : World) (p : PressD) (s : StD) (n : Int) (e : Ending) (w' : World) : Prop :=
 ∃ vu vw, e = .returned (.tuple #[sV vu (prS p s n), vw, .int .i64 (prErr p s n)]) ∧ UnIn w' vu (prS p s n).units ∧ SpIn w' vw (prL p s n) ∧ Ext w w'
theorem PrAns.no {w w' : World} {p : PressD} {s : StD} {n : Int} (h : prErr p s n ≠ 0) (k : Ext w w') : PrAns w p s n (.returned (.tuple #[sZ, .slice none 0 0, .int .i64 (prErr p s n)])) w' := by
 have h1 : prS p s n = ⟨0, false, [], 0⟩ := (by unfold prS; rw [if_neg h]); have h2 : prL p s n = [] := (by unfold prL; rw [if_neg h]); refine ⟨.slice none 0 0, .slice none 0 0, by rw [h1]; rfl, by rw [h1]; exact UnIn.nil _, by rw [h2]; exact SpIn.nil _, k⟩
theorem PrAns.yes {w w' : World} {p : PressD} {s : StD} {n : Int} {vu vw : Value} {e1 e2 : TypeId} {B : Nat} (h : prErr p s n = 0) (hl : s.units.length ≤ 1000000) (h1 : w'.ownsRow B e1 5 vu s.units.length (uL (prD s n).units)) (h2 : w'.ownsRow B e2 3 vw (prW p s n).length (spL (prW p s n))) (k : Ext w w') :
 PrAns w p s n (.returned (.tuple #[sV vu (prD s n), vw, .int .i64 0])) w' := by
 have e1 : prS p s n = prD s n := (by unfold prS; rw [if_pos h]); have e2 : prL p s n = prW p s n := (by unfold prL; rw [if_pos h]); refine ⟨vu, vw, by rw [e1, h], ?_, ?_, k⟩
 · rw [e1]
   exact UnIn.of_owns (by rw [prD_len']; exact h1) (by rw [prD_len']; omega)
 · rw [e2]
   exact SpIn.of_owns h2 (by have := prW_len p s n; omega)
theorem print_ans (p : PressD) (s : StD) (n : Int) (vj vu : Value) (w : World) (hj : Truths w vj p.jam) (hu : UnIn w vu s.units) (hl : s.units.length ≤ 1000000) (hn : I64 n) :
 Calls Tryz.prog 28 #[pV vj p, sV vu s, .int .i64 n] w (PrAns w p s n) :=
 (print_any p s n vj vu w hj hu hl hn).mono fun e w' h => by
   rcases h with ⟨h0, rfl, hx⟩ | ⟨h0, vu', vw', rfl, h1, h2, hx⟩
   · exact PrAns.no h0 hx
   · exact PrAns.yes h0 hl h1 h2 hx
theorem rPrint_ans (p : PressD) (s : StD) (n : Int) (vj vu : Value) (w : World) (hj : Truths w vj p.jam) (hu : UnIn w vu s.units) (hl : s.units.length ≤ 1000000) (hn : I64 n) :
 Calls Tryz.prog 64 #[pV vj p, sV vu s, .int .i64 n] w (PrAns w p s n) :=
 (rPrint_any p s n vj vu w hj hu hl hn).mono fun e w' h => by
   rcases h with ⟨h0, rfl, hx⟩ | ⟨h0, vu', vw', rfl, h1, h2, hx⟩
   · exact PrAns.no h0 hx
   · exact PrAns.yes h0 hl h1 h2 hx
theorem owns_ne {w : World} {B sz n : Nat} {e t : TypeId} {v : Value} {xs : List Value} {b : Nat} {cs : Array Value} (h : w.ownsRow B e sz v n xs) (hb : Blk w b cs t) (ht : e ≠ t) : ∀ k, v.ownBlock = some k → ¬ k = b := fun k hk e => by
 obtain ⟨_, cs', hb2⟩ := row_blk h k hk; exact ht (blk_ty (e ▸ hb2) hb)
set_option maxRecDepth 100000 in
set_option maxHeartbeats 4000000 in
theorem prints_true (p : PressD) (s : StD) (n : Int) (vj vu : Value) (w : World) (hj : Truths w vj p.jam) (hu : UnIn w vu s.units) (hn : I64 n) :
 Calls Tryz.prog 25 #[pV vj p, sV vu s, .int .i64 n] w fun e w' => e = .returned (.bool true) ∧ Ext w w' := by
 have hj0 := hj; have hu0 := hu; obtain ⟨hjl, aj, cj, rfl, _⟩ := hj; rw [List.length_map] at *; obtain ⟨hul, au, cu, rfl, _⟩ := hu; obtain ⟨nj, hnj⟩ : ∃ m, p.jam.length = m := ⟨_, rfl⟩; obtain ⟨nu, hnu⟩ : ∃ m, s.units.length = m := ⟨_, rfl⟩; rw [hnj] at hjl hj0 ⊢; rw [hnu] at hul hu0 ⊢; unfold pV sV; have hbig := fun W => big_any p s 0 (.slice none 0 0) (.slice none 0 0) (.slice none 0 0) nu nj 0 cu cj 0 au aj none W ⟨hul, hjl, by decide⟩; obtain ⟨bb, hbb⟩ : ∃ b, (decide (20 < nj) || decide (20 < nu) || decide (20 < 0)) = b := ⟨_, rfl⟩; rw [hbb] at hbig; have HJ := Hd hj0; have HU := Hd hu0; have HN := Hd hn; have HBG := Hd hbig; have HNJ := Hd hnj; have HNU := Hd hnu; have HBB := Hd hbb; clear hj0 hu0 hn hbig hnj hnu hbb
 go_enter Tryz.func25, Tryz.ntmps25
 go_upto_region 1 with (first
  | (with_reducible refine wpList_boxA (t := 24) (cs := #[.slice aj nj cj, .int .i64 p.warm, .int .i64 p.tail, .int .i64 p.dirt]) rfl rfl rfl ?_
     rintro xb w1 hx1 hx2 hx3; have XB := Hd hx1; have X := Hd hx2; clear hx1 hx2
     clear hx3)
  | (with_reducible refine wpList_boxA (t := 27) (cs := #[.int .i64 s.drive, .bool s.folder, .slice au nu cu, .int .i64 s.fresh]) rfl rfl rfl ?_
     rintro yb w2 hy1 hy2 hy3; have x2 := X.out.tr hy2; have xb2 := XB.out.ext hy2; have c1 := xb2.cell; have c2 := hy1.cell; clear XB X; have XB := Hd xb2; have YB := Hd hy1; have X := Hd x2; clear xb2 hy1 x2
     clear hy3 hy2))
 by_cases h3 : 3000 < n ∧ n ≤ 1000000
 {
 obtain ⟨i1, i2⟩ := h3
 cases bb
 {
 go_wp2_with (first
  | (have hgd := HBG.out
     go_at_call 5; refine (hgd _).mono ?_; rintro e w3 ⟨rfl, hx⟩; clear hgd HBG c1 c2; replace XB := Hd (XB.out.ext hx); replace YB := Hd (YB.out.ext hx); have x2 := X.out.tr hx; clear X hx; have X := Hd x2
     clear x2)
  | (go_at_call 6
     refine (awake_any _).mono ?_; rintro e w4 ⟨rfl, hx⟩; have x2 := X.out.tr hx; clear X hx; have X := Hd x2
     clear x2))
 go_ret; exact ⟨rfl, X.out⟩
 }
 {
 go_wp2_with (first
  | (have hgd := HBG.out
     go_at_call 5; refine (hgd _).mono ?_; rintro e w3 ⟨rfl, hx⟩; clear hgd HBG c1 c2; replace XB := Hd (XB.out.ext hx); replace YB := Hd (YB.out.ext hx); have x2 := X.out.tr hx; clear X hx; have X := Hd x2
     clear x2)
  | (go_at_call 6
     refine (awake_any _).mono ?_; rintro e w4 ⟨rfl, hx⟩; have x2 := X.out.tr hx; clear X hx; have X := Hd x2
     clear x2))
 go_ret; exact ⟨rfl, X.out⟩
 }
 }
 {
 cases bb
 {
 have h20 : nj ≤ 20 ∧ nu ≤ 20 := by
  have := HBB.out; simp at this; omega
 go_cut [26] (fun v W => v = .bool false ∧ Hid (Blk W xb #[.slice aj nj cj, .int .i64 p.warm, .int .i64 p.tail, .int .i64 p.dirt] 24) ∧ Hid (Blk W yb #[.int .i64 s.drive, .bool s.folder, .slice au nu cu, .int .i64 s.fresh] 27) ∧ Hid (Ext w W))
 case first =>
  by_cases h4 : 3000 < n
  {
  have i2 : decide (n ≤ 1000000) = false := decide_eq_false (by omega); clear h3
  go_wp2_with (
   have hgd := HBG.out; go_at_call 5; refine (hgd _).mono ?_; rintro e w3 ⟨rfl, hx⟩; clear hgd HBG c1 c2; replace XB := Hd (XB.out.ext hx); replace YB := Hd (YB.out.ext hx); have x2 := X.out.tr hx; clear X hx; have X := Hd x2
   clear x2)
  go_meet
  case rel => exact ⟨rfl, XB, YB, X⟩
  }
  {
  have i2 : decide (3000 < n) = false := decide_eq_false (by omega); clear h3 h4
  go_wp2_with (
   have hgd := HBG.out; go_at_call 5; refine (hgd _).mono ?_; rintro e w3 ⟨rfl, hx⟩; clear hgd HBG c1 c2; replace XB := Hd (XB.out.ext hx); replace YB := Hd (YB.out.ext hx); have x2 := X.out.tr hx; clear X hx; have X := Hd x2
   clear x2)
  go_meet
  case rel => exact ⟨rfl, XB, YB, X⟩
  }
 case rest =>
 obtain ⟨rfl, XB2, YB2, X2⟩ := hcut; clear c1 c2 XB YB X HBG; obtain ⟨w3, rfl⟩ : ∃ W, W = wc := ⟨wc, rfl⟩
 go_upto_region 3 with (fail)
 have hown := fun W (k : Ext w3 W) => own_any p (.slice aj nj cj) W (Sl.ext HJ.out (X2.out.tr k)) (by rw [HNJ.out]; have := h20.1; omega); have hsta := fun W (k : Ext w3 W) => state_any s (.slice au nu cu) W (HU.out.ext (X2.out.tr k)) (by rw [HNU.out]; have := h20.2; omega); rw [HNJ.out] at hown; rw [HNU.out] at hsta; unfold pV at hown; unfold sV at hsta; have HOWN := Hd hown; have HSTA := Hd hsta; have H20 := Hd h20; clear hown hsta h20
 go_cut [7, 8] (fun v7 v8 W => ∃ b7 b8 va ca vb cb, v7 = .pointer (some ⟨b7, 0, none⟩) ∧ v8 = .pointer (some ⟨b8, 0, none⟩) ∧ Hid (Blk W b7 #[.slice va nj ca, .int .i64 p.warm, .int .i64 p.tail, .int .i64 p.dirt] 34) ∧ Hid (Blk W b8 #[.int .i64 s.drive, .bool s.folder, .slice vb nu cb, .int .i64 s.fresh] 38) ∧
  Hid (W.ownsRow w3.heap.size 4 1 (.slice va nj ca) nj (p.jam.map .bool)) ∧ Hid (W.ownsRow w3.heap.size 82 5 (.slice vb nu cb) nu (uL s.units)) ∧ Hid (Ext w3 W))
 case first =>
  as_aux_lemma =>
   have xd : Ext w3 w3.drew := (Below.refl _ w3).drew; have xb1 := (XB2.out.ext xd).cell; have yb1 := (YB2.out.ext xd).cell; refine wp_region_K (fun wx => (∀ j, wx.cell? ⟨xb, j, none⟩ = (#[.slice aj nj cj, .int .i64 p.warm, .int .i64 p.tail, .int .i64 p.dirt] : Array Value)[j]?) ∧ (∀ j, wx.cell? ⟨yb, j, none⟩ = (#[.int .i64 s.drive, .bool s.folder, .slice au nu cu, .int .i64 s.fresh] : Array Value)[j]?)) 6 (by kernel_rfl) ⟨xb1, yb1⟩ (fun kh => ?_); generalize w3.drew = wA at *; clear xb1 yb1; have XC := Hd xd; clear xd; refine kX 0 kh ?_; simp only [kS]; refine kX 2 kh ?_; simp only [kS]; apply shareK
   case' h => intro k1_3_4_5
   apply shareK
   case' h => intro k1_3_4
   apply shareK
   case' h => intro k1_3_5
   apply shareK
   case' h => intro k1_4_5
   apply shareK
   case' h => intro k1_3
   apply shareK
   case' h => intro k1_4
   apply shareK
   case' h => intro k1_5
   apply shareK
   case' h => intro k4_5
   apply shareK
   case' h => intro k1
   apply shareK
   case' h => intro k4
   apply shareK
   case' h => intro k5
   {
   refine rK [1, 4, 5] ?_; refine xK 1 (fun K hK => ?_) ?_
   { refine cK #[.agg #[.slice aj nj cj, .int .i64 p.warm, .int .i64 p.tail, .int .i64 p.dirt]] Tryz.func7 (HOWN.out _ XC.out) ?_; rintro e wy ⟨v1, rfl, hx, ho1⟩; obtain ⟨va, ca, rfl⟩ := row_form ho1; refine ⟨_, rfl, ?_⟩; have OA := Hd (owns_weak ho1 XC.out.size); clear ho1; (try (replace OB := Hd (owns_ext OB.out hx))); (try (replace A7 := Hd (A7.out.ext hx))); (try (replace A8 := Hd (A8.out.ext hx))); replace XC := Hd (XC.out.tr hx); clear hx; refine kG hK ⟨(XB2.out.ext XC.out).cell, (YB2.out.ext XC.out).cell⟩ fun kh => ?_; (try simp only [kS]); (try clear kh); revert OA; revert ca; revert va; revert XC; revert wy; exact k1.out }
   refine xK 4 (fun K hK => ?_) ?_
   { refine step_allocA (t := 34) rfl rfl Tryz.zeroValue34 ?_; intro b7 wy hb hx hl; have l7 : w3.heap.size ≤ b7 := Nat.le_trans XC.out.size hl; have A7 := Hd hb; clear hb hl; (try (replace OA := Hd (owns_ext OA.out hx))); (try (replace OB := Hd (owns_ext OB.out hx))); (try (replace A8 := Hd (A8.out.ext hx))); replace XC := Hd (XC.out.tr hx); clear hx; refine kG hK ⟨(XB2.out.ext XC.out).cell, (YB2.out.ext XC.out).cell⟩ fun kh => ?_; (try simp only [kS]); (try clear kh); revert A7; revert l7; revert b7; revert XC; revert wy; exact k4.out }
   refine xK 5 (fun K hK => ?_) ?_
   { refine step_allocA (t := 38) rfl rfl Tryz.zeroValue38 ?_; intro b8 wy hb hx hl; have l8 : w3.heap.size ≤ b8 := Nat.le_trans XC.out.size hl; have A8 := Hd hb; clear hb hl; (try (replace OA := Hd (owns_ext OA.out hx))); (try (replace OB := Hd (owns_ext OB.out hx))); (try (replace A7 := Hd (A7.out.ext hx))); replace XC := Hd (XC.out.tr hx); clear hx; refine kG hK ⟨(XB2.out.ext XC.out).cell, (YB2.out.ext XC.out).cell⟩ fun kh => ?_; (try simp only [kS]); (try clear kh); revert A8; revert l8; revert b8; revert XC; revert wy; exact k5.out }
   exact nK
   }
   {
   intro wy XC b8 l8 A8; refine rK [1, 4] ?_; refine xK 1 (fun K hK => ?_) ?_
   { refine cK #[.agg #[.slice aj nj cj, .int .i64 p.warm, .int .i64 p.tail, .int .i64 p.dirt]] Tryz.func7 (HOWN.out _ XC.out) ?_; rintro e wy ⟨v1, rfl, hx, ho1⟩; obtain ⟨va, ca, rfl⟩ := row_form ho1; refine ⟨_, rfl, ?_⟩; have OA := Hd (owns_weak ho1 XC.out.size); clear ho1; (try (replace OB := Hd (owns_ext OB.out hx))); (try (replace A7 := Hd (A7.out.ext hx))); (try (replace A8 := Hd (A8.out.ext hx))); replace XC := Hd (XC.out.tr hx); clear hx; refine kG hK ⟨(XB2.out.ext XC.out).cell, (YB2.out.ext XC.out).cell⟩ fun kh => ?_; (try simp only [kS]); (try clear kh); revert A8; revert l8; revert b8; revert OA; revert ca; revert va; revert XC; revert wy; exact k1_5.out }
   refine xK 4 (fun K hK => ?_) ?_
   { refine step_allocA (t := 34) rfl rfl Tryz.zeroValue34 ?_; intro b7 wy hb hx hl; have l7 : w3.heap.size ≤ b7 := Nat.le_trans XC.out.size hl; have A7 := Hd hb; clear hb hl; (try (replace OA := Hd (owns_ext OA.out hx))); (try (replace OB := Hd (owns_ext OB.out hx))); (try (replace A8 := Hd (A8.out.ext hx))); replace XC := Hd (XC.out.tr hx); clear hx; refine kG hK ⟨(XB2.out.ext XC.out).cell, (YB2.out.ext XC.out).cell⟩ fun kh => ?_; (try simp only [kS]); (try clear kh); revert A8; revert l8; revert b8; revert A7; revert l7; revert b7; revert XC; revert wy; exact k4_5.out }
   exact nK
   }
   {
   intro wy XC b7 l7 A7; refine rK [1, 5] ?_; refine xK 1 (fun K hK => ?_) ?_
   { refine cK #[.agg #[.slice aj nj cj, .int .i64 p.warm, .int .i64 p.tail, .int .i64 p.dirt]] Tryz.func7 (HOWN.out _ XC.out) ?_; rintro e wy ⟨v1, rfl, hx, ho1⟩; obtain ⟨va, ca, rfl⟩ := row_form ho1; refine ⟨_, rfl, ?_⟩; have OA := Hd (owns_weak ho1 XC.out.size); clear ho1; (try (replace OB := Hd (owns_ext OB.out hx))); (try (replace A7 := Hd (A7.out.ext hx))); (try (replace A8 := Hd (A8.out.ext hx))); replace XC := Hd (XC.out.tr hx); clear hx; refine kG hK ⟨(XB2.out.ext XC.out).cell, (YB2.out.ext XC.out).cell⟩ fun kh => ?_; (try simp only [kS]); (try clear kh); revert A7; revert l7; revert b7; revert OA; revert ca; revert va; revert XC; revert wy; exact k1_4.out }
   refine xK 5 (fun K hK => ?_) ?_
   { refine step_allocA (t := 38) rfl rfl Tryz.zeroValue38 ?_; intro b8 wy hb hx hl; have l8 : w3.heap.size ≤ b8 := Nat.le_trans XC.out.size hl; have A8 := Hd hb; clear hb hl; (try (replace OA := Hd (owns_ext OA.out hx))); (try (replace OB := Hd (owns_ext OB.out hx))); (try (replace A7 := Hd (A7.out.ext hx))); replace XC := Hd (XC.out.tr hx); clear hx; refine kG hK ⟨(XB2.out.ext XC.out).cell, (YB2.out.ext XC.out).cell⟩ fun kh => ?_; (try simp only [kS]); (try clear kh); revert A8; revert l8; revert b8; revert A7; revert l7; revert b7; revert XC; revert wy; exact k4_5.out }
   exact nK
   }
   {
   intro wy XC va ca OA; refine rK [3, 4, 5] ?_; refine xK 3 (fun K hK => ?_) ?_
   { refine cK #[.agg #[.int .i64 s.drive, .bool s.folder, .slice au nu cu, .int .i64 s.fresh]] Tryz.func8 (HSTA.out _ XC.out) ?_; rintro e wy ⟨v2, rfl, hx, ho2⟩; obtain ⟨vb, cb, rfl⟩ := row_form ho2; refine ⟨_, rfl, ?_⟩; have OB := Hd (owns_weak ho2 XC.out.size); clear ho2; (try (replace OA := Hd (owns_ext OA.out hx))); (try (replace A7 := Hd (A7.out.ext hx))); (try (replace A8 := Hd (A8.out.ext hx))); replace XC := Hd (XC.out.tr hx); clear hx; refine kG hK ⟨(XB2.out.ext XC.out).cell, (YB2.out.ext XC.out).cell⟩ fun kh => ?_; (try simp only [kS]); (try clear kh); revert OB; revert cb; revert vb; revert OA; revert ca; revert va; revert XC; revert wy; exact k1_3.out }
   refine xK 4 (fun K hK => ?_) ?_
   { refine step_allocA (t := 34) rfl rfl Tryz.zeroValue34 ?_; intro b7 wy hb hx hl; have l7 : w3.heap.size ≤ b7 := Nat.le_trans XC.out.size hl; have A7 := Hd hb; clear hb hl; (try (replace OA := Hd (owns_ext OA.out hx))); (try (replace OB := Hd (owns_ext OB.out hx))); (try (replace A8 := Hd (A8.out.ext hx))); replace XC := Hd (XC.out.tr hx); clear hx; refine kG hK ⟨(XB2.out.ext XC.out).cell, (YB2.out.ext XC.out).cell⟩ fun kh => ?_; (try simp only [kS]); (try clear kh); revert A7; revert l7; revert b7; revert OA; revert ca; revert va; revert XC; revert wy; exact k1_4.out }
   refine xK 5 (fun K hK => ?_) ?_
   { refine step_allocA (t := 38) rfl rfl Tryz.zeroValue38 ?_; intro b8 wy hb hx hl; have l8 : w3.heap.size ≤ b8 := Nat.le_trans XC.out.size hl; have A8 := Hd hb; clear hb hl; (try (replace OA := Hd (owns_ext OA.out hx))); (try (replace OB := Hd (owns_ext OB.out hx))); (try (replace A7 := Hd (A7.out.ext hx))); replace XC := Hd (XC.out.tr hx); clear hx; refine kG hK ⟨(XB2.out.ext XC.out).cell, (YB2.out.ext XC.out).cell⟩ fun kh => ?_; (try simp only [kS]); (try clear kh); revert A8; revert l8; revert b8; revert OA; revert ca; revert va; revert XC; revert wy; exact k1_5.out }
   exact nK
   }
   {
   intro wy XC b7 l7 A7 b8 l8 A8; refine rK [1] ?_; refine xK 1 (fun K hK => ?_) ?_
   { refine cK #[.agg #[.slice aj nj cj, .int .i64 p.warm, .int .i64 p.tail, .int .i64 p.dirt]] Tryz.func7 (HOWN.out _ XC.out) ?_; rintro e wy ⟨v1, rfl, hx, ho1⟩; obtain ⟨va, ca, rfl⟩ := row_form ho1; refine ⟨_, rfl, ?_⟩; have OA := Hd (owns_weak ho1 XC.out.size); clear ho1; (try (replace OB := Hd (owns_ext OB.out hx))); (try (replace A7 := Hd (A7.out.ext hx))); (try (replace A8 := Hd (A8.out.ext hx))); replace XC := Hd (XC.out.tr hx); clear hx; refine kG hK ⟨(XB2.out.ext XC.out).cell, (YB2.out.ext XC.out).cell⟩ fun kh => ?_; (try simp only [kS]); (try clear kh); revert A8; revert l8; revert b8; revert A7; revert l7; revert b7; revert OA; revert ca; revert va; revert XC; revert wy; exact k1_4_5.out }
   exact nK
   }
   {
   intro wy XC va ca OA b8 l8 A8; refine rK [3, 4] ?_; refine xK 3 (fun K hK => ?_) ?_
   { refine cK #[.agg #[.int .i64 s.drive, .bool s.folder, .slice au nu cu, .int .i64 s.fresh]] Tryz.func8 (HSTA.out _ XC.out) ?_; rintro e wy ⟨v2, rfl, hx, ho2⟩; obtain ⟨vb, cb, rfl⟩ := row_form ho2; refine ⟨_, rfl, ?_⟩; have OB := Hd (owns_weak ho2 XC.out.size); clear ho2; (try (replace OA := Hd (owns_ext OA.out hx))); (try (replace A7 := Hd (A7.out.ext hx))); (try (replace A8 := Hd (A8.out.ext hx))); replace XC := Hd (XC.out.tr hx); clear hx; refine kG hK ⟨(XB2.out.ext XC.out).cell, (YB2.out.ext XC.out).cell⟩ fun kh => ?_; (try simp only [kS]); (try clear kh); revert A8; revert l8; revert b8; revert OB; revert cb; revert vb; revert OA; revert ca; revert va; revert XC; revert wy; exact k1_3_5.out }
   refine xK 4 (fun K hK => ?_) ?_
   { refine step_allocA (t := 34) rfl rfl Tryz.zeroValue34 ?_; intro b7 wy hb hx hl; have l7 : w3.heap.size ≤ b7 := Nat.le_trans XC.out.size hl; have A7 := Hd hb; clear hb hl; (try (replace OA := Hd (owns_ext OA.out hx))); (try (replace OB := Hd (owns_ext OB.out hx))); (try (replace A8 := Hd (A8.out.ext hx))); replace XC := Hd (XC.out.tr hx); clear hx; refine kG hK ⟨(XB2.out.ext XC.out).cell, (YB2.out.ext XC.out).cell⟩ fun kh => ?_; (try simp only [kS]); (try clear kh); revert A8; revert l8; revert b8; revert A7; revert l7; revert b7; revert OA; revert ca; revert va; revert XC; revert wy; exact k1_4_5.out }
   exact nK
   }
   {
   intro wy XC va ca OA b7 l7 A7; refine rK [3, 5] ?_; refine xK 3 (fun K hK => ?_) ?_
   { refine cK #[.agg #[.int .i64 s.drive, .bool s.folder, .slice au nu cu, .int .i64 s.fresh]] Tryz.func8 (HSTA.out _ XC.out) ?_; rintro e wy ⟨v2, rfl, hx, ho2⟩; obtain ⟨vb, cb, rfl⟩ := row_form ho2; refine ⟨_, rfl, ?_⟩; have OB := Hd (owns_weak ho2 XC.out.size); clear ho2; (try (replace OA := Hd (owns_ext OA.out hx))); (try (replace A7 := Hd (A7.out.ext hx))); (try (replace A8 := Hd (A8.out.ext hx))); replace XC := Hd (XC.out.tr hx); clear hx; refine kG hK ⟨(XB2.out.ext XC.out).cell, (YB2.out.ext XC.out).cell⟩ fun kh => ?_; (try simp only [kS]); (try clear kh); revert A7; revert l7; revert b7; revert OB; revert cb; revert vb; revert OA; revert ca; revert va; revert XC; revert wy; exact k1_3_4.out }
   refine xK 5 (fun K hK => ?_) ?_
   { refine step_allocA (t := 38) rfl rfl Tryz.zeroValue38 ?_; intro b8 wy hb hx hl; have l8 : w3.heap.size ≤ b8 := Nat.le_trans XC.out.size hl; have A8 := Hd hb; clear hb hl; (try (replace OA := Hd (owns_ext OA.out hx))); (try (replace OB := Hd (owns_ext OB.out hx))); (try (replace A7 := Hd (A7.out.ext hx))); replace XC := Hd (XC.out.tr hx); clear hx; refine kG hK ⟨(XB2.out.ext XC.out).cell, (YB2.out.ext XC.out).cell⟩ fun kh => ?_; (try simp only [kS]); (try clear kh); revert A8; revert l8; revert b8; revert A7; revert l7; revert b7; revert OA; revert ca; revert va; revert XC; revert wy; exact k1_4_5.out }
   exact nK
   }
   {
   intro wy XC va ca OA vb cb OB; refine rK [4, 5] ?_; refine xK 4 (fun K hK => ?_) ?_
   { refine step_allocA (t := 34) rfl rfl Tryz.zeroValue34 ?_; intro b7 wy hb hx hl; have l7 : w3.heap.size ≤ b7 := Nat.le_trans XC.out.size hl; have A7 := Hd hb; clear hb hl; (try (replace OA := Hd (owns_ext OA.out hx))); (try (replace OB := Hd (owns_ext OB.out hx))); (try (replace A8 := Hd (A8.out.ext hx))); replace XC := Hd (XC.out.tr hx); clear hx; refine kG hK ⟨(XB2.out.ext XC.out).cell, (YB2.out.ext XC.out).cell⟩ fun kh => ?_; (try simp only [kS]); (try clear kh); revert A7; revert l7; revert b7; revert OB; revert cb; revert vb; revert OA; revert ca; revert va; revert XC; revert wy; exact k1_3_4.out }
   refine xK 5 (fun K hK => ?_) ?_
   { refine step_allocA (t := 38) rfl rfl Tryz.zeroValue38 ?_; intro b8 wy hb hx hl; have l8 : w3.heap.size ≤ b8 := Nat.le_trans XC.out.size hl; have A8 := Hd hb; clear hb hl; (try (replace OA := Hd (owns_ext OA.out hx))); (try (replace OB := Hd (owns_ext OB.out hx))); (try (replace A7 := Hd (A7.out.ext hx))); replace XC := Hd (XC.out.tr hx); clear hx; refine kG hK ⟨(XB2.out.ext XC.out).cell, (YB2.out.ext XC.out).cell⟩ fun kh => ?_; (try simp only [kS]); (try clear kh); revert A8; revert l8; revert b8; revert OB; revert cb; revert vb; revert OA; revert ca; revert va; revert XC; revert wy; exact k1_3_5.out }
   exact nK
   }
   {
   intro wy XC va ca OA b7 l7 A7 b8 l8 A8; refine rK [3] ?_; refine xK 3 (fun K hK => ?_) ?_
   { refine cK #[.agg #[.int .i64 s.drive, .bool s.folder, .slice au nu cu, .int .i64 s.fresh]] Tryz.func8 (HSTA.out _ XC.out) ?_; rintro e wy ⟨v2, rfl, hx, ho2⟩; obtain ⟨vb, cb, rfl⟩ := row_form ho2; refine ⟨_, rfl, ?_⟩; have OB := Hd (owns_weak ho2 XC.out.size); clear ho2; (try (replace OA := Hd (owns_ext OA.out hx))); (try (replace A7 := Hd (A7.out.ext hx))); (try (replace A8 := Hd (A8.out.ext hx))); replace XC := Hd (XC.out.tr hx); clear hx; refine kG hK ⟨(XB2.out.ext XC.out).cell, (YB2.out.ext XC.out).cell⟩ fun kh => ?_; (try simp only [kS]); (try clear kh); revert A8; revert l8; revert b8; revert A7; revert l7; revert b7; revert OB; revert cb; revert vb; revert OA; revert ca; revert va; revert XC; revert wy; exact k1_3_4_5.out }
   exact nK
   }
   {
   intro wy XC va ca OA vb cb OB b8 l8 A8; refine rK [4] ?_; refine xK 4 (fun K hK => ?_) ?_
   { refine step_allocA (t := 34) rfl rfl Tryz.zeroValue34 ?_; intro b7 wy hb hx hl; have l7 : w3.heap.size ≤ b7 := Nat.le_trans XC.out.size hl; have A7 := Hd hb; clear hb hl; (try (replace OA := Hd (owns_ext OA.out hx))); (try (replace OB := Hd (owns_ext OB.out hx))); (try (replace A8 := Hd (A8.out.ext hx))); replace XC := Hd (XC.out.tr hx); clear hx; refine kG hK ⟨(XB2.out.ext XC.out).cell, (YB2.out.ext XC.out).cell⟩ fun kh => ?_; (try simp only [kS]); (try clear kh); revert A8; revert l8; revert b8; revert A7; revert l7; revert b7; revert OB; revert cb; revert vb; revert OA; revert ca; revert va; revert XC; revert wy; exact k1_3_4_5.out }
   exact nK
   }
   {
   intro wy XC va ca OA vb cb OB b7 l7 A7; refine rK [5] ?_; refine xK 5 (fun K hK => ?_) ?_
   { refine step_allocA (t := 38) rfl rfl Tryz.zeroValue38 ?_; intro b8 wy hb hx hl; have l8 : w3.heap.size ≤ b8 := Nat.le_trans XC.out.size hl; have A8 := Hd hb; clear hb hl; (try (replace OA := Hd (owns_ext OA.out hx))); (try (replace OB := Hd (owns_ext OB.out hx))); (try (replace A7 := Hd (A7.out.ext hx))); replace XC := Hd (XC.out.tr hx); clear hx; refine kG hK ⟨(XB2.out.ext XC.out).cell, (YB2.out.ext XC.out).cell⟩ fun kh => ?_; (try simp only [kS]); (try clear kh); revert A8; revert l8; revert b8; revert A7; revert l7; revert b7; revert OB; revert cb; revert vb; revert OA; revert ca; revert va; revert XC; revert wy; exact k1_3_4_5.out }
   exact nK
   }
   {
   intro wy XC va ca OA vb cb OB b7 l7 A7 b8 l8 A8; refine rK [6] ?_; refine xK 6 (fun K hK => ?_) ?_
   {
   refine sK #[.slice va nj ca, .int .i64 p.warm, .int .i64 p.tail, .int .i64 p.dirt] A7.out ?_; intro wy hb ho; have oa := owns_only OA.out ho (owns_ne OA.out A7.out (by decide)); have ob := owns_only OB.out ho (owns_ne OB.out A7.out (by decide)); have a8 := A8.out.only ho (fun e => absurd (blk_ty A8.out (e ▸ A7.out)) (by decide)); have xc := XC.out.then_only ho (fun b (e : b = b7) => by rw [e]; exact l7); clear OA OB A7 A8 XC ho; have OA := Hd oa; have OB := Hd ob; have A7 := Hd hb; have A8 := Hd a8; have XC := Hd xc; clear oa ob hb a8 xc; refine kH hK rfl ?_; (try clear kh); (try simp only [kS]); refine rK [7] ?_; refine xK 7 (fun K hK => ?_) ?_
   {
   refine sK #[.int .i64 s.drive, .bool s.folder, .slice vb nu cb, .int .i64 s.fresh] A8.out ?_; intro wy hb ho; have oa := owns_only OA.out ho (owns_ne OA.out A8.out (by decide)); have ob := owns_only OB.out ho (owns_ne OB.out A8.out (by decide)); have a7 := A7.out.only ho (fun e => absurd (blk_ty A7.out (e ▸ A8.out)) (by decide)); have xc := XC.out.then_only ho (fun b (e : b = b8) => by rw [e]; exact l8); clear OA OB A7 A8 XC ho; have OA := Hd oa; have OB := Hd ob; have A8 := Hd hb; have A7 := Hd a7; have XC := Hd xc; clear oa ob hb a7 xc; refine kH hK rfl ?_; (try clear kh); (try simp only [kS]); refine dK ?_ _; go_wp2; go_meet
   case rel => exact ⟨b7, b8, va, ca, vb, cb, rfl, rfl, A7, A8, OA, OB, XC⟩
   }
   exact nK
   }
   exact nK
   }
 case rest =>
 obtain ⟨b7, b8, va, ca, vb, cb, rfl, rfl, B7, B8, OA, OB, X3⟩ := hcut; obtain ⟨w4, rfl⟩ : ∃ W, W = wc := ⟨wc, rfl⟩; have hja : Truths w4 (.slice va nj ca) p.jam := Sl.of_owns OA.out
 have hua : UnIn w4 (.slice vb nu cb) s.units := by
  have h5 := OB.out; rw [← HNU.out] at h5 ⊢; exact UnIn.of_owns h5 (by rw [HNU.out]; have := H20.out.2; omega)
 have xb3 := XB2.out.ext X3.out; have yb3 := YB2.out.ext X3.out; have x3 := X2.out.tr X3.out; have hl6 : s.units.length ≤ 1000000 := (by rw [HNU.out]; have := H20.out.2; omega); have hpr := fun W (k : Ext w4 W) => print_ans p s n (.slice va nj ca) (.slice vb nu cb) W (Sl.ext hja k) (hua.ext k) hl6 HN.out; have hrp := fun W (k : Ext w4 W) => rPrint_ans p s n (.slice aj nj cj) (.slice au nu cu) W (Sl.ext HJ.out (x3.tr k)) (HU.out.ext (x3.tr k)) hl6 HN.out; have hsm := fun W (k : Ext w4 W) => same_eq s (.slice vb nu cb) (.slice au nu cu) W (hua.ext k) (HU.out.ext (x3.tr k)); unfold PrAns at hpr hrp; obtain ⟨S, hS⟩ : ∃ S, prS p s n = S := ⟨_, rfl⟩; obtain ⟨L, hL⟩ : ∃ L, prL p s n = L := ⟨_, rfl⟩; obtain ⟨E, hE⟩ : ∃ E, prErr p s n = E := ⟨_, rfl⟩; rw [hS, hL, hE] at hpr hrp; unfold pV sV at hpr hrp; unfold sV at hsm; have dx : Ext w4 w4 := Below.refl _ _; clear XB2 YB2 X2 X3 OA OB hja hua hS hL hE HOWN HSTA; have d7 := B7.out.cell; have d8 := B8.out.cell; have XB := Hd xb3; have YB := Hd yb3; have X := Hd x3; have HPR := Hd hpr; have HRP := Hd hrp; have HSM := Hd hsm; have Y := Hd dx; clear xb3 yb3 x3 hpr hrp hsm dx
 go_upto_region 5 with (first
  | (have hgd := HPR.out
     go_at_call 28; refine (hgd _ Y.out).mono ?_; rintro e w5 ⟨v1, v2, rfl, h1, h2, hx⟩; obtain ⟨a1, c1, rfl, _⟩ := h1.form; obtain ⟨a2, c2, hv2⟩ : ∃ a c, v2 = .slice a L.length c := (by obtain ⟨_, a, c, h, _⟩ := h2; exact ⟨a, c, h⟩); subst hv2; clear hgd HPR d7 d8 B7; replace XB := Hd (XB.out.ext hx); replace YB := Hd (YB.out.ext hx); replace B8 := Hd (B8.out.ext hx); have x2 := X.out.tr hx; have y2 := Y.out.tr hx; clear X Y hx; have X := Hd x2; have Y := Hd y2; have U1 := Hd h1; have S1 := Hd h2
     clear x2 y2 h1 h2)
  | (with_reducible refine wpList_allocA (t := 38) rfl rfl Tryz.zeroValue38 ?_
     rintro b9 w6 hx1 hx2 hx3; have lz : w5.heap.size ≤ b9 := hx3; clear hx3; have B9 := Hd hx1; have Z := Hd hx2; have LZ := Hd lz
     clear hx1 hx2 lz)
  | (with_reducible refine wpList_storeK (ty := 38) (cells := #[.int .i64 S.drive, .bool S.folder, .slice a1 S.units.length c1, .int .i64 S.fresh]) rfl rfl B9.out ?_ ?_ ?_ ?_ ?_ ?_
     rfl; rfl; kernel_rfl; rfl; simp [Value.oneCell']; rintro w7 hb ho; have hx := Z.out.then_only ho (fun k (e : k = b9) => by rw [e]; exact LZ.out); replace XB := Hd (XB.out.ext hx); replace YB := Hd (YB.out.ext hx); replace B8 := Hd (B8.out.ext hx); replace U1 := Hd (U1.out.ext hx); replace S1 := Hd (S1.out.ext hx); have x2 := X.out.tr hx; have y2 := Y.out.tr hx; have e1 := XB.out.cell; have e2 := YB.out.cell; clear X Y hx Z LZ B9 ho; have X := Hd x2; have Y := Hd y2; have B9 := Hd hb
     clear x2 y2 hb))
 go_upto_region 6 with (first
  | (have hgd := HRP.out
     go_at_call 64; refine (hgd _ Y.out).mono ?_; rintro e w8 ⟨v3, v4, rfl, h1, h2, hx⟩; obtain ⟨a3, c3, rfl, _⟩ := h1.form; obtain ⟨a4, c4, hv4⟩ : ∃ a c, v4 = .slice a L.length c := (by obtain ⟨_, a, c, h, _⟩ := h2; exact ⟨a, c, h⟩); subst hv4; clear hgd HRP e1 e2 XB; replace YB := Hd (YB.out.ext hx); replace B8 := Hd (B8.out.ext hx); replace B9 := Hd (B9.out.ext hx); replace U1 := Hd (U1.out.ext hx); replace S1 := Hd (S1.out.ext hx); have x2 := X.out.tr hx; have y2 := Y.out.tr hx; clear X Y hx; have X := Hd x2; have Y := Hd y2; have U2 := Hd h1; have S2 := Hd h2
     clear x2 y2 h1 h2)
  | (with_reducible refine wpList_allocA (t := 27) rfl rfl Tryz.zeroValue27 ?_
     rintro bz w9 hx1 hx2 hx3; have lz : w8.heap.size ≤ bz := hx3; clear hx3; have BZ := Hd hx1; have Z := Hd hx2; have LZ := Hd lz
     clear hx1 hx2 lz)
  | (with_reducible refine wpList_storeK (ty := 27) (cells := #[.int .i64 S.drive, .bool S.folder, .slice a3 S.units.length c3, .int .i64 S.fresh]) rfl rfl BZ.out ?_ ?_ ?_ ?_ ?_ ?_
     rfl; rfl; kernel_rfl; rfl; simp [Value.oneCell']; rintro wa hb ho; have hx := Z.out.then_only ho (fun k (e : k = bz) => by rw [e]; exact LZ.out); replace YB := Hd (YB.out.ext hx); replace B8 := Hd (B8.out.ext hx); replace B9 := Hd (B9.out.ext hx); replace U1 := Hd (U1.out.ext hx); replace S1 := Hd (S1.out.ext hx); replace U2 := Hd (U2.out.ext hx); replace S2 := Hd (S2.out.ext hx); have x2 := X.out.tr hx; have y2 := Y.out.tr hx; have e1 := B9.out.cell; have e2 := hb.cell; clear X Y hx Z LZ BZ ho; have X := Hd x2; have Y := Hd y2; have BZ := Hd hb
     clear x2 y2 hb))
 have hs1 := same_eq S _ _ wa U1.out U2.out; unfold sV at hs1; have hw1 := fun W (k : Ext wa W) => sameWaste_eq L _ _ W (S1.out.ext k) (S2.out.ext k); have HS1 := Hd hs1; have HW1 := Hd hw1; clear hs1 hw1
 go_wp2_with (first
  | (have hgd := HS1.out
     go_at_call 23; refine hgd.mono ?_; rintro e wb ⟨rfl, hx⟩; clear hgd HS1 e1 e2; replace YB := Hd (YB.out.ext hx); replace B8 := Hd (B8.out.ext hx); have x2 := X.out.tr hx; have y2 := Y.out.tr hx; clear X Y; have X := Hd x2; have Y := Hd y2; have XAB := Hd hx
     clear x2 y2 hx)
  | (have hgd := HW1.out
     go_at_call 65; refine (hgd _ XAB.out).mono ?_; rintro e wc ⟨rfl, hx⟩; clear hgd HW1; replace YB := Hd (YB.out.ext hx); replace B8 := Hd (B8.out.ext hx); have x2 := X.out.tr hx; have y2 := Y.out.tr hx; have e3 := YB.out.cell; have e4 := B8.out.cell; clear X Y hx; have X := Hd x2; have Y := Hd y2
     clear x2 y2)
  | (have hgd := HSM.out
     go_at_call 23; refine (hgd _ Y.out).mono ?_; rintro e wd ⟨rfl, hx⟩; clear hgd HSM e3 e4; have x2 := X.out.tr hx; clear X hx; have X := Hd x2
     clear x2)
  | (go_at_call 6
     refine (awake_any _).mono ?_; rintro e we ⟨rfl, hx⟩; have x2 := X.out.tr hx; clear X hx; have X := Hd x2
     clear x2))
 go_ret; exact ⟨rfl, X.out⟩
 }
 {
 go_wp2_with (first
  | (have hgd := HBG.out
     go_at_call 5; refine (hgd _).mono ?_; rintro e w3 ⟨rfl, hx⟩; clear hgd HBG c1 c2; replace XB := Hd (XB.out.ext hx); replace YB := Hd (YB.out.ext hx); have x2 := X.out.tr hx; clear X hx; have X := Hd x2
     clear x2)
  | (go_at_call 6
     refine (awake_any _).mono ?_; rintro e w4 ⟨rfl, hx⟩; have x2 := X.out.tr hx; clear X hx; have X := Hd x2
     clear x2))
 go_ret; exact ⟨rfl, X.out⟩
 }
 }
end Go.Proofs.YtojobdffnnibaaaGreat