/- PressActs: the walk (printed by mkacts.py). -/
import Derived.Test.YtojobdffnnibaaaGreatJ13
import Derived.Test.YtojobdffnnibaaaGreatJ5
namespace Go.Proofs.YtojobdffnnibaaaGreat
open Go.RowKit
set_option linter.unusedVariables false
set_option linter.unusedSimpArgs false
set_option maxRecDepth 100000 in
set_option maxHeartbeats 8000000 in
theorem acts_true (p : PressD) (s : StD) (l : List (Int × Int)) (x : Int) (vj vu vl : Value) (w : World) (hj : Truths w vj p.jam) (hu : UnIn w vu s.units) (hv : AcIn w vl l) (hk : ∀ a ∈ l, I64 a.1) (hx : I64 x) :
 Calls Tryz.prog 24 #[pV vj p, sV vu s, vl, .int .i64 x] w fun e w' => e = .returned (.bool true) ∧ Ext w w' := by
 have hj0 := hj; have hu0 := hu; have hv0 := hv; obtain ⟨hjl, aj, cj, rfl, _⟩ := hj; rw [List.length_map] at *; obtain ⟨hul, au, cu, rfl, _⟩ := hu; obtain ⟨hvl, al, cl, rfl, _⟩ := hv; obtain ⟨nj, hnj⟩ : ∃ m, p.jam.length = m := ⟨_, rfl⟩; obtain ⟨nu, hnu⟩ : ∃ m, s.units.length = m := ⟨_, rfl⟩; obtain ⟨nl, hnl⟩ : ∃ m, l.length = m := ⟨_, rfl⟩; rw [hnj] at hjl hj0 ⊢; rw [hnu] at hul hu0 ⊢; rw [hnl] at hvl hv0 ⊢; unfold pV sV; have hbig := fun W => big_any p s 0 (.slice none 0 0) (.slice none 0 0) (.slice none 0 0) nu nj 0 cu cj 0 au aj none W ⟨hul, hjl, by decide⟩; obtain ⟨bb, hbb⟩ : ∃ b, (decide (20 < nj) || decide (20 < nu) || decide (20 < 0)) = b := ⟨_, rfl⟩; rw [hbb] at hbig; have HJ := Hd hj0; have HU := Hd hu0; have HV := Hd hv0; have HK := Hd hk; have HX := Hd hx; have HBG := Hd hbig; have HNJ := Hd hnj; have HNU := Hd hnu; have HNL := Hd hnl; have HBB := Hd hbb; clear hj0 hu0 hv0 hk hx hbig hnj hnu hnl hbb
 go_enter Tryz.func24, Tryz.ntmps24
 go_upto_region 1 with (first
  | (with_reducible refine wpList_boxA (t := 24) (cs := #[.slice aj nj cj, .int .i64 p.warm, .int .i64 p.tail, .int .i64 p.dirt]) rfl rfl rfl ?_
     rintro xb w1 hx1 hx2 hx3; have XB := Hd hx1; have X := Hd hx2; clear hx1 hx2
     clear hx3)
  | (with_reducible refine wpList_boxA (t := 27) (cs := #[.int .i64 s.drive, .bool s.folder, .slice au nu cu, .int .i64 s.fresh]) rfl rfl rfl ?_
     rintro yb w2 hy1 hy2 hy3; have x2 := X.out.tr hy2; have xb2 := XB.out.ext hy2; have c1 := xb2.cell; have c2 := hy1.cell; clear XB X; have XB := Hd xb2; have YB := Hd hy1; have X := Hd x2; clear xb2 hy1 x2
     clear hy3 hy2))
 by_cases ha1 : (60:Int) < (nl:Int) ∧ (nl:Int) ≤ 200
 {
 obtain ⟨i1, i2⟩ := ha1
 cases bb
 {
 go_wp2_with (first
  | (have hgd := HBG.out
     go_at_call 5; refine (hgd _).mono ?_; rintro e w3 ⟨rfl, hx⟩; clear hgd HBG c1 c2; replace XB := Hd (XB.out.ext hx); replace YB := Hd (YB.out.ext hx); have x2 := X.out.tr hx; clear X hx; have X := Hd x2
     clear x2)
  | (go_at_call 6
     refine (awake_any _).mono ?_; rintro e w4 ⟨rfl, hx⟩; have x2 := X.out.tr hx; clear X hx; have X := Hd x2
     clear x2))
 go_ret; exact ⟨rfl, X.out⟩
 }
 {
 go_wp2_with (first
  | (have hgd := HBG.out
     go_at_call 5; refine (hgd _).mono ?_; rintro e w3 ⟨rfl, hx⟩; clear hgd HBG c1 c2; replace XB := Hd (XB.out.ext hx); replace YB := Hd (YB.out.ext hx); have x2 := X.out.tr hx; clear X hx; have X := Hd x2
     clear x2)
  | (go_at_call 6
     refine (awake_any _).mono ?_; rintro e w4 ⟨rfl, hx⟩; have x2 := X.out.tr hx; clear X hx; have X := Hd x2
     clear x2))
 go_ret; exact ⟨rfl, X.out⟩
 }
 }
 by_cases ha2 : (300:Int) < (nl:Int)
 {
 have i1 : (60:Int) < (nl:Int) := (by omega); have i2 : decide ((nl:Int) ≤ 200) = false := decide_eq_false (by omega); have i3 := ha2; clear ha1 ha2
 cases bb
 {
 go_wp2_with (first
  | (have hgd := HBG.out
     go_at_call 5; refine (hgd _).mono ?_; rintro e w3 ⟨rfl, hx⟩; clear hgd HBG c1 c2; replace XB := Hd (XB.out.ext hx); replace YB := Hd (YB.out.ext hx); have x2 := X.out.tr hx; clear X hx; have X := Hd x2
     clear x2)
  | (go_at_call 6
     refine (awake_any _).mono ?_; rintro e w4 ⟨rfl, hx⟩; have x2 := X.out.tr hx; clear X hx; have X := Hd x2
     clear x2))
 go_ret; exact ⟨rfl, X.out⟩
 }
 {
 go_wp2_with (first
  | (have hgd := HBG.out
     go_at_call 5; refine (hgd _).mono ?_; rintro e w3 ⟨rfl, hx⟩; clear hgd HBG c1 c2; replace XB := Hd (XB.out.ext hx); replace YB := Hd (YB.out.ext hx); have x2 := X.out.tr hx; clear X hx; have X := Hd x2
     clear x2)
  | (go_at_call 6
     refine (awake_any _).mono ?_; rintro e w4 ⟨rfl, hx⟩; have x2 := X.out.tr hx; clear X hx; have X := Hd x2
     clear x2))
 go_ret; exact ⟨rfl, X.out⟩
 }
 }
 cases bb
 case true =>
  clear ha1 ha2
  {
  go_wp2_with (first
   | (have hgd := HBG.out
      go_at_call 5; refine (hgd _).mono ?_; rintro e w3 ⟨rfl, hx⟩; clear hgd HBG c1 c2; replace XB := Hd (XB.out.ext hx); replace YB := Hd (YB.out.ext hx); have x2 := X.out.tr hx; clear X hx; have X := Hd x2
      clear x2)
   | (go_at_call 6
      refine (awake_any _).mono ?_; rintro e w4 ⟨rfl, hx⟩; have x2 := X.out.tr hx; clear X hx; have X := Hd x2
      clear x2))
  go_ret; exact ⟨rfl, X.out⟩
  }
 case false =>
  have h20 : nj ≤ 20 ∧ nu ≤ 20 := by
   have := HBB.out; simp at this; omega
  have hl300 : nl ≤ 300 := by omega
  go_cut [46] (fun v W => v = .bool false ∧ Hid (Blk W xb #[.slice aj nj cj, .int .i64 p.warm, .int .i64 p.tail, .int .i64 p.dirt] 24) ∧ Hid (Blk W yb #[.int .i64 s.drive, .bool s.folder, .slice au nu cu, .int .i64 s.fresh] 27) ∧ Hid (Ext w W))
  case first =>
   have i3 : decide ((300:Int) < (nl:Int)) = false := decide_eq_false ha2
   by_cases h4 : (60:Int) < (nl:Int)
   {
   have i1 := h4; have i2 : decide ((nl:Int) ≤ 200) = false := decide_eq_false (by omega); clear ha1 ha2 h4
   go_wp2_with (
    have hgd := HBG.out; go_at_call 5; refine (hgd _).mono ?_; rintro e w3 ⟨rfl, hx⟩; clear hgd HBG c1 c2; replace XB := Hd (XB.out.ext hx); replace YB := Hd (YB.out.ext hx); have x2 := X.out.tr hx; clear X hx; have X := Hd x2
    clear x2)
   go_meet
   case rel => exact ⟨rfl, XB, YB, X⟩
   }
   {
   have i1 : decide ((60:Int) < (nl:Int)) = false := decide_eq_false h4; clear ha1 ha2 h4
   go_wp2_with (
    have hgd := HBG.out; go_at_call 5; refine (hgd _).mono ?_; rintro e w3 ⟨rfl, hx⟩; clear hgd HBG c1 c2; replace XB := Hd (XB.out.ext hx); replace YB := Hd (YB.out.ext hx); have x2 := X.out.tr hx; clear X hx; have X := Hd x2
    clear x2)
   go_meet
   case rel => exact ⟨rfl, XB, YB, X⟩
   }
  case rest =>
  obtain ⟨rfl, XB2, YB2, X2⟩ := hcut; clear c1 c2 XB YB X HBG ha1 ha2; obtain ⟨w3, rfl⟩ : ∃ W, W = wc := ⟨wc, rfl⟩
  go_upto_region 3 with (fail)
  have hown := fun W (k : Ext w3 W) => own_any p (.slice aj nj cj) W (Sl.ext HJ.out (X2.out.tr k)) (by rw [HNJ.out]; have := h20.1; omega); have hsta := fun W (k : Ext w3 W) => state_any s (.slice au nu cu) W (HU.out.ext (X2.out.tr k)) (by rw [HNU.out]; have := h20.2; omega); have hacs := fun W (k : Ext w3 W) => lawActions_any l (.slice al nl cl) W (HV.out.ext (X2.out.tr k)) (by rw [HNL.out]; omega); rw [HNJ.out] at hown; rw [HNU.out] at hsta; rw [HNL.out] at hacs; unfold pV at hown; unfold sV at hsta; have HOWN := Hd hown; have HSTA := Hd hsta; have HACS := Hd hacs; have H20 := Hd h20; have HL300 := Hd hl300; clear hown hsta hacs h20 hl300
  go_cut [9, 10, 11] (fun v9 v10 v11 W => ∃ b9 b10 va ca vb cb vc cc, v9 = .pointer (some ⟨b9, 0, none⟩) ∧ v10 = .pointer (some ⟨b10, 0, none⟩) ∧ v11 = .slice vc nl cc ∧ Hid (Blk W b9 #[.slice va nj ca, .int .i64 p.warm, .int .i64 p.tail, .int .i64 p.dirt] 34) ∧ Hid (Blk W b10 #[.int .i64 s.drive, .bool s.folder, .slice vb nu cb, .int .i64 s.fresh] 38) ∧
   Hid (W.ownsRow w3.heap.size 4 1 (.slice va nj ca) nj (p.jam.map .bool)) ∧ Hid (W.ownsRow w3.heap.size 82 5 (.slice vb nu cb) nu (uL s.units)) ∧ Hid (W.ownsRow w3.heap.size 72 2 (.slice vc nl cc) nl (acL l)) ∧ Hid (Ext w3 W))
  case first =>
   as_aux_lemma =>
   have xd : Ext w3 w3.drew := (Below.refl _ w3).drew; have xb1 := (XB2.out.ext xd).cell; have yb1 := (YB2.out.ext xd).cell; refine wp_region_K (fun wx => (∀ j, wx.cell? ⟨xb, j, none⟩ = (#[.slice aj nj cj, .int .i64 p.warm, .int .i64 p.tail, .int .i64 p.dirt] : Array Value)[j]?) ∧ (∀ j, wx.cell? ⟨yb, j, none⟩ = (#[.int .i64 s.drive, .bool s.folder, .slice au nu cu, .int .i64 s.fresh] : Array Value)[j]?)) 8 (by kernel_rfl) ⟨xb1, yb1⟩ (fun kh => ?_); generalize w3.drew = wA at *; clear xb1 yb1; have XC := Hd xd; clear xd; refine kX 0 kh ?_; simp only [kS]; refine kX 2 kh ?_; simp only [kS]; refine kX 4 kh ?_; simp only [kS]; apply shareK
   case' h => intro k1_3_5_6_7
   apply shareK
   case' h => intro k1_3_5_6
   apply shareK
   case' h => intro k1_3_5_7
   apply shareK
   case' h => intro k1_3_6_7
   apply shareK
   case' h => intro k1_3_5
   apply shareK
   case' h => intro k1_3_6
   apply shareK
   case' h => intro k1_3_7
   apply shareK
   case' h => intro k1_6_7
   apply shareK
   case' h => intro k1_3
   apply shareK
   case' h => intro k1_6
   apply shareK
   case' h => intro k1_7
   apply shareK
   case' h => intro k6_7
   apply shareK
   case' h => intro k1
   apply shareK
   case' h => intro k6
   apply shareK
   case' h => intro k7
   {
   refine rK [1, 6, 7] ?_; refine xK 1 (fun K hK => ?_) ?_
   { refine cK #[.agg #[.slice aj nj cj, .int .i64 p.warm, .int .i64 p.tail, .int .i64 p.dirt]] Tryz.func7 (HOWN.out _ XC.out) ?_; rintro e wy ⟨v1, rfl, hx, ho1⟩; obtain ⟨va, ca, rfl⟩ := row_form ho1; refine ⟨_, rfl, ?_⟩; have OA := Hd (owns_weak ho1 XC.out.size); clear ho1; (try (replace OB := Hd (owns_ext OB.out hx))); (try (replace OC := Hd (owns_ext OC.out hx))); (try (replace A9 := Hd (A9.out.ext hx))); (try (replace AX := Hd (AX.out.ext hx))); replace XC := Hd (XC.out.tr hx); clear hx; refine kG hK ⟨(XB2.out.ext XC.out).cell, (YB2.out.ext XC.out).cell⟩ fun kh => ?_; (try simp only [kS]); (try clear kh); revert OA; revert ca; revert va; revert XC; revert wy; exact k1.out }
   refine xK 6 (fun K hK => ?_) ?_
   { refine step_allocA (t := 34) rfl rfl Tryz.zeroValue34 ?_; intro b9 wy hb hx hl; have l9 : w3.heap.size ≤ b9 := Nat.le_trans XC.out.size hl; have A9 := Hd hb; clear hb hl; (try (replace OA := Hd (owns_ext OA.out hx))); (try (replace OB := Hd (owns_ext OB.out hx))); (try (replace OC := Hd (owns_ext OC.out hx))); (try (replace AX := Hd (AX.out.ext hx))); replace XC := Hd (XC.out.tr hx); clear hx; refine kG hK ⟨(XB2.out.ext XC.out).cell, (YB2.out.ext XC.out).cell⟩ fun kh => ?_; (try simp only [kS]); (try clear kh); revert A9; revert l9; revert b9; revert XC; revert wy; exact k6.out }
   refine xK 7 (fun K hK => ?_) ?_
   { refine step_allocA (t := 38) rfl rfl Tryz.zeroValue38 ?_; intro b10 wy hb hx hl; have l10 : w3.heap.size ≤ b10 := Nat.le_trans XC.out.size hl; have AX := Hd hb; clear hb hl; (try (replace OA := Hd (owns_ext OA.out hx))); (try (replace OB := Hd (owns_ext OB.out hx))); (try (replace OC := Hd (owns_ext OC.out hx))); (try (replace A9 := Hd (A9.out.ext hx))); replace XC := Hd (XC.out.tr hx); clear hx; refine kG hK ⟨(XB2.out.ext XC.out).cell, (YB2.out.ext XC.out).cell⟩ fun kh => ?_; (try simp only [kS]); (try clear kh); revert AX; revert l10; revert b10; revert XC; revert wy; exact k7.out }
   exact nK
   }
   {
   intro wy XC b10 l10 AX; refine rK [1, 6] ?_; refine xK 1 (fun K hK => ?_) ?_
   { refine cK #[.agg #[.slice aj nj cj, .int .i64 p.warm, .int .i64 p.tail, .int .i64 p.dirt]] Tryz.func7 (HOWN.out _ XC.out) ?_; rintro e wy ⟨v1, rfl, hx, ho1⟩; obtain ⟨va, ca, rfl⟩ := row_form ho1; refine ⟨_, rfl, ?_⟩; have OA := Hd (owns_weak ho1 XC.out.size); clear ho1; (try (replace OB := Hd (owns_ext OB.out hx))); (try (replace OC := Hd (owns_ext OC.out hx))); (try (replace A9 := Hd (A9.out.ext hx))); (try (replace AX := Hd (AX.out.ext hx))); replace XC := Hd (XC.out.tr hx); clear hx; refine kG hK ⟨(XB2.out.ext XC.out).cell, (YB2.out.ext XC.out).cell⟩ fun kh => ?_; (try simp only [kS]); (try clear kh); revert AX; revert l10; revert b10; revert OA; revert ca; revert va; revert XC; revert wy; exact k1_7.out }
   refine xK 6 (fun K hK => ?_) ?_
   { refine step_allocA (t := 34) rfl rfl Tryz.zeroValue34 ?_; intro b9 wy hb hx hl; have l9 : w3.heap.size ≤ b9 := Nat.le_trans XC.out.size hl; have A9 := Hd hb; clear hb hl; (try (replace OA := Hd (owns_ext OA.out hx))); (try (replace OB := Hd (owns_ext OB.out hx))); (try (replace OC := Hd (owns_ext OC.out hx))); (try (replace AX := Hd (AX.out.ext hx))); replace XC := Hd (XC.out.tr hx); clear hx; refine kG hK ⟨(XB2.out.ext XC.out).cell, (YB2.out.ext XC.out).cell⟩ fun kh => ?_; (try simp only [kS]); (try clear kh); revert AX; revert l10; revert b10; revert A9; revert l9; revert b9; revert XC; revert wy; exact k6_7.out }
   exact nK
   }
   {
   intro wy XC b9 l9 A9; refine rK [1, 7] ?_; refine xK 1 (fun K hK => ?_) ?_
   { refine cK #[.agg #[.slice aj nj cj, .int .i64 p.warm, .int .i64 p.tail, .int .i64 p.dirt]] Tryz.func7 (HOWN.out _ XC.out) ?_; rintro e wy ⟨v1, rfl, hx, ho1⟩; obtain ⟨va, ca, rfl⟩ := row_form ho1; refine ⟨_, rfl, ?_⟩; have OA := Hd (owns_weak ho1 XC.out.size); clear ho1; (try (replace OB := Hd (owns_ext OB.out hx))); (try (replace OC := Hd (owns_ext OC.out hx))); (try (replace A9 := Hd (A9.out.ext hx))); (try (replace AX := Hd (AX.out.ext hx))); replace XC := Hd (XC.out.tr hx); clear hx; refine kG hK ⟨(XB2.out.ext XC.out).cell, (YB2.out.ext XC.out).cell⟩ fun kh => ?_; (try simp only [kS]); (try clear kh); revert A9; revert l9; revert b9; revert OA; revert ca; revert va; revert XC; revert wy; exact k1_6.out }
   refine xK 7 (fun K hK => ?_) ?_
   { refine step_allocA (t := 38) rfl rfl Tryz.zeroValue38 ?_; intro b10 wy hb hx hl; have l10 : w3.heap.size ≤ b10 := Nat.le_trans XC.out.size hl; have AX := Hd hb; clear hb hl; (try (replace OA := Hd (owns_ext OA.out hx))); (try (replace OB := Hd (owns_ext OB.out hx))); (try (replace OC := Hd (owns_ext OC.out hx))); (try (replace A9 := Hd (A9.out.ext hx))); replace XC := Hd (XC.out.tr hx); clear hx; refine kG hK ⟨(XB2.out.ext XC.out).cell, (YB2.out.ext XC.out).cell⟩ fun kh => ?_; (try simp only [kS]); (try clear kh); revert AX; revert l10; revert b10; revert A9; revert l9; revert b9; revert XC; revert wy; exact k6_7.out }
   exact nK
   }
   {
   intro wy XC va ca OA; refine rK [3, 6, 7] ?_; refine xK 3 (fun K hK => ?_) ?_
   { refine cK #[.agg #[.int .i64 s.drive, .bool s.folder, .slice au nu cu, .int .i64 s.fresh]] Tryz.func8 (HSTA.out _ XC.out) ?_; rintro e wy ⟨v2, rfl, hx, ho1⟩; obtain ⟨vb, cb, rfl⟩ := row_form ho1; refine ⟨_, rfl, ?_⟩; have OB := Hd (owns_weak ho1 XC.out.size); clear ho1; (try (replace OA := Hd (owns_ext OA.out hx))); (try (replace OC := Hd (owns_ext OC.out hx))); (try (replace A9 := Hd (A9.out.ext hx))); (try (replace AX := Hd (AX.out.ext hx))); replace XC := Hd (XC.out.tr hx); clear hx; refine kG hK ⟨(XB2.out.ext XC.out).cell, (YB2.out.ext XC.out).cell⟩ fun kh => ?_; (try simp only [kS]); (try clear kh); revert OB; revert cb; revert vb; revert OA; revert ca; revert va; revert XC; revert wy; exact k1_3.out }
   refine xK 6 (fun K hK => ?_) ?_
   { refine step_allocA (t := 34) rfl rfl Tryz.zeroValue34 ?_; intro b9 wy hb hx hl; have l9 : w3.heap.size ≤ b9 := Nat.le_trans XC.out.size hl; have A9 := Hd hb; clear hb hl; (try (replace OA := Hd (owns_ext OA.out hx))); (try (replace OB := Hd (owns_ext OB.out hx))); (try (replace OC := Hd (owns_ext OC.out hx))); (try (replace AX := Hd (AX.out.ext hx))); replace XC := Hd (XC.out.tr hx); clear hx; refine kG hK ⟨(XB2.out.ext XC.out).cell, (YB2.out.ext XC.out).cell⟩ fun kh => ?_; (try simp only [kS]); (try clear kh); revert A9; revert l9; revert b9; revert OA; revert ca; revert va; revert XC; revert wy; exact k1_6.out }
   refine xK 7 (fun K hK => ?_) ?_
   { refine step_allocA (t := 38) rfl rfl Tryz.zeroValue38 ?_; intro b10 wy hb hx hl; have l10 : w3.heap.size ≤ b10 := Nat.le_trans XC.out.size hl; have AX := Hd hb; clear hb hl; (try (replace OA := Hd (owns_ext OA.out hx))); (try (replace OB := Hd (owns_ext OB.out hx))); (try (replace OC := Hd (owns_ext OC.out hx))); (try (replace A9 := Hd (A9.out.ext hx))); replace XC := Hd (XC.out.tr hx); clear hx; refine kG hK ⟨(XB2.out.ext XC.out).cell, (YB2.out.ext XC.out).cell⟩ fun kh => ?_; (try simp only [kS]); (try clear kh); revert AX; revert l10; revert b10; revert OA; revert ca; revert va; revert XC; revert wy; exact k1_7.out }
   exact nK
   }
   {
   intro wy XC b9 l9 A9 b10 l10 AX; refine rK [1] ?_; refine xK 1 (fun K hK => ?_) ?_
   { refine cK #[.agg #[.slice aj nj cj, .int .i64 p.warm, .int .i64 p.tail, .int .i64 p.dirt]] Tryz.func7 (HOWN.out _ XC.out) ?_; rintro e wy ⟨v1, rfl, hx, ho1⟩; obtain ⟨va, ca, rfl⟩ := row_form ho1; refine ⟨_, rfl, ?_⟩; have OA := Hd (owns_weak ho1 XC.out.size); clear ho1; (try (replace OB := Hd (owns_ext OB.out hx))); (try (replace OC := Hd (owns_ext OC.out hx))); (try (replace A9 := Hd (A9.out.ext hx))); (try (replace AX := Hd (AX.out.ext hx))); replace XC := Hd (XC.out.tr hx); clear hx; refine kG hK ⟨(XB2.out.ext XC.out).cell, (YB2.out.ext XC.out).cell⟩ fun kh => ?_; (try simp only [kS]); (try clear kh); revert AX; revert l10; revert b10; revert A9; revert l9; revert b9; revert OA; revert ca; revert va; revert XC; revert wy; exact k1_6_7.out }
   exact nK
   }
   {
   intro wy XC va ca OA b10 l10 AX; refine rK [3, 6] ?_; refine xK 3 (fun K hK => ?_) ?_
   { refine cK #[.agg #[.int .i64 s.drive, .bool s.folder, .slice au nu cu, .int .i64 s.fresh]] Tryz.func8 (HSTA.out _ XC.out) ?_; rintro e wy ⟨v2, rfl, hx, ho1⟩; obtain ⟨vb, cb, rfl⟩ := row_form ho1; refine ⟨_, rfl, ?_⟩; have OB := Hd (owns_weak ho1 XC.out.size); clear ho1; (try (replace OA := Hd (owns_ext OA.out hx))); (try (replace OC := Hd (owns_ext OC.out hx))); (try (replace A9 := Hd (A9.out.ext hx))); (try (replace AX := Hd (AX.out.ext hx))); replace XC := Hd (XC.out.tr hx); clear hx; refine kG hK ⟨(XB2.out.ext XC.out).cell, (YB2.out.ext XC.out).cell⟩ fun kh => ?_; (try simp only [kS]); (try clear kh); revert AX; revert l10; revert b10; revert OB; revert cb; revert vb; revert OA; revert ca; revert va; revert XC; revert wy; exact k1_3_7.out }
   refine xK 6 (fun K hK => ?_) ?_
   { refine step_allocA (t := 34) rfl rfl Tryz.zeroValue34 ?_; intro b9 wy hb hx hl; have l9 : w3.heap.size ≤ b9 := Nat.le_trans XC.out.size hl; have A9 := Hd hb; clear hb hl; (try (replace OA := Hd (owns_ext OA.out hx))); (try (replace OB := Hd (owns_ext OB.out hx))); (try (replace OC := Hd (owns_ext OC.out hx))); (try (replace AX := Hd (AX.out.ext hx))); replace XC := Hd (XC.out.tr hx); clear hx; refine kG hK ⟨(XB2.out.ext XC.out).cell, (YB2.out.ext XC.out).cell⟩ fun kh => ?_; (try simp only [kS]); (try clear kh); revert AX; revert l10; revert b10; revert A9; revert l9; revert b9; revert OA; revert ca; revert va; revert XC; revert wy; exact k1_6_7.out }
   exact nK
   }
   {
   intro wy XC va ca OA b9 l9 A9; refine rK [3, 7] ?_; refine xK 3 (fun K hK => ?_) ?_
   { refine cK #[.agg #[.int .i64 s.drive, .bool s.folder, .slice au nu cu, .int .i64 s.fresh]] Tryz.func8 (HSTA.out _ XC.out) ?_; rintro e wy ⟨v2, rfl, hx, ho1⟩; obtain ⟨vb, cb, rfl⟩ := row_form ho1; refine ⟨_, rfl, ?_⟩; have OB := Hd (owns_weak ho1 XC.out.size); clear ho1; (try (replace OA := Hd (owns_ext OA.out hx))); (try (replace OC := Hd (owns_ext OC.out hx))); (try (replace A9 := Hd (A9.out.ext hx))); (try (replace AX := Hd (AX.out.ext hx))); replace XC := Hd (XC.out.tr hx); clear hx; refine kG hK ⟨(XB2.out.ext XC.out).cell, (YB2.out.ext XC.out).cell⟩ fun kh => ?_; (try simp only [kS]); (try clear kh); revert A9; revert l9; revert b9; revert OB; revert cb; revert vb; revert OA; revert ca; revert va; revert XC; revert wy; exact k1_3_6.out }
   refine xK 7 (fun K hK => ?_) ?_
   { refine step_allocA (t := 38) rfl rfl Tryz.zeroValue38 ?_; intro b10 wy hb hx hl; have l10 : w3.heap.size ≤ b10 := Nat.le_trans XC.out.size hl; have AX := Hd hb; clear hb hl; (try (replace OA := Hd (owns_ext OA.out hx))); (try (replace OB := Hd (owns_ext OB.out hx))); (try (replace OC := Hd (owns_ext OC.out hx))); (try (replace A9 := Hd (A9.out.ext hx))); replace XC := Hd (XC.out.tr hx); clear hx; refine kG hK ⟨(XB2.out.ext XC.out).cell, (YB2.out.ext XC.out).cell⟩ fun kh => ?_; (try simp only [kS]); (try clear kh); revert AX; revert l10; revert b10; revert A9; revert l9; revert b9; revert OA; revert ca; revert va; revert XC; revert wy; exact k1_6_7.out }
   exact nK
   }
   {
   intro wy XC va ca OA vb cb OB; refine rK [5, 6, 7] ?_; refine xK 5 (fun K hK => ?_) ?_
   { refine cK #[.slice al nl cl] Tryz.func14 (HACS.out _ XC.out) ?_; rintro e wy ⟨v3, rfl, hx, ho1⟩; obtain ⟨vc, cc, rfl⟩ := row_form ho1; refine ⟨_, rfl, ?_⟩; have OC := Hd (owns_weak ho1 XC.out.size); clear ho1; (try (replace OA := Hd (owns_ext OA.out hx))); (try (replace OB := Hd (owns_ext OB.out hx))); (try (replace A9 := Hd (A9.out.ext hx))); (try (replace AX := Hd (AX.out.ext hx))); replace XC := Hd (XC.out.tr hx); clear hx; refine kG hK ⟨(XB2.out.ext XC.out).cell, (YB2.out.ext XC.out).cell⟩ fun kh => ?_; (try simp only [kS]); (try clear kh); revert OC; revert cc; revert vc; revert OB; revert cb; revert vb; revert OA; revert ca; revert va; revert XC; revert wy; exact k1_3_5.out }
   refine xK 6 (fun K hK => ?_) ?_
   { refine step_allocA (t := 34) rfl rfl Tryz.zeroValue34 ?_; intro b9 wy hb hx hl; have l9 : w3.heap.size ≤ b9 := Nat.le_trans XC.out.size hl; have A9 := Hd hb; clear hb hl; (try (replace OA := Hd (owns_ext OA.out hx))); (try (replace OB := Hd (owns_ext OB.out hx))); (try (replace OC := Hd (owns_ext OC.out hx))); (try (replace AX := Hd (AX.out.ext hx))); replace XC := Hd (XC.out.tr hx); clear hx; refine kG hK ⟨(XB2.out.ext XC.out).cell, (YB2.out.ext XC.out).cell⟩ fun kh => ?_; (try simp only [kS]); (try clear kh); revert A9; revert l9; revert b9; revert OB; revert cb; revert vb; revert OA; revert ca; revert va; revert XC; revert wy; exact k1_3_6.out }
   refine xK 7 (fun K hK => ?_) ?_
   { refine step_allocA (t := 38) rfl rfl Tryz.zeroValue38 ?_; intro b10 wy hb hx hl; have l10 : w3.heap.size ≤ b10 := Nat.le_trans XC.out.size hl; have AX := Hd hb; clear hb hl; (try (replace OA := Hd (owns_ext OA.out hx))); (try (replace OB := Hd (owns_ext OB.out hx))); (try (replace OC := Hd (owns_ext OC.out hx))); (try (replace A9 := Hd (A9.out.ext hx))); replace XC := Hd (XC.out.tr hx); clear hx; refine kG hK ⟨(XB2.out.ext XC.out).cell, (YB2.out.ext XC.out).cell⟩ fun kh => ?_; (try simp only [kS]); (try clear kh); revert AX; revert l10; revert b10; revert OB; revert cb; revert vb; revert OA; revert ca; revert va; revert XC; revert wy; exact k1_3_7.out }
   exact nK
   }
   {
   intro wy XC va ca OA b9 l9 A9 b10 l10 AX; refine rK [3] ?_; refine xK 3 (fun K hK => ?_) ?_
   { refine cK #[.agg #[.int .i64 s.drive, .bool s.folder, .slice au nu cu, .int .i64 s.fresh]] Tryz.func8 (HSTA.out _ XC.out) ?_; rintro e wy ⟨v2, rfl, hx, ho1⟩; obtain ⟨vb, cb, rfl⟩ := row_form ho1; refine ⟨_, rfl, ?_⟩; have OB := Hd (owns_weak ho1 XC.out.size); clear ho1; (try (replace OA := Hd (owns_ext OA.out hx))); (try (replace OC := Hd (owns_ext OC.out hx))); (try (replace A9 := Hd (A9.out.ext hx))); (try (replace AX := Hd (AX.out.ext hx))); replace XC := Hd (XC.out.tr hx); clear hx; refine kG hK ⟨(XB2.out.ext XC.out).cell, (YB2.out.ext XC.out).cell⟩ fun kh => ?_; (try simp only [kS]); (try clear kh); revert AX; revert l10; revert b10; revert A9; revert l9; revert b9; revert OB; revert cb; revert vb; revert OA; revert ca; revert va; revert XC; revert wy; exact k1_3_6_7.out }
   exact nK
   }
   {
   intro wy XC va ca OA vb cb OB b10 l10 AX; refine rK [5, 6] ?_; refine xK 5 (fun K hK => ?_) ?_
   { refine cK #[.slice al nl cl] Tryz.func14 (HACS.out _ XC.out) ?_; rintro e wy ⟨v3, rfl, hx, ho1⟩; obtain ⟨vc, cc, rfl⟩ := row_form ho1; refine ⟨_, rfl, ?_⟩; have OC := Hd (owns_weak ho1 XC.out.size); clear ho1; (try (replace OA := Hd (owns_ext OA.out hx))); (try (replace OB := Hd (owns_ext OB.out hx))); (try (replace A9 := Hd (A9.out.ext hx))); (try (replace AX := Hd (AX.out.ext hx))); replace XC := Hd (XC.out.tr hx); clear hx; refine kG hK ⟨(XB2.out.ext XC.out).cell, (YB2.out.ext XC.out).cell⟩ fun kh => ?_; (try simp only [kS]); (try clear kh); revert AX; revert l10; revert b10; revert OC; revert cc; revert vc; revert OB; revert cb; revert vb; revert OA; revert ca; revert va; revert XC; revert wy; exact k1_3_5_7.out }
   refine xK 6 (fun K hK => ?_) ?_
   { refine step_allocA (t := 34) rfl rfl Tryz.zeroValue34 ?_; intro b9 wy hb hx hl; have l9 : w3.heap.size ≤ b9 := Nat.le_trans XC.out.size hl; have A9 := Hd hb; clear hb hl; (try (replace OA := Hd (owns_ext OA.out hx))); (try (replace OB := Hd (owns_ext OB.out hx))); (try (replace OC := Hd (owns_ext OC.out hx))); (try (replace AX := Hd (AX.out.ext hx))); replace XC := Hd (XC.out.tr hx); clear hx; refine kG hK ⟨(XB2.out.ext XC.out).cell, (YB2.out.ext XC.out).cell⟩ fun kh => ?_; (try simp only [kS]); (try clear kh); revert AX; revert l10; revert b10; revert A9; revert l9; revert b9; revert OB; revert cb; revert vb; revert OA; revert ca; revert va; revert XC; revert wy; exact k1_3_6_7.out }
   exact nK
   }
   {
   intro wy XC va ca OA vb cb OB b9 l9 A9; refine rK [5, 7] ?_; refine xK 5 (fun K hK => ?_) ?_
   { refine cK #[.slice al nl cl] Tryz.func14 (HACS.out _ XC.out) ?_; rintro e wy ⟨v3, rfl, hx, ho1⟩; obtain ⟨vc, cc, rfl⟩ := row_form ho1; refine ⟨_, rfl, ?_⟩; have OC := Hd (owns_weak ho1 XC.out.size); clear ho1; (try (replace OA := Hd (owns_ext OA.out hx))); (try (replace OB := Hd (owns_ext OB.out hx))); (try (replace A9 := Hd (A9.out.ext hx))); (try (replace AX := Hd (AX.out.ext hx))); replace XC := Hd (XC.out.tr hx); clear hx; refine kG hK ⟨(XB2.out.ext XC.out).cell, (YB2.out.ext XC.out).cell⟩ fun kh => ?_; (try simp only [kS]); (try clear kh); revert A9; revert l9; revert b9; revert OC; revert cc; revert vc; revert OB; revert cb; revert vb; revert OA; revert ca; revert va; revert XC; revert wy; exact k1_3_5_6.out }
   refine xK 7 (fun K hK => ?_) ?_
   { refine step_allocA (t := 38) rfl rfl Tryz.zeroValue38 ?_; intro b10 wy hb hx hl; have l10 : w3.heap.size ≤ b10 := Nat.le_trans XC.out.size hl; have AX := Hd hb; clear hb hl; (try (replace OA := Hd (owns_ext OA.out hx))); (try (replace OB := Hd (owns_ext OB.out hx))); (try (replace OC := Hd (owns_ext OC.out hx))); (try (replace A9 := Hd (A9.out.ext hx))); replace XC := Hd (XC.out.tr hx); clear hx; refine kG hK ⟨(XB2.out.ext XC.out).cell, (YB2.out.ext XC.out).cell⟩ fun kh => ?_; (try simp only [kS]); (try clear kh); revert AX; revert l10; revert b10; revert A9; revert l9; revert b9; revert OB; revert cb; revert vb; revert OA; revert ca; revert va; revert XC; revert wy; exact k1_3_6_7.out }
   exact nK
   }
   {
   intro wy XC va ca OA vb cb OB vc cc OC; refine rK [6, 7] ?_; refine xK 6 (fun K hK => ?_) ?_
   { refine step_allocA (t := 34) rfl rfl Tryz.zeroValue34 ?_; intro b9 wy hb hx hl; have l9 : w3.heap.size ≤ b9 := Nat.le_trans XC.out.size hl; have A9 := Hd hb; clear hb hl; (try (replace OA := Hd (owns_ext OA.out hx))); (try (replace OB := Hd (owns_ext OB.out hx))); (try (replace OC := Hd (owns_ext OC.out hx))); (try (replace AX := Hd (AX.out.ext hx))); replace XC := Hd (XC.out.tr hx); clear hx; refine kG hK ⟨(XB2.out.ext XC.out).cell, (YB2.out.ext XC.out).cell⟩ fun kh => ?_; (try simp only [kS]); (try clear kh); revert A9; revert l9; revert b9; revert OC; revert cc; revert vc; revert OB; revert cb; revert vb; revert OA; revert ca; revert va; revert XC; revert wy; exact k1_3_5_6.out }
   refine xK 7 (fun K hK => ?_) ?_
   { refine step_allocA (t := 38) rfl rfl Tryz.zeroValue38 ?_; intro b10 wy hb hx hl; have l10 : w3.heap.size ≤ b10 := Nat.le_trans XC.out.size hl; have AX := Hd hb; clear hb hl; (try (replace OA := Hd (owns_ext OA.out hx))); (try (replace OB := Hd (owns_ext OB.out hx))); (try (replace OC := Hd (owns_ext OC.out hx))); (try (replace A9 := Hd (A9.out.ext hx))); replace XC := Hd (XC.out.tr hx); clear hx; refine kG hK ⟨(XB2.out.ext XC.out).cell, (YB2.out.ext XC.out).cell⟩ fun kh => ?_; (try simp only [kS]); (try clear kh); revert AX; revert l10; revert b10; revert OC; revert cc; revert vc; revert OB; revert cb; revert vb; revert OA; revert ca; revert va; revert XC; revert wy; exact k1_3_5_7.out }
   exact nK
   }
   {
   intro wy XC va ca OA vb cb OB b9 l9 A9 b10 l10 AX; refine rK [5] ?_; refine xK 5 (fun K hK => ?_) ?_
   { refine cK #[.slice al nl cl] Tryz.func14 (HACS.out _ XC.out) ?_; rintro e wy ⟨v3, rfl, hx, ho1⟩; obtain ⟨vc, cc, rfl⟩ := row_form ho1; refine ⟨_, rfl, ?_⟩; have OC := Hd (owns_weak ho1 XC.out.size); clear ho1; (try (replace OA := Hd (owns_ext OA.out hx))); (try (replace OB := Hd (owns_ext OB.out hx))); (try (replace A9 := Hd (A9.out.ext hx))); (try (replace AX := Hd (AX.out.ext hx))); replace XC := Hd (XC.out.tr hx); clear hx; refine kG hK ⟨(XB2.out.ext XC.out).cell, (YB2.out.ext XC.out).cell⟩ fun kh => ?_; (try simp only [kS]); (try clear kh); revert AX; revert l10; revert b10; revert A9; revert l9; revert b9; revert OC; revert cc; revert vc; revert OB; revert cb; revert vb; revert OA; revert ca; revert va; revert XC; revert wy; exact k1_3_5_6_7.out }
   exact nK
   }
   {
   intro wy XC va ca OA vb cb OB vc cc OC b10 l10 AX; refine rK [6] ?_; refine xK 6 (fun K hK => ?_) ?_
   { refine step_allocA (t := 34) rfl rfl Tryz.zeroValue34 ?_; intro b9 wy hb hx hl; have l9 : w3.heap.size ≤ b9 := Nat.le_trans XC.out.size hl; have A9 := Hd hb; clear hb hl; (try (replace OA := Hd (owns_ext OA.out hx))); (try (replace OB := Hd (owns_ext OB.out hx))); (try (replace OC := Hd (owns_ext OC.out hx))); (try (replace AX := Hd (AX.out.ext hx))); replace XC := Hd (XC.out.tr hx); clear hx; refine kG hK ⟨(XB2.out.ext XC.out).cell, (YB2.out.ext XC.out).cell⟩ fun kh => ?_; (try simp only [kS]); (try clear kh); revert AX; revert l10; revert b10; revert A9; revert l9; revert b9; revert OC; revert cc; revert vc; revert OB; revert cb; revert vb; revert OA; revert ca; revert va; revert XC; revert wy; exact k1_3_5_6_7.out }
   exact nK
   }
   {
   intro wy XC va ca OA vb cb OB vc cc OC b9 l9 A9; refine rK [7] ?_; refine xK 7 (fun K hK => ?_) ?_
   { refine step_allocA (t := 38) rfl rfl Tryz.zeroValue38 ?_; intro b10 wy hb hx hl; have l10 : w3.heap.size ≤ b10 := Nat.le_trans XC.out.size hl; have AX := Hd hb; clear hb hl; (try (replace OA := Hd (owns_ext OA.out hx))); (try (replace OB := Hd (owns_ext OB.out hx))); (try (replace OC := Hd (owns_ext OC.out hx))); (try (replace A9 := Hd (A9.out.ext hx))); replace XC := Hd (XC.out.tr hx); clear hx; refine kG hK ⟨(XB2.out.ext XC.out).cell, (YB2.out.ext XC.out).cell⟩ fun kh => ?_; (try simp only [kS]); (try clear kh); revert AX; revert l10; revert b10; revert A9; revert l9; revert b9; revert OC; revert cc; revert vc; revert OB; revert cb; revert vb; revert OA; revert ca; revert va; revert XC; revert wy; exact k1_3_5_6_7.out }
   exact nK
   }
   {
   intro wy XC va ca OA vb cb OB vc cc OC b9 l9 A9 b10 l10 AX
   as_aux_lemma =>
   refine rK [8] ?_; refine xK 8 (fun K hK => ?_) ?_
   {
   refine sK #[.slice va nj ca, .int .i64 p.warm, .int .i64 p.tail, .int .i64 p.dirt] A9.out ?_; intro wy hb ho; have oa := owns_only OA.out ho (owns_ne' OA.out A9.out (by decide)); have ob := owns_only OB.out ho (owns_ne' OB.out A9.out (by decide)); have oc := owns_only OC.out ho (owns_ne' OC.out A9.out (by decide)); have a8 := AX.out.only ho (fun e => absurd (blk_ty AX.out (e ▸ A9.out)) (by decide)); have xc := XC.out.then_only ho (fun b (e : b = b9) => by rw [e]; exact l9); clear OA OB OC A9 AX XC ho; have OA := Hd oa; have OB := Hd ob; have OC := Hd oc; have A9 := Hd hb; have AX := Hd a8; have XC := Hd xc; clear oa ob oc hb a8 xc; refine kH hK rfl ?_; (try clear kh); (try simp only [kS]); refine rK [9] ?_; refine xK 9 (fun K hK => ?_) ?_
   {
   refine sK #[.int .i64 s.drive, .bool s.folder, .slice vb nu cb, .int .i64 s.fresh] AX.out ?_; intro wy hb ho; have oa := owns_only OA.out ho (owns_ne' OA.out AX.out (by decide)); have ob := owns_only OB.out ho (owns_ne' OB.out AX.out (by decide)); have oc := owns_only OC.out ho (owns_ne' OC.out AX.out (by decide)); have a7 := A9.out.only ho (fun e => absurd (blk_ty A9.out (e ▸ AX.out)) (by decide)); have xc := XC.out.then_only ho (fun b (e : b = b10) => by rw [e]; exact l10); clear OA OB OC A9 AX XC ho; have OA := Hd oa; have OB := Hd ob; have OC := Hd oc; have AX := Hd hb; have A9 := Hd a7; have XC := Hd xc; clear oa ob oc hb a7 xc; refine kH hK rfl ?_; (try clear kh); (try simp only [kS]); refine rK [10] ?_; refine xK 10 (fun K hK => ?_) ?_
   {
   go_simp; refine kH hK rfl ?_; (try clear kh); (try simp only [kS]); refine dK ?_ _; go_wp2; go_meet
   case rel => exact ⟨b9, b10, va, ca, vb, cb, vc, cc, rfl, rfl, rfl, A9, AX, OA, OB, OC, XC⟩
   }
   exact nK
   }
   exact nK
   }
   exact nK
   }
  case rest =>
  obtain ⟨b9, b10, va, ca, vb, cb, vc, cc, rfl, rfl, rfl, B9, B10, OA, OB, OC, X3⟩ := hcut; obtain ⟨w4, rfl⟩ : ∃ W, W = wc := ⟨wc, rfl⟩; have hl6 : s.units.length ≤ 1000000 := (by rw [HNU.out]; have := H20.out.2; omega); have hja : Truths w4 (.slice va nj ca) p.jam := Sl.of_owns OA.out
  have hua : UnIn w4 (.slice vb nu cb) s.units := by
   have h5 := OB.out; rw [← HNU.out] at h5 ⊢; exact UnIn.of_owns h5 (by omega)
  have hca : AcIn w4 (.slice vc nl cc) l := by
   have h5 := OC.out; rw [← HNL.out] at h5 ⊢; exact AcIn.of_owns h5 (by rw [HNL.out]; have := HL300.out; omega)
  have xb4 := XB2.out.ext X3.out; have yb4 := YB2.out.ext X3.out; have x3 := X2.out.tr X3.out; clear OA OB OC X2 X3 XB2 YB2 HOWN HSTA HACS HBB
  -- what the functions answer
  have hbg := fun W (k : Ext w4 W) => begin_own p (.slice va nj ca) W (Sl.ext hja k); have hrb := fun W (k : Ext w4 W) => rBegin_any p (.slice aj nj cj) W (Sl.ext HJ.out (x3.tr k)); have hck := fun W (k : Ext w4 W) => check_any p (.slice va nj ca) W (Sl.ext hja k); have hrc := fun W (k : Ext w4 W) => rCheck_any p (.slice aj nj cj) W (Sl.ext HJ.out (x3.tr k)); have hsf := fun W (k : Ext w4 W) => safe_any' p s (.slice va nj ca) (.slice vb nu cb) W (Sl.ext hja k) (hua.ext k); have hrs := fun W (k : Ext w4 W) => rSafe_all p s (.slice aj nj cj) (.slice au nu cu) W (Sl.ext HJ.out (x3.tr k)) (HU.out.ext (x3.tr k)) hl6; have hco := fun W (k : Ext w4 W) => code_any p s (.slice va nj ca) (.slice vb nu cb) W (Sl.ext hja k) (hua.ext k) hl6; have hro := fun W (k : Ext w4 W) => rCode_any p s (.slice aj nj cj) (.slice au nu cu) W (Sl.ext HJ.out (x3.tr k)) (HU.out.ext (x3.tr k)) hl6; have hpg := fun W (k : Ext w4 W) => program_own p s l (.slice va nj ca) (.slice vb nu cb) (.slice vc nl cc) W (Sl.ext hja k) (hua.ext k) hl6 (hca.ext k) HK.out; have hrp := fun W (k : Ext w4 W) => rProgram_any p s l (.slice aj nj cj) (.slice au nu cu) (.slice al nl cl) W (Sl.ext HJ.out (x3.tr k)) (HU.out.ext (x3.tr k)) hl6 (HV.out.ext (x3.tr k)); have hdo := fun (a : Int × Int) (ha : I64 a.1) W (k : Ext w4 W) => do_own' p s a.1 a.2 (.slice va nj ca) (.slice vb nu cb) W (Sl.ext hja k) (hua.ext k) hl6 ha; have hrd := fun (a : Int × Int) W (k : Ext w4 W) => rDo_any p s a.1 a.2 (.slice aj nj cj) (.slice au nu cu) W (Sl.ext HJ.out (x3.tr k)) (HU.out.ext (x3.tr k)) hl6; have hbk := fun W (k : Ext w4 W) => break_own p s x (.slice va nj ca) (.slice vb nu cb) W (Sl.ext hja k) (hua.ext k) hl6 HX.out; have hrk := fun W (k : Ext w4 W) => rBreak_any p s x (.slice aj nj cj) (.slice au nu cu) W (Sl.ext HJ.out (x3.tr k)) (HU.out.ext (x3.tr k)) hl6; have hsm := fun W (k : Ext w4 W) => same_eq s (.slice vb nu cb) (.slice au nu cu) W (hua.ext k) (HU.out.ext (x3.tr k)); have hsa := fun W (k : Ext w4 W) => sameActions_eq l (.slice vc nl cc) (.slice al nl cl) W (hca.ext k) (HV.out.ext (x3.tr k)); have hst := fun W (k : Ext w4 W) => sameTruths_eq p.jam (.slice va nj ca) (.slice aj nj cj) W (Sl.ext hja k) (Sl.ext HJ.out (x3.tr k)); have hin := fun (h0 : 0 < s.units.length) => HU.out.lt h0
  have hps : (pgS p s l).units.length ≤ 1000000 ∧ (0 < (pgS p s l).units.length → 0 < s.units.length) := by
   unfold pgS
   split
   · exact ⟨Nat.zero_le _, fun h => absurd h (by decide)⟩
   · rw [progR_units]; exact ⟨hl6, id⟩
  have hks := bkS_small (p := p) (s := s) (x := x) hl6; obtain ⟨T, hT⟩ : ∃ T, beginS p = T := ⟨_, rfl⟩; obtain ⟨E0, hE0⟩ : ∃ E, pErr p = E := ⟨_, rfl⟩; obtain ⟨SB, hSB⟩ : ∃ E, safeB p s = E := ⟨_, rfl⟩; obtain ⟨SE, hSE⟩ : ∃ E, safeE p s = E := ⟨_, rfl⟩; obtain ⟨CO, hCO⟩ : ∃ E, coD p s = E := ⟨_, rfl⟩; obtain ⟨CE, hCE⟩ : ∃ E, stErr p s = E := ⟨_, rfl⟩; obtain ⟨PS, hPS⟩ : ∃ E, pgS p s l = E := ⟨_, rfl⟩; obtain ⟨PN, hPN⟩ : ∃ E, pgN p s l = E := ⟨_, rfl⟩; obtain ⟨PE, hPE⟩ : ∃ E, pgE p s l = E := ⟨_, rfl⟩; obtain ⟨KS, hKS⟩ : ∃ E, bkS p s x = E := ⟨_, rfl⟩; obtain ⟨KN, hKN⟩ : ∃ E, bkN p s x = E := ⟨_, rfl⟩; obtain ⟨KE, hKE⟩ : ∃ E, brErr p s x = E := ⟨_, rfl⟩; unfold AnsO at hbg hdo; unfold AnsO3 at hpg hbk; rw [hT, hE0] at hbg hrb; rw [hE0] at hck hrc; rw [hSB, hSE] at hsf hrs; rw [hCO, hCE] at hco hro; rw [hPS, hPN, hPE] at hpg hrp; rw [hPS] at hps; rw [hKS, hKN, hKE] at hbk hrk; rw [hKS] at hks; unfold pV at hbg hrb hck hrc; unfold pV sV at hsf hrs hco hro hpg hrp hdo hrd hbk hrk; unfold sV at hbg hrb hsm; have dx : Ext w4 w4 := Below.refl _ _; have lx := x3.size; clear hja hua hT hE0 hSB hSE hCO hCE hPS hPN hPE hKS hKN hKE; have d9 := B9.out.cell; have d10 := B10.out.cell; have d4 := xb4.cell; have d5 := yb4.cell; have XB4 := Hd xb4; have YB4 := Hd yb4; have X := Hd x3; have Y := Hd dx; have LX := Hd lx; have HBG := Hd hbg; have HRB := Hd hrb; have HCK := Hd hck; have HRC := Hd hrc; have HSF := Hd hsf; have HRS := Hd hrs; have HCO := Hd hco; have HRO := Hd hro; have HPG := Hd hpg; have HRP := Hd hrp; have HDO := Hd hdo; have HRD := Hd hrd; have HBK := Hd hbk; have HRK := Hd hrk; have HSM := Hd hsm; have HSA := Hd hsa; have HST := Hd hst; have HIN := Hd hin; have HPS := Hd hps; have HKS := Hd hks; have HCA := Hd hca; clear xb4 yb4 x3 dx lx hbg hrb hck hrc hsf hrs hco hro hpg hrp hdo hrd hbk hrk hsm hsa hst hin hps hks hca
  as_aux_lemma =>
  go_upto_region 5 with (first
   | (have hgd := HBG.out
      go_at_call 26; refine (hgd _ Y.out).mono ?_; rintro e w5 ⟨v1, rfl, h1, _, hx⟩; clear hgd HBG; obtain ⟨a1, c1, rfl, _⟩ := h1.form; have y2 := Y.out.tr hx; clear Y hx; have Y := Hd y2; clear y2; clear d9 d10 d4 d5; have d9 := (B9.out.ext Y.out).cell; have d10 := (B10.out.ext Y.out).cell; have d4 := (XB4.out.ext Y.out).cell; have d5 := (YB4.out.ext Y.out).cell; have U1 := Hd h1
      clear h1)
   | (with_reducible refine wpList_allocA (t := 38) rfl rfl Tryz.zeroValue38 ?_
      rintro b12 w6 hx1 hx2 hx3; have lz : w5.heap.size ≤ b12 := hx3; clear hx3; have B12 := Hd hx1; have Z := Hd hx2; have LZ := Hd lz
      clear hx1 hx2 lz)
   | (with_reducible refine wpList_storeK (ty := 38) (cells := #[.int .i64 T.drive, .bool T.folder, .slice a1 T.units.length c1, .int .i64 T.fresh]) rfl rfl B12.out ?_ ?_ ?_ ?_ ?_ ?_
      rfl; rfl; kernel_rfl; rfl; simp [Value.oneCell']; rintro w7 hb ho; have hx := Z.out.then_only ho (fun k (e : k = b12) => by rw [e]; exact LZ.out); have l12 : w4.heap.size ≤ b12 := Nat.le_trans Y.out.size LZ.out; clear Z LZ B12 ho; replace U1 := Hd (U1.out.ext hx); have y2 := Y.out.tr hx; clear Y hx; have Y := Hd y2; clear y2; clear d9 d10 d4 d5; have d9 := (B9.out.ext Y.out).cell; have d10 := (B10.out.ext Y.out).cell; have d4 := (XB4.out.ext Y.out).cell; have d5 := (YB4.out.ext Y.out).cell; have B12 := Hd hb; have L12 := Hd l12
      clear hb l12))
  go_upto_region 6 with (first
   | (have hgd := HRB.out
      go_at_call 54; refine (hgd _ Y.out).mono ?_; rintro e w8 ⟨v3, rfl, h1, hx⟩; clear hgd HRB; obtain ⟨a3, c3, rfl, _⟩ := h1.form; replace U1 := Hd (U1.out.ext hx); replace B12 := Hd (B12.out.ext hx); have y2 := Y.out.tr hx; clear Y hx; have Y := Hd y2; clear y2; clear d9 d10 d4 d5; have d9 := (B9.out.ext Y.out).cell; have d10 := (B10.out.ext Y.out).cell; have d4 := (XB4.out.ext Y.out).cell; have d5 := (YB4.out.ext Y.out).cell; have U2 := Hd h1
      clear h1)
   | (with_reducible refine wpList_allocA (t := 27) rfl rfl Tryz.zeroValue27 ?_
      rintro b14 w9 hx1 hx2 hx3; have lz : w8.heap.size ≤ b14 := hx3; clear hx3; have B14 := Hd hx1; have Z := Hd hx2; have LZ := Hd lz
      clear hx1 hx2 lz)
   | (with_reducible refine wpList_storeK (ty := 27) (cells := #[.int .i64 T.drive, .bool T.folder, .slice a3 T.units.length c3, .int .i64 T.fresh]) rfl rfl B14.out ?_ ?_ ?_ ?_ ?_ ?_
      rfl; rfl; kernel_rfl; rfl; simp [Value.oneCell']; rintro wa hb ho; have hx := Z.out.then_only ho (fun k (e : k = b14) => by rw [e]; exact LZ.out); have l14 : w4.heap.size ≤ b14 := Nat.le_trans Y.out.size LZ.out; clear Z LZ B14 ho; replace U1 := Hd (U1.out.ext hx); replace U2 := Hd (U2.out.ext hx); replace B12 := Hd (B12.out.ext hx); have y2 := Y.out.tr hx; clear Y hx; have Y := Hd y2; clear y2; clear d9 d10 d4 d5; have d9 := (B9.out.ext Y.out).cell; have d10 := (B10.out.ext Y.out).cell; have d4 := (XB4.out.ext Y.out).cell; have d5 := (YB4.out.ext Y.out).cell; have B14 := Hd hb; have L14 := Hd l14
      clear hb l14))
  go_cut [79] (fun v W => v = .bool false ∧ Hid (Ext wa W))
  case first =>
   as_aux_lemma =>
   have hs1 := fun W (k : Ext wa W) => same_eq T (.slice a1 T.units.length c1) (.slice a3 T.units.length c3) W (U1.out.ext k) (U2.out.ext k); unfold sV at hs1; have hS : ∀ W, Ext wa W → ((∀ j, W.cell? ⟨b12, j, none⟩ = (#[.int .i64 T.drive, .bool T.folder, .slice a1 T.units.length c1, .int .i64 T.fresh] : Array Value)[j]?) ∧ (∀ j, W.cell? ⟨b14, j, none⟩ = (#[.int .i64 T.drive, .bool T.folder, .slice a3 T.units.length c3, .int .i64 T.fresh] : Array Value)[j]?) ∧ (∀ j, W.cell? ⟨b9, j, none⟩ = (#[.slice va nj ca, .int .i64 p.warm, .int .i64 p.tail, .int .i64 p.dirt] : Array Value)[j]?) ∧ (∀ j, W.cell? ⟨xb, j, none⟩ = (#[.slice aj nj cj, .int .i64 p.warm, .int .i64 p.tail, .int .i64 p.dirt] : Array Value)[j]?)) := fun W hx => ⟨(B12.out.ext hx).cell, (B14.out.ext hx).cell, (B9.out.ext (Y.out.tr hx)).cell, (XB4.out.ext (Y.out.tr hx)).cell⟩; clear d9 d10 d4 d5; have HS1 := Hd hs1; clear hs1
   go_region_held3 (fun wx => (∀ j, wx.cell? ⟨b12, j, none⟩ = (#[.int .i64 T.drive, .bool T.folder, .slice a1 T.units.length c1, .int .i64 T.fresh] : Array Value)[j]?) ∧ (∀ j, wx.cell? ⟨b14, j, none⟩ = (#[.int .i64 T.drive, .bool T.folder, .slice a3 T.units.length c3, .int .i64 T.fresh] : Array Value)[j]?) ∧ (∀ j, wx.cell? ⟨b9, j, none⟩ = (#[.slice va nj ca, .int .i64 p.warm, .int .i64 p.tail, .int .i64 p.dirt] : Array Value)[j]?) ∧ (∀ j, wx.cell? ⟨xb, j, none⟩ = (#[.slice aj nj cj, .int .i64 p.warm, .int .i64 p.tail, .int .i64 p.dirt] : Array Value)[j]?))
    ((first | exact hS _ (Below.refl _ wa).drew | exact hS _ XS.out | exact hS _ XS2.out | exact hS _ XS3.out))
    ((first
      | (have hgd := HS1.out
         go_at_call 23; refine (hgd _ (Below.refl _ wa).drew).mono ?_; rintro e wb ⟨rfl, hx⟩; have xs : Ext wa wb := Ext.tr (Below.refl _ wa).drew hx; clear HS1 hgd hx; have XS := Hd xs
         clear xs)
      | (have hgd := HCK.out
         go_at_call 55; refine (hgd _ (Y.out.tr XS.out)).mono ?_; rintro e wd ⟨rfl, hx⟩; have xs : Ext wa wd := Ext.tr XS.out hx; clear HCK hgd hx; have XS2 := Hd xs
         clear xs)
      | (have hgd := HRC.out
         go_at_call 56; refine (hgd _ (Y.out.tr XS2.out)).mono ?_; rintro e we ⟨rfl, hx⟩; have xs : Ext wa we := Ext.tr XS2.out hx; clear HRC hgd hx; have XS3 := Hd xs
         clear xs)))
   go_wp2; go_meet
   case rel => exact ⟨by simp, XS3⟩
  case rest =>
  obtain ⟨rfl, XS⟩ := hcut; obtain ⟨wf, rfl⟩ : ∃ W, W = wc := ⟨wc, rfl⟩; have hx := XS.out; clear U1 U2 XS; replace B12 := Hd (B12.out.ext hx); replace B14 := Hd (B14.out.ext hx); have y2 := Y.out.tr hx; clear Y hx; have Y := Hd y2; clear y2; clear d9 d10 d4 d5; have d9 := (B9.out.ext Y.out).cell; have d10 := (B10.out.ext Y.out).cell; have d4 := (XB4.out.ext Y.out).cell; have d5 := (YB4.out.ext Y.out).cell
  as_aux_lemma =>
  go_upto_region 12 with (first
   | (have hgd := HSF.out
      go_at_call 57; refine (hgd _ Y.out).mono ?_; rintro e w10 ⟨rfl, hx⟩; clear hgd HSF; replace B12 := Hd (B12.out.ext hx); replace B14 := Hd (B14.out.ext hx); have y2 := Y.out.tr hx; clear Y hx; have Y := Hd y2; clear y2; clear d9 d10 d4 d5; have d9 := (B9.out.ext Y.out).cell; have d10 := (B10.out.ext Y.out).cell; have d4 := (XB4.out.ext Y.out).cell
      have d5 := (YB4.out.ext Y.out).cell)
   | (have hgd := HRS.out
      go_at_call 58; refine (hgd _ Y.out).mono ?_; rintro e w11 ⟨rfl, hx⟩; clear hgd HRS; replace B12 := Hd (B12.out.ext hx); replace B14 := Hd (B14.out.ext hx); have y2 := Y.out.tr hx; clear Y hx; have Y := Hd y2; clear y2; clear d9 d10 d4 d5; have d9 := (B9.out.ext Y.out).cell; have d10 := (B10.out.ext Y.out).cell; have d4 := (XB4.out.ext Y.out).cell
      have d5 := (YB4.out.ext Y.out).cell))
  as_aux_lemma =>
  go_upto_region 16 with (first
   | (have hgd := HCO.out
      go_at_call 59; refine (hgd _ Y.out).mono ?_; rintro e w12 ⟨rfl, hx⟩; clear hgd HCO; replace B12 := Hd (B12.out.ext hx); replace B14 := Hd (B14.out.ext hx); have y2 := Y.out.tr hx; clear Y hx; have Y := Hd y2; clear y2; clear d9 d10 d4 d5; have d9 := (B9.out.ext Y.out).cell; have d10 := (B10.out.ext Y.out).cell; have d4 := (XB4.out.ext Y.out).cell
      have d5 := (YB4.out.ext Y.out).cell)
   | (have hgd := HRO.out
      go_at_call 60; refine (hgd _ Y.out).mono ?_; rintro e w13 ⟨rfl, hx⟩; clear hgd HRO; replace B12 := Hd (B12.out.ext hx); replace B14 := Hd (B14.out.ext hx); have y2 := Y.out.tr hx; clear Y hx; have Y := Hd y2; clear y2; clear d9 d10 d4 d5; have d9 := (B9.out.ext Y.out).cell; have d10 := (B10.out.ext Y.out).cell; have d4 := (XB4.out.ext Y.out).cell
      have d5 := (YB4.out.ext Y.out).cell))
  as_aux_lemma =>
  go_upto_region 17 with (first
   | (have hgd := HPG.out
      go_at_call 27; refine (hgd _ Y.out).mono ?_; rintro e w14 ⟨v1, rfl, h1, ho1, hx⟩; clear hgd HPG; obtain ⟨a5, c5, rfl, _⟩ := h1.form; have yl := Y.out.size; replace B12 := Hd (B12.out.ext hx); replace B14 := Hd (B14.out.ext hx); have y2 := Y.out.tr hx; clear Y hx; have Y := Hd y2; clear y2; clear d9 d10 d4 d5; have d9 := (B9.out.ext Y.out).cell; have d10 := (B10.out.ext Y.out).cell; have d4 := (XB4.out.ext Y.out).cell; have d5 := (YB4.out.ext Y.out).cell; have o1 := owns_weak ho1 yl; clear yl ho1; have U1 := Hd h1; have O1 := Hd o1
      clear h1 o1)
   | (with_reducible refine wpList_storeK (ty := 38) (cells := #[.int .i64 PS.drive, .bool PS.folder, .slice a5 PS.units.length c5, .int .i64 PS.fresh]) rfl rfl B12.out ?_ ?_ ?_ ?_ ?_ ?_
      rfl; rfl; kernel_rfl; rfl; simp [Value.oneCell']; rintro w15 hb ho; have y2 := Y.out.then_only ho (fun k (e : k = b12) => by rw [e]; exact L12.out); have u1 := U1.out.only ho (owns_ne' O1.out B12.out (by decide)); have o1 := owns_only O1.out ho (owns_ne' O1.out B12.out (by decide)); have b14' := B14.out.only ho (fun e => absurd (blk_ty B14.out (e ▸ B12.out)) (by decide)); clear Y U1 O1 B14 B12 ho; have Y := Hd y2; have U1 := Hd u1; have O1 := Hd o1; have B14 := Hd b14'; have B12 := Hd hb; clear y2 u1 o1 b14' hb; clear d9 d10 d4 d5; have d9 := (B9.out.ext Y.out).cell; have d10 := (B10.out.ext Y.out).cell; have d4 := (XB4.out.ext Y.out).cell
      have d5 := (YB4.out.ext Y.out).cell))
  as_aux_lemma =>
  go_upto_region 18 with (first
   | (have hgd := HRP.out
      go_at_call 41; refine (hgd _ Y.out).mono ?_; rintro e w16 ⟨v3, rfl, h1, hx, how⟩; clear hgd HRP; obtain ⟨a6, c6, rfl, _⟩ := h1.form
      have hne : 0 < PS.units.length → ∀ b, (Value.slice a6 PS.units.length c6).ownBlock = some b → ¬ b = b14 := fun h0 b hb e => by
       have h1 := L14.out; have h2 := B14.out.lt; have h3 := LX.out
       rcases how b hb with h | h
       · have h4 := HIN.out (HPS.out.2 h0) b h
         omega
       omega
      have o1 := owns_ext O1.out hx; clear O1 how; have O1 := Hd o1; clear o1; replace U1 := Hd (U1.out.ext hx); replace B12 := Hd (B12.out.ext hx); replace B14 := Hd (B14.out.ext hx); have y2 := Y.out.tr hx; clear Y hx; have Y := Hd y2; clear y2; clear d9 d10 d4 d5; have d9 := (B9.out.ext Y.out).cell; have d10 := (B10.out.ext Y.out).cell; have d4 := (XB4.out.ext Y.out).cell; have d5 := (YB4.out.ext Y.out).cell; have U2 := Hd h1; have NE := Hd hne
      clear h1 hne)
   | (with_reducible refine wpList_storeK (ty := 27) (cells := #[.int .i64 PS.drive, .bool PS.folder, .slice a6 PS.units.length c6, .int .i64 PS.fresh]) rfl rfl B14.out ?_ ?_ ?_ ?_ ?_ ?_
      rfl; rfl; kernel_rfl; rfl; simp [Value.oneCell']; rintro wg hb ho; have y2 := Y.out.then_only ho (fun k (e : k = b14) => by rw [e]; exact L14.out); have u1 := U1.out.only ho (owns_ne' O1.out B14.out (by decide)); have o1 := owns_only O1.out ho (owns_ne' O1.out B14.out (by decide)); have u2 := U2.out.only0 ho NE.out; have b12' := B12.out.only ho (fun e => absurd (blk_ty B12.out (e ▸ B14.out)) (by decide)); clear Y U1 O1 U2 NE B14 B12 ho; have Y := Hd y2; have U1 := Hd u1; have O1 := Hd o1; have U2 := Hd u2; have B12 := Hd b12'; have B14 := Hd hb; clear y2 u1 o1 u2 b12' hb; clear d9 d10 d4 d5; have d9 := (B9.out.ext Y.out).cell; have d10 := (B10.out.ext Y.out).cell; have d4 := (XB4.out.ext Y.out).cell; have d5 := (YB4.out.ext Y.out).cell; have d12 := B12.out.cell
      have d14 := B14.out.cell))
  have hs1 := fun W (k : Ext wg W) => same_eq PS (.slice a5 PS.units.length c5) (.slice a6 PS.units.length c6) W (U1.out.ext k) (U2.out.ext k); unfold sV at hs1; have HS1 := Hd hs1; clear hs1; clear U1 U2 O1
  as_aux_lemma =>
  go_upto_region 20 with (first
   | (have hgd := HS1.out
      go_at_call 23; refine (hgd _ (Below.refl _ _)).mono ?_; rintro e wh ⟨rfl, hx⟩; clear hgd HS1 d12 d14; replace B12 := Hd (B12.out.ext hx); replace B14 := Hd (B14.out.ext hx); have y2 := Y.out.tr hx; clear Y hx; have Y := Hd y2; clear y2; clear d9 d10 d4 d5; have d9 := (B9.out.ext Y.out).cell; have d10 := (B10.out.ext Y.out).cell; have d4 := (XB4.out.ext Y.out).cell
      have d5 := (YB4.out.ext Y.out).cell)
   | (have hgd := HSA.out
      go_at_call 12; refine (hgd _ Y.out).mono ?_; rintro e wi ⟨rfl, hx⟩; clear hgd HSA; replace B12 := Hd (B12.out.ext hx); replace B14 := Hd (B14.out.ext hx); have y2 := Y.out.tr hx; clear Y hx; have Y := Hd y2; clear y2; clear d9 d10 d4 d5; have d9 := (B9.out.ext Y.out).cell; have d10 := (B10.out.ext Y.out).cell; have d4 := (XB4.out.ext Y.out).cell
      have d5 := (YB4.out.ext Y.out).cell))
  by_cases h0 : 0 < nl
  {
  have hl0 : 0 < l.length := (by rw [HNL.out]; exact h0); have i1 : (0:Int) < (nl:Int) := by omega
  obtain ⟨bc, oc, hvc, hcc⟩ : ∃ b o, vc = some ⟨b, o, none⟩ ∧ (w4.cell? ⟨b, o, none⟩ = some (.int .i64 l[0].1) ∧ w4.cell? ⟨b, o + 1, none⟩ = some (.int .i64 l[0].2)) := by
   obtain ⟨_, a1, c1, h1, h2⟩ := HCA.out; obtain ⟨b, o, h3, h4⟩ := h2 hl0; have e1 : vc = a1 := (by injection h1); refine ⟨b, o, e1.trans h3, ?_⟩; have := h4 0 hl0
   simpa using this
  obtain ⟨bl, ol, hvl, hcl⟩ : ∃ b o, al = some ⟨b, o, none⟩ ∧ (w4.cell? ⟨b, o, none⟩ = some (.int .i64 l[0].1) ∧ w4.cell? ⟨b, o + 1, none⟩ = some (.int .i64 l[0].2)) := by
   obtain ⟨_, a1, c1, h1, h2⟩ := HV.out.ext X.out; obtain ⟨b, o, h3, h4⟩ := h2 hl0; have e1 : al = a1 := (by injection h1); refine ⟨b, o, e1.trans h3, ?_⟩; have := h4 0 hl0
   simpa using this
  have hki := HK.out l[0] (List.getElem_mem hl0); obtain ⟨⟨ak, ax⟩, hq⟩ : ∃ q, l[0] = q := ⟨_, rfl⟩; rw [hq] at hcc hcl hki; have hdo := fun W (k : Ext w4 W) => HDO.out (ak, ax) hki W k; have hrd := fun W (k : Ext w4 W) => HRD.out (ak, ax) W k; dsimp only at hdo hrd hcc hcl; have hds := units_small (p := p) (s := s) (k := ak) (x := ax) hl6; obtain ⟨DS, hDS⟩ : ∃ E, doS p s ak ax = E := ⟨_, rfl⟩; obtain ⟨DE, hDE⟩ : ∃ E, doErr p s ak ax = E := ⟨_, rfl⟩; rw [hDS, hDE] at hdo hrd; rw [hDS] at hds; obtain ⟨g1, g2⟩ := hcc; obtain ⟨g3, g4⟩ := hcl; clear hDS hDE hq hki HDO HRD; subst hvc; subst hvl; have HDO := Hd hdo; have HRD := Hd hrd; have HDS := Hd hds; have G1 := Hd g1; have G2 := Hd g2; have G3 := Hd g3; have G4 := Hd g4; clear hdo hrd hds g1 g2 g3 g4
  as_aux_lemma =>
  go_upto_region 21 with (fail)
  clear d9 d10 d4 d5
  have hSP : ∀ W, Ext wi W → ((∀ j, W.cell? ⟨b9, j, none⟩ = (#[.slice va nj ca, .int .i64 p.warm, .int .i64 p.tail, .int .i64 p.dirt] : Array Value)[j]?) ∧ (∀ j, W.cell? ⟨b10, j, none⟩ = (#[.int .i64 s.drive, .bool s.folder, .slice vb nu cb, .int .i64 s.fresh] : Array Value)[j]?) ∧ (W.cell? ⟨bc, oc, none⟩ = some (.int .i64 ak) ∧ W.cell? ⟨bc, oc + 1, none⟩ = some (.int .i64 ax))) := fun W hx =>
   ⟨(B9.out.ext (Y.out.tr hx)).cell, (B10.out.ext (Y.out.tr hx)).cell, (Y.out.tr hx).cellSome G1.out, (Y.out.tr hx).cellSome G2.out⟩
  have HS := Hd hSP; clear hSP
  go_cut [22, 23] (fun v1 v2 W => ∃ b22 a9 c9, v1 = .pointer (some ⟨b22, 0, none⟩) ∧ v2 = .int .i64 DE ∧ Hid (Blk W b22 #[.int .i64 DS.drive, .bool DS.folder, .slice a9 DS.units.length c9, .int .i64 DS.fresh] 38) ∧ Hid (UnIn W (.slice a9 DS.units.length c9) DS.units) ∧ Hid (W.ownsRow w4.heap.size 82 5 (.slice a9 DS.units.length c9) DS.units.length (uL DS.units)) ∧ Hid (Ext wi W))
  case first =>
   as_aux_lemma =>
   have xd : Ext wi wi.drew := (Below.refl _ wi).drew; refine wp_region_K (fun wx => (∀ j, wx.cell? ⟨b9, j, none⟩ = (#[.slice va nj ca, .int .i64 p.warm, .int .i64 p.tail, .int .i64 p.dirt] : Array Value)[j]?) ∧ (∀ j, wx.cell? ⟨b10, j, none⟩ = (#[.int .i64 s.drive, .bool s.folder, .slice vb nu cb, .int .i64 s.fresh] : Array Value)[j]?) ∧ (wx.cell? ⟨bc, oc, none⟩ = some (.int .i64 ak) ∧ wx.cell? ⟨bc, oc + 1, none⟩ = some (.int .i64 ax))) 10 (by kernel_rfl) (HS.out _ xd) (fun kh => ?_); generalize wi.drew = wA at *; have XC := Hd xd; clear xd; refine kX 2 kh ?_; simp only [kS]; refine kX 3 kh ?_; simp only [kS]; refine kX 0 kh ?_; simp only [kS]; refine kX 1 kh ?_; simp only [kS]; refine kX 4 kh ?_; simp only [kS]; apply shareK
   case' h => intro k5_8_9_10
   apply shareK
   case' h => intro k5_8_9
   apply shareK
   case' h => intro k5_9_10
   apply shareK
   case' h => intro k5_8
   apply shareK
   case' h => intro k5_9
   apply shareK
   case' h => intro k5
   apply shareK
   case' h => intro k9
   {
   refine rK [5, 9] ?_; refine xK 5 (fun K hK => ?_) ?_
   { refine cK #[.agg #[.slice va nj ca, .int .i64 p.warm, .int .i64 p.tail, .int .i64 p.dirt], .agg #[.int .i64 s.drive, .bool s.folder, .slice vb nu cb, .int .i64 s.fresh], .agg #[.int .i64 ak, .int .i64 ax]] Tryz.func61 (HDO.out _ (Y.out.tr XC.out)) ?_; rintro e wy ⟨v6, rfl, hv6, how, hx⟩; obtain ⟨a9, c9, rfl, -⟩ := hv6.form; refine ⟨_, rfl, ?_⟩; have OW := Hd (owns_weak how (Y.out.tr XC.out).size); have UV := Hd hv6; (try (replace NB := Hd (NB.out.ext hx))); replace XC := Hd (XC.out.tr hx); clear hx hv6 how; refine kG hK (HS.out _ XC.out) fun kh => ?_; (try simp only [kS]); refine kX 6 kh ?_; simp only [kS]; refine kX 7 kh ?_; simp only [kS]; (try clear kh); revert UV; revert OW; revert c9; revert a9; revert XC; revert wy; exact k5.out }
   refine xK 9 (fun K hK => ?_) ?_
   { refine step_allocA (t := 38) rfl rfl Tryz.zeroValue38 ?_; intro b22 wy hb hx hl; have LNB := Hd (Nat.le_trans (Y.out.tr XC.out).size hl); have NB := Hd hb; have LNX := Hd (Nat.le_trans XC.out.size hl); (try (replace OW := Hd (owns_ext OW.out hx))); (try (replace UV := Hd (UV.out.ext hx))); clear hb hl; replace XC := Hd (XC.out.tr hx); clear hx; refine kG hK (HS.out _ XC.out) fun kh => ?_; (try simp only [kS]); (try clear kh); revert LNX; revert NB; revert LNB; revert b22; revert XC; revert wy; exact k9.out }
   exact nK
   }
   {
   intro wy XC b22 LNB NB LNX; refine rK [5] ?_; refine xK 5 (fun K hK => ?_) ?_
   { refine cK #[.agg #[.slice va nj ca, .int .i64 p.warm, .int .i64 p.tail, .int .i64 p.dirt], .agg #[.int .i64 s.drive, .bool s.folder, .slice vb nu cb, .int .i64 s.fresh], .agg #[.int .i64 ak, .int .i64 ax]] Tryz.func61 (HDO.out _ (Y.out.tr XC.out)) ?_; rintro e wy ⟨v6, rfl, hv6, how, hx⟩; obtain ⟨a9, c9, rfl, -⟩ := hv6.form; refine ⟨_, rfl, ?_⟩; have OW := Hd (owns_weak how (Y.out.tr XC.out).size); have UV := Hd hv6; (try (replace NB := Hd (NB.out.ext hx))); replace XC := Hd (XC.out.tr hx); clear hx hv6 how; refine kG hK (HS.out _ XC.out) fun kh => ?_; (try simp only [kS]); refine kX 6 kh ?_; simp only [kS]; refine kX 7 kh ?_; simp only [kS]; (try clear kh); revert LNX; revert NB; revert LNB; revert b22; revert UV; revert OW; revert c9; revert a9; revert XC; revert wy; exact k5_9.out }
   exact nK
   }
   {
   intro wy XC a9 c9 OW UV; refine rK [8, 9] ?_; refine xK 8 (fun K hK => ?_) ?_
   { go_simp; refine kG hK (HS.out _ XC.out) fun kh => ?_; (try simp only [kS]); (try clear kh); revert UV; revert OW; revert c9; revert a9; revert XC; revert wy; exact k5_8.out }
   refine xK 9 (fun K hK => ?_) ?_
   { refine step_allocA (t := 38) rfl rfl Tryz.zeroValue38 ?_; intro b22 wy hb hx hl; have LNB := Hd (Nat.le_trans (Y.out.tr XC.out).size hl); have NB := Hd hb; have LNX := Hd (Nat.le_trans XC.out.size hl); (try (replace OW := Hd (owns_ext OW.out hx))); (try (replace UV := Hd (UV.out.ext hx))); clear hb hl; replace XC := Hd (XC.out.tr hx); clear hx; refine kG hK (HS.out _ XC.out) fun kh => ?_; (try simp only [kS]); (try clear kh); revert LNX; revert NB; revert LNB; revert b22; revert UV; revert OW; revert c9; revert a9; revert XC; revert wy; exact k5_9.out }
   exact nK
   }
   {
   intro wy XC a9 c9 OW UV b22 LNB NB LNX; refine rK [8, 10] ?_; refine xK 8 (fun K hK => ?_) ?_
   { go_simp; refine kG hK (HS.out _ XC.out) fun kh => ?_; (try simp only [kS]); (try clear kh); revert LNX; revert NB; revert LNB; revert b22; revert UV; revert OW; revert c9; revert a9; revert XC; revert wy; exact k5_8_9.out }
   refine xK 10 (fun K hK => ?_) ?_
   { refine sK #[.int .i64 DS.drive, .bool DS.folder, .slice a9 DS.units.length c9, .int .i64 DS.fresh] NB.out ?_; intro wy hb ho; have xc := XC.out.then_only ho (fun b (e : b = b22) => by rw [e]; exact LNX.out); have ow := owns_only OW.out ho (owns_ne' OW.out NB.out (by decide)); have uv := UV.out.only ho (owns_ne' OW.out NB.out (by decide)); clear OW UV NB XC ho; have OW := Hd ow; have UV := Hd uv; have NB := Hd hb; have XC := Hd xc; clear ow uv hb xc; refine kH hK rfl ?_; (try clear kh); (try simp only [kS]); (try clear kh); revert LNX; revert NB; revert LNB; revert b22; revert UV; revert OW; revert c9; revert a9; revert XC; revert wy; exact k5_9_10.out }
   exact nK
   }
   {
   intro wy XC a9 c9 OW UV; refine rK [9] ?_; refine xK 9 (fun K hK => ?_) ?_
   { refine step_allocA (t := 38) rfl rfl Tryz.zeroValue38 ?_; intro b22 wy hb hx hl; have LNB := Hd (Nat.le_trans (Y.out.tr XC.out).size hl); have NB := Hd hb; have LNX := Hd (Nat.le_trans XC.out.size hl); (try (replace OW := Hd (owns_ext OW.out hx))); (try (replace UV := Hd (UV.out.ext hx))); clear hb hl; replace XC := Hd (XC.out.tr hx); clear hx; refine kG hK (HS.out _ XC.out) fun kh => ?_; (try simp only [kS]); (try clear kh); revert LNX; revert NB; revert LNB; revert b22; revert UV; revert OW; revert c9; revert a9; revert XC; revert wy; exact k5_8_9.out }
   exact nK
   }
   {
   intro wy XC a9 c9 OW UV b22 LNB NB LNX; refine rK [8] ?_; refine xK 8 (fun K hK => ?_) ?_
   { go_simp; refine kG hK (HS.out _ XC.out) fun kh => ?_; (try simp only [kS]); (try clear kh); revert LNX; revert NB; revert LNB; revert b22; revert UV; revert OW; revert c9; revert a9; revert XC; revert wy; exact k5_8_9_10.out }
   exact nK
   }
   {
   intro wy XC a9 c9 OW UV b22 LNB NB LNX; refine rK [10] ?_; refine xK 10 (fun K hK => ?_) ?_
   { refine sK #[.int .i64 DS.drive, .bool DS.folder, .slice a9 DS.units.length c9, .int .i64 DS.fresh] NB.out ?_; intro wy hb ho; have xc := XC.out.then_only ho (fun b (e : b = b22) => by rw [e]; exact LNX.out); have ow := owns_only OW.out ho (owns_ne' OW.out NB.out (by decide)); have uv := UV.out.only ho (owns_ne' OW.out NB.out (by decide)); clear OW UV NB XC ho; have OW := Hd ow; have UV := Hd uv; have NB := Hd hb; have XC := Hd xc; clear ow uv hb xc; refine kH hK rfl ?_; (try clear kh); (try simp only [kS]); (try clear kh); revert LNX; revert NB; revert LNB; revert b22; revert UV; revert OW; revert c9; revert a9; revert XC; revert wy; exact k5_8_9_10.out }
   exact nK
   }
   {
   intro wy XC a9 c9 OW UV b22 LNB NB LNX; refine rK [11] ?_; refine xK 11 (fun K hK => ?_) ?_
   {
   go_simp; refine kH hK rfl ?_; (try clear kh); (try simp only [kS]); refine dK ?_ _; go_wp2; go_meet
   case rel => exact ⟨b22, a9, c9, rfl, rfl, NB, UV, OW, XC⟩
   }
   exact nK
   }
  case rest =>
  obtain ⟨b22, a9, c9, rfl, rfl, B22, U9, O9, XC⟩ := hcut; obtain ⟨w40, rfl⟩ : ∃ W, W = wc := ⟨wc, rfl⟩; have hx := XC.out; replace B12 := Hd (B12.out.ext hx); replace B14 := Hd (B14.out.ext hx); have y2 := Y.out.tr hx; clear Y hx XC HS; have Y := Hd y2; clear y2; clear i1
  as_aux_lemma =>
  go_upto_region 22 with (fail)
  have hSR : ∀ W, Ext w40 W → ((∀ j, W.cell? ⟨xb, j, none⟩ = (#[.slice aj nj cj, .int .i64 p.warm, .int .i64 p.tail, .int .i64 p.dirt] : Array Value)[j]?) ∧ (∀ j, W.cell? ⟨yb, j, none⟩ = (#[.int .i64 s.drive, .bool s.folder, .slice au nu cu, .int .i64 s.fresh] : Array Value)[j]?) ∧ (W.cell? ⟨bl, ol, none⟩ = some (.int .i64 ak) ∧ W.cell? ⟨bl, ol + 1, none⟩ = some (.int .i64 ax))) := fun W hx =>
   ⟨(XB4.out.ext (Y.out.tr hx)).cell, (YB4.out.ext (Y.out.tr hx)).cell, (Y.out.tr hx).cellSome G3.out, (Y.out.tr hx).cellSome G4.out⟩
  have HS := Hd hSR; clear hSR
  go_cut [24, 25] (fun v1 v2 W => ∃ b24 a10 c10, v1 = .pointer (some ⟨b24, 0, none⟩) ∧ v2 = .int .i64 DE ∧ Hid (Blk W b24 #[.int .i64 DS.drive, .bool DS.folder, .slice a10 DS.units.length c10, .int .i64 DS.fresh] 27) ∧ Hid (UnIn W (.slice a10 DS.units.length c10) DS.units) ∧ Hid (Ext w40 W))
  case first =>
   as_aux_lemma =>
   have xd : Ext w40 w40.drew := (Below.refl _ w40).drew; refine wp_region_K (fun wx => (∀ j, wx.cell? ⟨xb, j, none⟩ = (#[.slice aj nj cj, .int .i64 p.warm, .int .i64 p.tail, .int .i64 p.dirt] : Array Value)[j]?) ∧ (∀ j, wx.cell? ⟨yb, j, none⟩ = (#[.int .i64 s.drive, .bool s.folder, .slice au nu cu, .int .i64 s.fresh] : Array Value)[j]?) ∧ (wx.cell? ⟨bl, ol, none⟩ = some (.int .i64 ak) ∧ wx.cell? ⟨bl, ol + 1, none⟩ = some (.int .i64 ax))) 10 (by kernel_rfl) (HS.out _ xd) (fun kh => ?_); generalize w40.drew = wA at *; have XC := Hd xd; clear xd; refine kX 2 kh ?_; simp only [kS]; refine kX 3 kh ?_; simp only [kS]; refine kX 0 kh ?_; simp only [kS]; refine kX 1 kh ?_; simp only [kS]; refine kX 4 kh ?_; simp only [kS]; apply shareK
   case' h => intro k5_8_9_10
   apply shareK
   case' h => intro k5_8_9
   apply shareK
   case' h => intro k5_9_10
   apply shareK
   case' h => intro k5_8
   apply shareK
   case' h => intro k5_9
   apply shareK
   case' h => intro k5
   apply shareK
   case' h => intro k9
   {
   refine rK [5, 9] ?_; refine xK 5 (fun K hK => ?_) ?_
   { refine cK #[.agg #[.slice aj nj cj, .int .i64 p.warm, .int .i64 p.tail, .int .i64 p.dirt], .agg #[.int .i64 s.drive, .bool s.folder, .slice au nu cu, .int .i64 s.fresh], .agg #[.int .i64 ak, .int .i64 ax]] Tryz.func62 (HRD.out _ (Y.out.tr XC.out)) ?_; rintro e wy ⟨v6, rfl, hv6, hx, how⟩; obtain ⟨a10, c10, rfl, -⟩ := hv6.form; refine ⟨_, rfl, ?_⟩; (try (have NE : Hid (0 < DS.units.length → ∀ b, (Value.slice a10 DS.units.length c10).ownBlock = some b → ¬ b = b24) := Hd (fun h b hb e => by have h1 := how b hb; have h2 := NB.out.lt; omega))); have UV := Hd hv6; (try (replace NB := Hd (NB.out.ext hx))); replace XC := Hd (XC.out.tr hx); clear hx hv6 how; refine kG hK (HS.out _ XC.out) fun kh => ?_; (try simp only [kS]); refine kX 6 kh ?_; simp only [kS]; refine kX 7 kh ?_; simp only [kS]; (try clear kh); revert UV; revert c10; revert a10; revert XC; revert wy; exact k5.out }
   refine xK 9 (fun K hK => ?_) ?_
   { refine step_allocA (t := 27) rfl rfl Tryz.zeroValue27 ?_; intro b24 wy hb hx hl; have LNB := Hd (Nat.le_trans (Y.out.tr XC.out).size hl); have NB := Hd hb; have LNX := Hd (Nat.le_trans XC.out.size hl); (try (have NE : Hid (0 < DS.units.length → ∀ b, (Value.slice a10 DS.units.length c10).ownBlock = some b → ¬ b = b24) := Hd (fun h b hb e => by have h1 := UV.out.lt h b hb; omega))); (try (replace UV := Hd (UV.out.ext hx))); clear hb hl; replace XC := Hd (XC.out.tr hx); clear hx; refine kG hK (HS.out _ XC.out) fun kh => ?_; (try simp only [kS]); (try clear kh); revert LNX; revert NB; revert LNB; revert b24; revert XC; revert wy; exact k9.out }
   exact nK
   }
   {
   intro wy XC b24 LNB NB LNX; refine rK [5] ?_; refine xK 5 (fun K hK => ?_) ?_
   { refine cK #[.agg #[.slice aj nj cj, .int .i64 p.warm, .int .i64 p.tail, .int .i64 p.dirt], .agg #[.int .i64 s.drive, .bool s.folder, .slice au nu cu, .int .i64 s.fresh], .agg #[.int .i64 ak, .int .i64 ax]] Tryz.func62 (HRD.out _ (Y.out.tr XC.out)) ?_; rintro e wy ⟨v6, rfl, hv6, hx, how⟩; obtain ⟨a10, c10, rfl, -⟩ := hv6.form; refine ⟨_, rfl, ?_⟩; (try (have NE : Hid (0 < DS.units.length → ∀ b, (Value.slice a10 DS.units.length c10).ownBlock = some b → ¬ b = b24) := Hd (fun h b hb e => by have h1 := how b hb; have h2 := NB.out.lt; omega))); have UV := Hd hv6; (try (replace NB := Hd (NB.out.ext hx))); replace XC := Hd (XC.out.tr hx); clear hx hv6 how; refine kG hK (HS.out _ XC.out) fun kh => ?_; (try simp only [kS]); refine kX 6 kh ?_; simp only [kS]; refine kX 7 kh ?_; simp only [kS]; (try clear kh); revert NE; revert LNX; revert NB; revert LNB; revert b24; revert UV; revert c10; revert a10; revert XC; revert wy; exact k5_9.out }
   exact nK
   }
   {
   intro wy XC a10 c10 UV; refine rK [8, 9] ?_; refine xK 8 (fun K hK => ?_) ?_
   { go_simp; refine kG hK (HS.out _ XC.out) fun kh => ?_; (try simp only [kS]); (try clear kh); revert UV; revert c10; revert a10; revert XC; revert wy; exact k5_8.out }
   refine xK 9 (fun K hK => ?_) ?_
   { refine step_allocA (t := 27) rfl rfl Tryz.zeroValue27 ?_; intro b24 wy hb hx hl; have LNB := Hd (Nat.le_trans (Y.out.tr XC.out).size hl); have NB := Hd hb; have LNX := Hd (Nat.le_trans XC.out.size hl); (try (have NE : Hid (0 < DS.units.length → ∀ b, (Value.slice a10 DS.units.length c10).ownBlock = some b → ¬ b = b24) := Hd (fun h b hb e => by have h1 := UV.out.lt h b hb; omega))); (try (replace UV := Hd (UV.out.ext hx))); clear hb hl; replace XC := Hd (XC.out.tr hx); clear hx; refine kG hK (HS.out _ XC.out) fun kh => ?_; (try simp only [kS]); (try clear kh); revert NE; revert LNX; revert NB; revert LNB; revert b24; revert UV; revert c10; revert a10; revert XC; revert wy; exact k5_9.out }
   exact nK
   }
   {
   intro wy XC a10 c10 UV b24 LNB NB LNX NE; refine rK [8, 10] ?_; refine xK 8 (fun K hK => ?_) ?_
   { go_simp; refine kG hK (HS.out _ XC.out) fun kh => ?_; (try simp only [kS]); (try clear kh); revert NE; revert LNX; revert NB; revert LNB; revert b24; revert UV; revert c10; revert a10; revert XC; revert wy; exact k5_8_9.out }
   refine xK 10 (fun K hK => ?_) ?_
   { refine sK #[.int .i64 DS.drive, .bool DS.folder, .slice a10 DS.units.length c10, .int .i64 DS.fresh] NB.out ?_; intro wy hb ho; have xc := XC.out.then_only ho (fun b (e : b = b24) => by rw [e]; exact LNX.out); have uv := UV.out.only0 ho NE.out; clear NE UV NB XC ho; have UV := Hd uv; have NB := Hd hb; have XC := Hd xc; clear uv hb xc; refine kH hK rfl ?_; (try clear kh); (try simp only [kS]); (try clear kh); revert LNX; revert NB; revert LNB; revert b24; revert UV; revert c10; revert a10; revert XC; revert wy; exact k5_9_10.out }
   exact nK
   }
   {
   intro wy XC a10 c10 UV; refine rK [9] ?_; refine xK 9 (fun K hK => ?_) ?_
   { refine step_allocA (t := 27) rfl rfl Tryz.zeroValue27 ?_; intro b24 wy hb hx hl; have LNB := Hd (Nat.le_trans (Y.out.tr XC.out).size hl); have NB := Hd hb; have LNX := Hd (Nat.le_trans XC.out.size hl); (try (have NE : Hid (0 < DS.units.length → ∀ b, (Value.slice a10 DS.units.length c10).ownBlock = some b → ¬ b = b24) := Hd (fun h b hb e => by have h1 := UV.out.lt h b hb; omega))); (try (replace UV := Hd (UV.out.ext hx))); clear hb hl; replace XC := Hd (XC.out.tr hx); clear hx; refine kG hK (HS.out _ XC.out) fun kh => ?_; (try simp only [kS]); (try clear kh); revert NE; revert LNX; revert NB; revert LNB; revert b24; revert UV; revert c10; revert a10; revert XC; revert wy; exact k5_8_9.out }
   exact nK
   }
   {
   intro wy XC a10 c10 UV b24 LNB NB LNX; refine rK [8] ?_; refine xK 8 (fun K hK => ?_) ?_
   { go_simp; refine kG hK (HS.out _ XC.out) fun kh => ?_; (try simp only [kS]); (try clear kh); revert LNX; revert NB; revert LNB; revert b24; revert UV; revert c10; revert a10; revert XC; revert wy; exact k5_8_9_10.out }
   exact nK
   }
   {
   intro wy XC a10 c10 UV b24 LNB NB LNX NE; refine rK [10] ?_; refine xK 10 (fun K hK => ?_) ?_
   { refine sK #[.int .i64 DS.drive, .bool DS.folder, .slice a10 DS.units.length c10, .int .i64 DS.fresh] NB.out ?_; intro wy hb ho; have xc := XC.out.then_only ho (fun b (e : b = b24) => by rw [e]; exact LNX.out); have uv := UV.out.only0 ho NE.out; clear NE UV NB XC ho; have UV := Hd uv; have NB := Hd hb; have XC := Hd xc; clear uv hb xc; refine kH hK rfl ?_; (try clear kh); (try simp only [kS]); (try clear kh); revert LNX; revert NB; revert LNB; revert b24; revert UV; revert c10; revert a10; revert XC; revert wy; exact k5_8_9_10.out }
   exact nK
   }
   {
   intro wy XC a10 c10 UV b24 LNB NB LNX; refine rK [11] ?_; refine xK 11 (fun K hK => ?_) ?_
   {
   go_simp; refine kH hK rfl ?_; (try clear kh); (try simp only [kS]); refine dK ?_ _; go_wp2; go_meet
   case rel => exact ⟨b24, a10, c10, rfl, rfl, NB, UV, XC⟩
   }
   exact nK
   }
  case rest =>
  obtain ⟨b24, a10, c10, rfl, rfl, B24, U10, XC⟩ := hcut; obtain ⟨w41, rfl⟩ : ∃ W, W = wc := ⟨wc, rfl⟩; have hx := XC.out; replace B12 := Hd (B12.out.ext hx); replace B14 := Hd (B14.out.ext hx); replace B22 := Hd (B22.out.ext hx); replace U9 := Hd (U9.out.ext hx); have o9 := owns_ext O9.out hx; have y2 := Y.out.tr hx; clear Y hx XC HS O9; have Y := Hd y2; have O9 := Hd o9; clear y2 o9
  as_aux_lemma =>
  have hs1 := fun W (k : Ext w41 W) => same_eq DS (.slice a9 DS.units.length c9) (.slice a10 DS.units.length c10) W (U9.out.ext k) (U10.out.ext k); unfold sV at hs1; clear U9 U10; have d22 := B22.out.cell; have d24 := B24.out.cell; have HS1 := Hd hs1; clear hs1
  go_upto_region 26 with (
   (have hgd := HS1.out
    go_at_call 23; refine (hgd _ (Below.refl _ _)).mono ?_; rintro e w42 ⟨rfl, hx⟩; clear hgd HS1 d22 d24 B24; replace B12 := Hd (B12.out.ext hx); replace B14 := Hd (B14.out.ext hx); replace B22 := Hd (B22.out.ext hx); have o9 := owns_ext O9.out hx; have y2 := Y.out.tr hx; clear Y hx O9; have Y := Hd y2; have O9 := Hd o9
    clear y2 o9))
  go_loopw [26] (fun t26 wr => ∃ (k : Nat) (xs : List Value), k ≤ DS.units.length ∧ t26 = .int .i64 k ∧ Hid (wr.ownsRow w4.heap.size 82 5 (.slice a9 DS.units.length c9) DS.units.length xs) ∧ Hid (Blk wr b22 #[.int .i64 DS.drive, .bool DS.folder, .slice a9 DS.units.length c9, .int .i64 DS.fresh] 38) ∧ Hid (Blk wr b12 #[.int .i64 PS.drive, .bool PS.folder, .slice a5 PS.units.length c5, .int .i64 PS.fresh] 38) ∧ Hid (Blk wr b14 #[.int .i64 PS.drive, .bool PS.folder, .slice a6 PS.units.length c6, .int .i64 PS.fresh] 27) ∧ Hid (Ext w4 wr)) (fun t26 _ => DS.units.length - (intOf t26).toNat)
  case atStart => exact ⟨0, uL DS.units, Nat.zero_le _, rfl, O9, B22, B12, B14, Y⟩
  case round =>
   clear O9 B22 B12 B14 Y; obtain ⟨k, xs, hk, rfl, O9, B22, B12, B14, Y⟩ := hrel
   as_aux_lemma =>
   have d22 := B22.out.cell; have hds2 := HDS.out
   by_cases hlt : k < DS.units.length
   {
   obtain ⟨g, c0, cur, hv0, hbk, hroom, hcur⟩ := owns_blkN O9.out (by omega)
   cases hv0
   have lg : w4.heap.size ≤ g := (O9.out.lt g rfl).1; have i1 : (0:Int) ≤ (k:Int) := (by omega); have i2 : (k:Int) < (DS.units.length:Int) := (by omega); clear hcur; have BK := Hd hbk; have LG := Hd lg; clear hbk lg
   go_wp2_with (
    (with_reducible refine wpList_setK (b := g) (i := k * 5 + 4) (v := .int .i64 55) rfl rfl BK.out ?_ ?_ ?_ ?_ ?_ ?_ ?_); rfl; rfl; omega; kernel_rfl; rfl; simp [Value.oneCell']; rintro wS hbS hoS; have o2 := owns_putN O9.out BK.out hbS; have b22' := B22.out.only hoS (fun e => absurd (blk_ty B22.out (e ▸ BK.out)) (by decide)); have b12' := B12.out.only hoS (fun e => absurd (blk_ty B12.out (e ▸ BK.out)) (by decide)); have b14' := B14.out.only hoS (fun e => absurd (blk_ty B14.out (e ▸ BK.out)) (by decide)); have y2 := Y.out.then_only hoS (fun b (e : b = g) => by rw [e]; exact LG.out); clear O9 B22 B12 B14 Y hoS hbS d22; have O9 := Hd o2; have B22 := Hd b22'; have B12 := Hd b12'; have B14 := Hd b14'; have Y := Hd y2
    clear o2 b22' b12' b14' y2)
   go_roundw
   case rel => exact ⟨k + 1, _, by omega, by go_num, O9, B22, B12, B14, Y⟩
   case measure => simp [intOf] <;> omega
   }
   {
   have i2 : decide ((k:Int) < (DS.units.length:Int)) = false := decide_eq_false (by omega)
   go_upto_region 29 with (fail)
   clear d22 i2 B22 O9; have d9 := (B9.out.ext Y.out).cell; have d10 := (B10.out.ext Y.out).cell; have d4 := (XB4.out.ext Y.out).cell; have d5 := (YB4.out.ext Y.out).cell
   as_aux_lemma =>
   go_upto_region 30 with (first
    | (have hgd := HBK.out
       go_at_call 29; refine (hgd _ Y.out).mono ?_; rintro e w20 ⟨v1, rfl, h1, ho1, hx⟩; clear hgd HBK; obtain ⟨a7, c7, rfl, _⟩ := h1.form; have yl := Y.out.size; replace B12 := Hd (B12.out.ext hx); replace B14 := Hd (B14.out.ext hx); have y2 := Y.out.tr hx; clear Y hx; have Y := Hd y2; clear y2; clear d9 d10 d4 d5; have d9 := (B9.out.ext Y.out).cell; have d10 := (B10.out.ext Y.out).cell; have d4 := (XB4.out.ext Y.out).cell; have d5 := (YB4.out.ext Y.out).cell; have o1 := owns_weak ho1 yl; clear yl ho1; have U1 := Hd h1; have O1 := Hd o1
       clear h1 o1)
    | (with_reducible refine wpList_storeK (ty := 38) (cells := #[.int .i64 KS.drive, .bool KS.folder, .slice a7 KS.units.length c7, .int .i64 KS.fresh]) rfl rfl B12.out ?_ ?_ ?_ ?_ ?_ ?_
       rfl; rfl; kernel_rfl; rfl; simp [Value.oneCell']; rintro w21 hb ho; have y2 := Y.out.then_only ho (fun k (e : k = b12) => by rw [e]; exact L12.out); have u1 := U1.out.only ho (owns_ne' O1.out B12.out (by decide)); have o1 := owns_only O1.out ho (owns_ne' O1.out B12.out (by decide)); have b14' := B14.out.only ho (fun e => absurd (blk_ty B14.out (e ▸ B12.out)) (by decide)); clear Y U1 O1 B14 B12 ho; have Y := Hd y2; have U1 := Hd u1; have O1 := Hd o1; have B14 := Hd b14'; have B12 := Hd hb; clear y2 u1 o1 b14' hb; clear d9 d10 d4 d5; have d9 := (B9.out.ext Y.out).cell; have d10 := (B10.out.ext Y.out).cell; have d4 := (XB4.out.ext Y.out).cell
       have d5 := (YB4.out.ext Y.out).cell))
   as_aux_lemma =>
   go_upto_region 31 with (first
    | (have hgd := HRK.out
       go_at_call 63; refine (hgd _ Y.out).mono ?_; rintro e w22 ⟨v3, rfl, h1, hx, how⟩; clear hgd HRK; obtain ⟨a8, c8, rfl, _⟩ := h1.form
       have hne : 0 < KS.units.length → ∀ b, (Value.slice a8 KS.units.length c8).ownBlock = some b → ¬ b = b14 := fun h0 b hb e => by
        have h2 := B14.out.lt; have h3 := how b hb; omega
       have o1 := owns_ext O1.out hx; clear O1 how; have O1 := Hd o1; clear o1; replace U1 := Hd (U1.out.ext hx); replace B12 := Hd (B12.out.ext hx); replace B14 := Hd (B14.out.ext hx); have y2 := Y.out.tr hx; clear Y hx; have Y := Hd y2; clear y2; clear d9 d10 d4 d5; have d9 := (B9.out.ext Y.out).cell; have d10 := (B10.out.ext Y.out).cell; have d4 := (XB4.out.ext Y.out).cell; have d5 := (YB4.out.ext Y.out).cell; have U2 := Hd h1; have NE := Hd hne
       clear h1 hne)
    | (with_reducible refine wpList_storeK (ty := 27) (cells := #[.int .i64 KS.drive, .bool KS.folder, .slice a8 KS.units.length c8, .int .i64 KS.fresh]) rfl rfl B14.out ?_ ?_ ?_ ?_ ?_ ?_
       rfl; rfl; kernel_rfl; rfl; simp [Value.oneCell']; rintro wj hb ho; have y2 := Y.out.then_only ho (fun k (e : k = b14) => by rw [e]; exact L14.out); have u1 := U1.out.only ho (owns_ne' O1.out B14.out (by decide)); have o1 := owns_only O1.out ho (owns_ne' O1.out B14.out (by decide)); have u2 := U2.out.only0 ho NE.out; have b12' := B12.out.only ho (fun e => absurd (blk_ty B12.out (e ▸ B14.out)) (by decide)); clear Y U1 O1 U2 NE B14 B12 ho; have Y := Hd y2; have U1 := Hd u1; have O1 := Hd o1; have U2 := Hd u2; have B12 := Hd b12'; have B14 := Hd hb; clear y2 u1 o1 u2 b12' hb; clear d9 d10 d4 d5; have d9 := (B9.out.ext Y.out).cell; have d10 := (B10.out.ext Y.out).cell; have d4 := (XB4.out.ext Y.out).cell; have d5 := (YB4.out.ext Y.out).cell; have d12 := B12.out.cell
       have d14 := B14.out.cell))
   have hs1 := fun W (k : Ext wj W) => same_eq KS (.slice a7 KS.units.length c7) (.slice a8 KS.units.length c8) W (U1.out.ext k) (U2.out.ext k); unfold sV at hs1; have HS1 := Hd hs1; clear hs1; clear U1 U2
   as_aux_lemma =>
   go_upto_region 34 with (first
    | (have hgd := HS1.out
       go_at_call 23; refine (hgd _ (Below.refl _ _)).mono ?_; rintro e wk ⟨rfl, hx⟩; have o1 := owns_ext O1.out hx; clear hgd HS1 d12 d14 O1; have O1 := Hd o1; clear o1; replace B12 := Hd (B12.out.ext hx); replace B14 := Hd (B14.out.ext hx); have y2 := Y.out.tr hx; clear Y hx; have Y := Hd y2; clear y2; clear d9 d10 d4 d5; have d9 := (B9.out.ext Y.out).cell; have d10 := (B10.out.ext Y.out).cell; have d4 := (XB4.out.ext Y.out).cell
       have d5 := (YB4.out.ext Y.out).cell))
   as_aux_lemma =>
   clear d9 d10 d4 d5 B14 L14; have l12b := B12.out.lt; have LB12 := Hd l12b; clear l12b
   go_loopw [27] (fun t27 wr => ∃ (k : Nat) (xs : List Value), k ≤ KS.units.length ∧ t27 = .int .i64 k ∧ Hid (∀ j, k ≤ j → j < KS.units.length → ∃ b, xs[j * 5 + 2]? = some (.bool b)) ∧ Hid (wr.ownsRow w4.heap.size 82 5 (.slice a7 KS.units.length c7) KS.units.length xs) ∧ Hid (Blk wr b12 #[.int .i64 KS.drive, .bool KS.folder, .slice a7 KS.units.length c7, .int .i64 KS.fresh] 38) ∧ Hid (Ext w4 wr)) (fun t27 _ => KS.units.length - (intOf t27).toNat)
   case atStart => exact ⟨0, uL KS.units, Nat.zero_le _, rfl, fun j _ h => uL_bool _ _ h, O1, B12, Y⟩
   case round =>
    clear O1 B12 Y; obtain ⟨k, xs, hk, rfl, HBO, O1, B12, Y⟩ := hrel
    as_aux_lemma =>
    have d12 := B12.out.cell; have hks2 := HKS.out
    by_cases hlt : k < KS.units.length
    {
    obtain ⟨g, c0, cur, hv0, hbk, hroom, hcur⟩ := owns_blkN O1.out (by omega)
    cases hv0
    obtain ⟨bv, hbv⟩ := HBO.out k (Nat.le_refl _) hlt; have dk : wr.cell? ⟨g, k * 5 + 2, none⟩ = some (.bool bv) := owns_at O1.out rfl _ _ hbv; have fr := hbk.free; have ngb : ¬ g = b12 := fun e => absurd (blk_ty B12.out (e ▸ hbk)) (by decide); have lg : w4.heap.size ≤ g := (O1.out.lt g rfl).1; have i1 : (0:Int) ≤ (k:Int) := (by omega); have i2 : (k:Int) < (KS.units.length:Int) := (by omega); clear hcur hbv; have BK := Hd hbk; have NGB := Hd ngb; have LG := Hd lg; clear hbk ngb lg
    go_upto_region 36 with (fail)
    go_region
    have B1 := blk_set BK.out (k * 5 + 2) (.bool (!bv)); have O2 := owns_putN O1.out BK.out B1; have hd : ∀ W : World, Ext W W.drew := fun W => (Below.refl _ W).drew; have ho := (Only.set (S := fun b => b = g) wr ⟨g, k * 5 + 2, none⟩ (.bool (!bv)) rfl).tr (Only.of_ext (hd _)); have O3 := owns_ext O2 (hd _); have b12' := B12.out.only ho (fun e => NGB.out e.symm); have y2 := Y.out.then_only ho (fun b (e : b = g) => by rw [e]; exact LG.out)
    have hbo : ∀ j, k + 1 ≤ j → j < KS.units.length → ∃ b, (xs.set (k * 5 + 2) (.bool (!bv)))[j * 5 + 2]? = some (.bool b) := fun j h1 h2 => by
     rw [List.getElem?_set_ne (by omega)]; exact HBO.out j (by omega) h2
    clear B1 O1 O2 dk fr d12 ho B12 Y HBO BK; generalize World.drew _ = wz at *; clear hd; have O4 := Hd O3; have B13 := Hd b12'; have Y2 := Hd y2; have HBO2 := Hd hbo; clear O3 b12' y2 hbo; go_wp2
    go_roundw
    case rel => exact ⟨k + 1, _, by omega, by go_num, HBO2, O4, B13, Y2⟩
    case measure => simp [intOf] <;> omega
    }
    {
    have i2 : decide ((k:Int) < (KS.units.length:Int)) = false := decide_eq_false (by omega); clear d12; have d9 := (B9.out.ext Y.out).cell; have d10 := (B10.out.ext Y.out).cell; have d4 := (XB4.out.ext Y.out).cell; have d5 := (YB4.out.ext Y.out).cell; have d12 := B12.out.cell
    go_wp2_with (first
     | (have hgd := HSM.out
        go_at_call 23; refine (hgd _ Y.out).mono ?_; rintro e w30 ⟨rfl, hx⟩; clear hgd HSM d12; have y2 := Y.out.tr hx; clear Y hx; have Y := Hd y2; clear y2; clear d9 d10 d4 d5; have d9 := (B9.out.ext Y.out).cell; have d10 := (B10.out.ext Y.out).cell; have d4 := (XB4.out.ext Y.out).cell
        have d5 := (YB4.out.ext Y.out).cell)
     | (have hgd := HST.out
        go_at_call 22; refine (hgd _ Y.out).mono ?_; rintro e w31 ⟨rfl, hx⟩; clear hgd HST; have y2 := Y.out.tr hx; clear Y hx; have Y := Hd y2; clear y2; clear d9 d10 d4 d5; have d9 := (B9.out.ext Y.out).cell; have d10 := (B10.out.ext Y.out).cell; have d4 := (XB4.out.ext Y.out).cell
        have d5 := (YB4.out.ext Y.out).cell)
     | (go_at_call 6
        refine (awake_any _).mono ?_; rintro e w32 ⟨rfl, hx⟩; have y2 := Y.out.tr hx; clear Y hx; have Y := Hd y2
        clear y2))
    go_ret; exact ⟨rfl, X.out.tr Y.out⟩
    }
   }
  }
  {
  have i1 : decide ((0:Int) < (nl:Int)) = false := decide_eq_false (by omega)
  go_upto_region 29 with (fail)
  clear i1
  as_aux_lemma =>
  go_upto_region 30 with (first
   | (have hgd := HBK.out
      go_at_call 29; refine (hgd _ Y.out).mono ?_; rintro e w20 ⟨v1, rfl, h1, ho1, hx⟩; clear hgd HBK; obtain ⟨a7, c7, rfl, _⟩ := h1.form; have yl := Y.out.size; replace B12 := Hd (B12.out.ext hx); replace B14 := Hd (B14.out.ext hx); have y2 := Y.out.tr hx; clear Y hx; have Y := Hd y2; clear y2; clear d9 d10 d4 d5; have d9 := (B9.out.ext Y.out).cell; have d10 := (B10.out.ext Y.out).cell; have d4 := (XB4.out.ext Y.out).cell; have d5 := (YB4.out.ext Y.out).cell; have o1 := owns_weak ho1 yl; clear yl ho1; have U1 := Hd h1; have O1 := Hd o1
      clear h1 o1)
   | (with_reducible refine wpList_storeK (ty := 38) (cells := #[.int .i64 KS.drive, .bool KS.folder, .slice a7 KS.units.length c7, .int .i64 KS.fresh]) rfl rfl B12.out ?_ ?_ ?_ ?_ ?_ ?_
      rfl; rfl; kernel_rfl; rfl; simp [Value.oneCell']; rintro w21 hb ho; have y2 := Y.out.then_only ho (fun k (e : k = b12) => by rw [e]; exact L12.out); have u1 := U1.out.only ho (owns_ne' O1.out B12.out (by decide)); have o1 := owns_only O1.out ho (owns_ne' O1.out B12.out (by decide)); have b14' := B14.out.only ho (fun e => absurd (blk_ty B14.out (e ▸ B12.out)) (by decide)); clear Y U1 O1 B14 B12 ho; have Y := Hd y2; have U1 := Hd u1; have O1 := Hd o1; have B14 := Hd b14'; have B12 := Hd hb; clear y2 u1 o1 b14' hb; clear d9 d10 d4 d5; have d9 := (B9.out.ext Y.out).cell; have d10 := (B10.out.ext Y.out).cell; have d4 := (XB4.out.ext Y.out).cell
      have d5 := (YB4.out.ext Y.out).cell))
  as_aux_lemma =>
  go_upto_region 31 with (first
   | (have hgd := HRK.out
      go_at_call 63; refine (hgd _ Y.out).mono ?_; rintro e w22 ⟨v3, rfl, h1, hx, how⟩; clear hgd HRK; obtain ⟨a8, c8, rfl, _⟩ := h1.form
      have hne : 0 < KS.units.length → ∀ b, (Value.slice a8 KS.units.length c8).ownBlock = some b → ¬ b = b14 := fun h0 b hb e => by
       have h2 := B14.out.lt; have h3 := how b hb; omega
      have o1 := owns_ext O1.out hx; clear O1 how; have O1 := Hd o1; clear o1; replace U1 := Hd (U1.out.ext hx); replace B12 := Hd (B12.out.ext hx); replace B14 := Hd (B14.out.ext hx); have y2 := Y.out.tr hx; clear Y hx; have Y := Hd y2; clear y2; clear d9 d10 d4 d5; have d9 := (B9.out.ext Y.out).cell; have d10 := (B10.out.ext Y.out).cell; have d4 := (XB4.out.ext Y.out).cell; have d5 := (YB4.out.ext Y.out).cell; have U2 := Hd h1; have NE := Hd hne
      clear h1 hne)
   | (with_reducible refine wpList_storeK (ty := 27) (cells := #[.int .i64 KS.drive, .bool KS.folder, .slice a8 KS.units.length c8, .int .i64 KS.fresh]) rfl rfl B14.out ?_ ?_ ?_ ?_ ?_ ?_
      rfl; rfl; kernel_rfl; rfl; simp [Value.oneCell']; rintro wj hb ho; have y2 := Y.out.then_only ho (fun k (e : k = b14) => by rw [e]; exact L14.out); have u1 := U1.out.only ho (owns_ne' O1.out B14.out (by decide)); have o1 := owns_only O1.out ho (owns_ne' O1.out B14.out (by decide)); have u2 := U2.out.only0 ho NE.out; have b12' := B12.out.only ho (fun e => absurd (blk_ty B12.out (e ▸ B14.out)) (by decide)); clear Y U1 O1 U2 NE B14 B12 ho; have Y := Hd y2; have U1 := Hd u1; have O1 := Hd o1; have U2 := Hd u2; have B12 := Hd b12'; have B14 := Hd hb; clear y2 u1 o1 u2 b12' hb; clear d9 d10 d4 d5; have d9 := (B9.out.ext Y.out).cell; have d10 := (B10.out.ext Y.out).cell; have d4 := (XB4.out.ext Y.out).cell; have d5 := (YB4.out.ext Y.out).cell; have d12 := B12.out.cell
      have d14 := B14.out.cell))
  have hs1 := fun W (k : Ext wj W) => same_eq KS (.slice a7 KS.units.length c7) (.slice a8 KS.units.length c8) W (U1.out.ext k) (U2.out.ext k); unfold sV at hs1; have HS1 := Hd hs1; clear hs1; clear U1 U2
  as_aux_lemma =>
  go_upto_region 34 with (first
   | (have hgd := HS1.out
      go_at_call 23; refine (hgd _ (Below.refl _ _)).mono ?_; rintro e wk ⟨rfl, hx⟩; have o1 := owns_ext O1.out hx; clear hgd HS1 d12 d14 O1; have O1 := Hd o1; clear o1; replace B12 := Hd (B12.out.ext hx); replace B14 := Hd (B14.out.ext hx); have y2 := Y.out.tr hx; clear Y hx; have Y := Hd y2; clear y2; clear d9 d10 d4 d5; have d9 := (B9.out.ext Y.out).cell; have d10 := (B10.out.ext Y.out).cell; have d4 := (XB4.out.ext Y.out).cell
      have d5 := (YB4.out.ext Y.out).cell))
  as_aux_lemma =>
  clear d9 d10 d4 d5 B14 L14; have l12b := B12.out.lt; have LB12 := Hd l12b; clear l12b
  go_loopw [27] (fun t27 wr => ∃ (k : Nat) (xs : List Value), k ≤ KS.units.length ∧ t27 = .int .i64 k ∧ Hid (∀ j, k ≤ j → j < KS.units.length → ∃ b, xs[j * 5 + 2]? = some (.bool b)) ∧ Hid (wr.ownsRow w4.heap.size 82 5 (.slice a7 KS.units.length c7) KS.units.length xs) ∧ Hid (Blk wr b12 #[.int .i64 KS.drive, .bool KS.folder, .slice a7 KS.units.length c7, .int .i64 KS.fresh] 38) ∧ Hid (Ext w4 wr)) (fun t27 _ => KS.units.length - (intOf t27).toNat)
  case atStart => exact ⟨0, uL KS.units, Nat.zero_le _, rfl, fun j _ h => uL_bool _ _ h, O1, B12, Y⟩
  case round =>
   clear O1 B12 Y; obtain ⟨k, xs, hk, rfl, HBO, O1, B12, Y⟩ := hrel
   as_aux_lemma =>
   have d12 := B12.out.cell; have hks2 := HKS.out
   by_cases hlt : k < KS.units.length
   {
   obtain ⟨g, c0, cur, hv0, hbk, hroom, hcur⟩ := owns_blkN O1.out (by omega)
   cases hv0
   obtain ⟨bv, hbv⟩ := HBO.out k (Nat.le_refl _) hlt; have dk : wr.cell? ⟨g, k * 5 + 2, none⟩ = some (.bool bv) := owns_at O1.out rfl _ _ hbv; have fr := hbk.free; have ngb : ¬ g = b12 := fun e => absurd (blk_ty B12.out (e ▸ hbk)) (by decide); have lg : w4.heap.size ≤ g := (O1.out.lt g rfl).1; have i1 : (0:Int) ≤ (k:Int) := (by omega); have i2 : (k:Int) < (KS.units.length:Int) := (by omega); clear hcur hbv; have BK := Hd hbk; have NGB := Hd ngb; have LG := Hd lg; clear hbk ngb lg
   go_upto_region 36 with (fail)
   go_region
   have B1 := blk_set BK.out (k * 5 + 2) (.bool (!bv)); have O2 := owns_putN O1.out BK.out B1; have hd : ∀ W : World, Ext W W.drew := fun W => (Below.refl _ W).drew; have ho := (Only.set (S := fun b => b = g) wr ⟨g, k * 5 + 2, none⟩ (.bool (!bv)) rfl).tr (Only.of_ext (hd _)); have O3 := owns_ext O2 (hd _); have b12' := B12.out.only ho (fun e => NGB.out e.symm); have y2 := Y.out.then_only ho (fun b (e : b = g) => by rw [e]; exact LG.out)
   have hbo : ∀ j, k + 1 ≤ j → j < KS.units.length → ∃ b, (xs.set (k * 5 + 2) (.bool (!bv)))[j * 5 + 2]? = some (.bool b) := fun j h1 h2 => by
    rw [List.getElem?_set_ne (by omega)]; exact HBO.out j (by omega) h2
   clear B1 O1 O2 dk fr d12 ho B12 Y HBO BK; generalize World.drew _ = wz at *; clear hd; have O4 := Hd O3; have B13 := Hd b12'; have Y2 := Hd y2; have HBO2 := Hd hbo; clear O3 b12' y2 hbo; go_wp2
   go_roundw
   case rel => exact ⟨k + 1, _, by omega, by go_num, HBO2, O4, B13, Y2⟩
   case measure => simp [intOf] <;> omega
   }
   {
   have i2 : decide ((k:Int) < (KS.units.length:Int)) = false := decide_eq_false (by omega); clear d12; have d9 := (B9.out.ext Y.out).cell; have d10 := (B10.out.ext Y.out).cell; have d4 := (XB4.out.ext Y.out).cell; have d5 := (YB4.out.ext Y.out).cell; have d12 := B12.out.cell
   go_wp2_with (first
    | (have hgd := HSM.out
       go_at_call 23; refine (hgd _ Y.out).mono ?_; rintro e w30 ⟨rfl, hx⟩; clear hgd HSM d12; have y2 := Y.out.tr hx; clear Y hx; have Y := Hd y2; clear y2; clear d9 d10 d4 d5; have d9 := (B9.out.ext Y.out).cell; have d10 := (B10.out.ext Y.out).cell; have d4 := (XB4.out.ext Y.out).cell
       have d5 := (YB4.out.ext Y.out).cell)
    | (have hgd := HST.out
       go_at_call 22; refine (hgd _ Y.out).mono ?_; rintro e w31 ⟨rfl, hx⟩; clear hgd HST; have y2 := Y.out.tr hx; clear Y hx; have Y := Hd y2; clear y2; clear d9 d10 d4 d5; have d9 := (B9.out.ext Y.out).cell; have d10 := (B10.out.ext Y.out).cell; have d4 := (XB4.out.ext Y.out).cell
       have d5 := (YB4.out.ext Y.out).cell)
    | (go_at_call 6
       refine (awake_any _).mono ?_; rintro e w32 ⟨rfl, hx⟩; have y2 := Y.out.tr hx; clear Y hx; have Y := Hd y2
       clear y2))
   go_ret; exact ⟨rfl, X.out.tr Y.out⟩
   }
  }
end Go.Proofs.YtojobdffnnibaaaGreat