/- PressFinds: the walk (printed by mkfinds.py). -/
import Derived.Test.YtojobdffnnibaaaGreatJ14
import Derived.Test.YtojobdffnnibaaaGreatLyR
import Derived.Test.YtojobdffnnibaaaGreatPRefute
import Derived.Test.YtojobdffnnibaaaGreatJ8
import Derived.Test.YtojobdffnnibaaaGreatJ11
import Derived.Test.YtojobdffnnibaaaGreatJ5
import Derived.Deep.CutBlock
namespace Go.Proofs.YtojobdffnnibaaaGreat
open Go.RowKit
set_option linter.unusedVariables false
set_option linter.unusedSimpArgs false
/-- What Closed returns, in one form. -/
def codesK (p : PressD) (s : StD) : List Int := if stErr p s = 0 then codesS p s else []
theorem ClosedPost.one {w w' : World} {p : PressD} {s : StD} {e : Ending} (h : ClosedPost w p s e w') : ∃ v, e = .returned (.tuple #[v, .int .i64 (stErr p s)]) ∧ w'.ownsRow w.heap.size 3 1 v (codesK p s).length ((codesK p s).map (Value.int .i64)) ∧ Ext w w' := by
 unfold codesK
 rcases h with ⟨h1, h2, h3⟩ | ⟨h1, v, h2, h3, h4⟩
 · exact ⟨_, h2, by rw [if_neg h1]; exact World.ownsRow_nil _ _ _ _, h3⟩
 · exact ⟨v, by rw [h1]; exact h2, by rw [if_pos h1]; exact h3, h4⟩
theorem codesK_small (p : PressD) (s : StD) : (codesK p s).length ≤ 30000 ∧ ∀ c ∈ codesK p s, I64 c := by
 unfold codesK
 split
 { rename_i h; have g := (good_iff p s).1 h; exact ⟨codesS_le g, codesS_i64 g⟩ }
 · exact ⟨Nat.zero_le _, fun c hc => by cases hc⟩
theorem Ints.of_owns {w : World} {base : Nat} {e : TypeId} {v : Value} {n : Nat} {xs : List Int} (h : w.ownsRow base e 1 v n (xs.map (Value.int .i64))) : Ints w v xs := Sl.of_owns h
set_option maxRecDepth 100000 in
set_option maxHeartbeats 8000000 in
theorem finds_true (p : PressD) (s : StD) (g : GoalD) (l : List (Int × Int)) (codes : List Int) (vj vu vg vl vc : Value) (w : World) (hj : Truths w vj p.jam) (hu : UnIn w vu s.units) (hg : Truths w vg g.pressed) (hv : AcIn w vl l) (hk : ∀ a ∈ l, I64 a.1) (hc : Ints w vc codes) (hI : ∀ c ∈ codes, I64 c) :
 Calls Tryz.prog 3 #[pV vj p, sV vu s, gV vg g, vl, vc] w fun e w' => e = .returned (.bool true) ∧ Ext w w' := by
 have hj0 := hj; have hu0 := hu; have hv0 := hv; have hg0 := hg; have hc0 := hc; obtain ⟨hjl, aj, cj, rfl, _⟩ := hj; rw [List.length_map] at *; obtain ⟨hul, au, cu, rfl, _⟩ := hu; obtain ⟨hgl, ag, cg, rfl, _⟩ := hg; rw [List.length_map] at *; obtain ⟨hvl, al, cl, rfl, _⟩ := hv; obtain ⟨hcl, ae, ce, rfl, _⟩ := hc; rw [List.length_map] at *; obtain ⟨nj, hnj⟩ : ∃ m, p.jam.length = m := ⟨_, rfl⟩; obtain ⟨nu, hnu⟩ : ∃ m, s.units.length = m := ⟨_, rfl⟩; obtain ⟨ng, hng⟩ : ∃ m, g.pressed.length = m := ⟨_, rfl⟩; obtain ⟨nl, hnl⟩ : ∃ m, l.length = m := ⟨_, rfl⟩; obtain ⟨ne, hne⟩ : ∃ m, codes.length = m := ⟨_, rfl⟩; rw [hnj] at hjl hj0 ⊢; rw [hnu] at hul hu0 ⊢; rw [hng] at hgl hg0 ⊢; rw [hnl] at hvl hv0 ⊢; rw [hne] at hcl hc0 ⊢; unfold pV sV gV; have hbig := fun W => big_any p s g.drive (.slice none 0 0) (.slice none 0 0) (.slice none 0 0) nu nj ng cu cj cg au aj ag W ⟨hul, hjl, hgl⟩; obtain ⟨bb, hbb⟩ : ∃ b, (decide (20 < nj) || decide (20 < nu) || decide (20 < ng)) = b := ⟨_, rfl⟩; rw [hbb] at hbig; have HJ := Hd hj0; have HU := Hd hu0; have HV := Hd hv0; have HG := Hd hg0; have HC := Hd hc0; have HK := Hd hk; have HI := Hd hI; have HBG := Hd hbig; have HNJ := Hd hnj; have HNU := Hd hnu; have HNG := Hd hng; have HNL := Hd hnl; have HNE := Hd hne; have HBB := Hd hbb; clear hj0 hu0 hv0 hg0 hc0 hk hI hbig hnj hnu hng hnl hne hbb
 go_enter Tryz.func3, Tryz.ntmps3
 go_upto_region 1 with (first
  | (with_reducible refine wpList_boxA (t := 24) (cs := #[.slice aj nj cj, .int .i64 p.warm, .int .i64 p.tail, .int .i64 p.dirt]) rfl rfl rfl ?_
     rintro xb w1 hx1 hx2 hx3; have XB := Hd hx1; have X := Hd hx2; clear hx1 hx2
     clear hx3)
  | (with_reducible refine wpList_boxA (t := 27) (cs := #[.int .i64 s.drive, .bool s.folder, .slice au nu cu, .int .i64 s.fresh]) rfl rfl rfl ?_
     rintro yb w2 hy1 hy2 hy3; have x2 := X.out.tr hy2; have xb2 := XB.out.ext hy2; clear XB X; have XB := Hd xb2; have YB := Hd hy1; have X := Hd x2; clear xb2 hy1 x2
     clear hy3 hy2)
  | (with_reducible refine wpList_boxA (t := 29) (cs := #[.int .i64 g.drive, .slice ag ng cg]) rfl rfl rfl ?_
     rintro zb w2g hy1 hy2 hy3; have x2 := X.out.tr hy2; have xb2 := XB.out.ext hy2; have yb2 := YB.out.ext hy2; have c1 := xb2.cell; have c2 := yb2.cell; have c3 := hy1.cell; clear XB X YB; have XB := Hd xb2; have YB := Hd yb2; have ZB := Hd hy1; have X := Hd x2; clear xb2 yb2 hy1 x2
     clear hy3 hy2))
 cases bb
 case true =>
  skip
  {
  go_wp2_with (first
   | (have hgd := HBG.out
      go_at_call 5; refine (hgd _).mono ?_; rintro e w3 ⟨rfl, hx⟩; clear hgd HBG c1 c2 c3; replace XB := Hd (XB.out.ext hx); replace YB := Hd (YB.out.ext hx); replace ZB := Hd (ZB.out.ext hx); have x2 := X.out.tr hx; have c1 := XB.out.cell; clear X hx; have X := Hd x2
      clear x2)
   | (go_at_call 6
      refine (awake_any _).mono ?_; rintro e w4 ⟨rfl, hx⟩; have x2 := X.out.tr hx; clear X hx; have X := Hd x2
      clear x2))
  go_ret; exact ⟨rfl, X.out⟩
  }
 case false =>
 by_cases h3 : nj = 3
 {
 have i1 : ((nj:Int) == 3) = true := (by simp [h3]); clear h3
 {
 go_wp2_with (first
  | (have hgd := HBG.out
     go_at_call 5; refine (hgd _).mono ?_; rintro e w3 ⟨rfl, hx⟩; clear hgd HBG c1 c2 c3; replace XB := Hd (XB.out.ext hx); replace YB := Hd (YB.out.ext hx); replace ZB := Hd (ZB.out.ext hx); have x2 := X.out.tr hx; have c1 := XB.out.cell; clear X hx; have X := Hd x2
     clear x2)
  | (go_at_call 6
     refine (awake_any _).mono ?_; rintro e w4 ⟨rfl, hx⟩; have x2 := X.out.tr hx; clear X hx; have X := Hd x2
     clear x2))
 go_ret; exact ⟨rfl, X.out⟩
 }
 }
 have i1 : ((nj:Int) == 3) = false := by simp; omega
 by_cases h4 : 60 < nl
 {
 have i2 : (60:Int) < (nl:Int) := (by omega); clear h3 h4
 {
 go_wp2_with (first
  | (have hgd := HBG.out
     go_at_call 5; refine (hgd _).mono ?_; rintro e w3 ⟨rfl, hx⟩; clear hgd HBG c1 c2 c3; replace XB := Hd (XB.out.ext hx); replace YB := Hd (YB.out.ext hx); replace ZB := Hd (ZB.out.ext hx); have x2 := X.out.tr hx; have c1 := XB.out.cell; clear X hx; have X := Hd x2
     clear x2)
  | (go_at_call 6
     refine (awake_any _).mono ?_; rintro e w4 ⟨rfl, hx⟩; have x2 := X.out.tr hx; clear X hx; have X := Hd x2
     clear x2))
 go_ret; exact ⟨rfl, X.out⟩
 }
 }
 have i2 : decide ((60:Int) < (nl:Int)) = false := decide_eq_false (by omega)
 by_cases h5 : 2000 < ne
 {
 have i3 : (2000:Int) < (ne:Int) := (by omega); clear h3 h4 h5
 {
 go_wp2_with (first
  | (have hgd := HBG.out
     go_at_call 5; refine (hgd _).mono ?_; rintro e w3 ⟨rfl, hx⟩; clear hgd HBG c1 c2 c3; replace XB := Hd (XB.out.ext hx); replace YB := Hd (YB.out.ext hx); replace ZB := Hd (ZB.out.ext hx); have x2 := X.out.tr hx; have c1 := XB.out.cell; clear X hx; have X := Hd x2
     clear x2)
  | (go_at_call 6
     refine (awake_any _).mono ?_; rintro e w4 ⟨rfl, hx⟩; have x2 := X.out.tr hx; clear X hx; have X := Hd x2
     clear x2))
 go_ret; exact ⟨rfl, X.out⟩
 }
 }
 have i3 : decide ((2000:Int) < (ne:Int)) = false := decide_eq_false (by omega)
 have h20 : nj ≤ 20 ∧ nu ≤ 20 ∧ ng ≤ 20 := by
  have := HBB.out; simp at this; omega
 clear h3
 go_upto_region 3 with (
  have hgd := HBG.out; go_at_call 5; refine (hgd _).mono ?_; rintro e w3 ⟨rfl, hx⟩; clear hgd HBG c1 c2 c3; replace XB := Hd (XB.out.ext hx); replace YB := Hd (YB.out.ext hx); replace ZB := Hd (ZB.out.ext hx); have x2 := X.out.tr hx; have c1 := XB.out.cell; clear X hx; have X := Hd x2
  clear x2)
 clear i1 i2 i3 c1; have hown := fun W (k : Ext w3 W) => own_any p (.slice aj nj cj) W (Sl.ext HJ.out (X.out.tr k)) (by rw [HNJ.out]; have := h20.1; omega); have hsta := fun W (k : Ext w3 W) => state_any s (.slice au nu cu) W (HU.out.ext (X.out.tr k)) (by rw [HNU.out]; have := h20.2.1; omega); have hgoa := fun W (k : Ext w3 W) => goal_any g (.slice ag ng cg) W (Sl.ext HG.out (X.out.tr k)) (by rw [HNG.out]; have := h20.2.2; omega); rw [HNJ.out] at hown; rw [HNU.out] at hsta; rw [HNG.out] at hgoa; unfold pV at hown; unfold sV at hsta; unfold gV at hgoa; have nl60 : nl ≤ 60 := (by omega); have ne2k : ne ≤ 2000 := (by omega); clear h4 h5; have HOWN := Hd hown; have HSTA := Hd hsta; have HGOA := Hd hgoa; have H20 := Hd h20; have XB2 := Hd XB; have YB2 := Hd YB; have ZB2 := Hd ZB; have X2 := Hd X; clear hown hsta hgoa h20 XB YB ZB X
 go_cut [11, 12, 13] (fun v11 v12 v13 W => ∃ b9 b10 b11 va ca vb cb vd cd, v11 = .pointer (some ⟨b9, 0, none⟩) ∧ v12 = .pointer (some ⟨b10, 0, none⟩) ∧ v13 = .pointer (some ⟨b11, 0, none⟩) ∧ Hid (Blk W b9 #[.slice va nj ca, .int .i64 p.warm, .int .i64 p.tail, .int .i64 p.dirt] 34) ∧ Hid (Blk W b10 #[.int .i64 s.drive, .bool s.folder, .slice vb nu cb, .int .i64 s.fresh] 38) ∧ Hid (Blk W b11 #[.int .i64 g.drive, .slice vd ng cd] 40) ∧
  Hid (W.ownsRow w3.heap.size 4 1 (.slice va nj ca) nj (p.jam.map .bool)) ∧ Hid (W.ownsRow w3.heap.size 82 5 (.slice vb nu cb) nu (uL s.units)) ∧ Hid (W.ownsRow w3.heap.size 4 1 (.slice vd ng cd) ng (g.pressed.map .bool)) ∧ Hid (Ext w3 W))
 case first =>
  as_aux_lemma =>
   have xd : Ext w3 w3.drew := (Below.refl _ w3).drew; have hs3 : ∀ W, Ext w3 W → ((∀ j, W.cell? ⟨xb, j, none⟩ = (#[.slice aj nj cj, .int .i64 p.warm, .int .i64 p.tail, .int .i64 p.dirt] : Array Value)[j]?) ∧ (∀ j, W.cell? ⟨yb, j, none⟩ = (#[.int .i64 s.drive, .bool s.folder, .slice au nu cu, .int .i64 s.fresh] : Array Value)[j]?) ∧ (∀ j, W.cell? ⟨zb, j, none⟩ = (#[.int .i64 g.drive, .slice ag ng cg] : Array Value)[j]?)) := fun W hx => ⟨(XB2.out.out.ext hx).cell, (YB2.out.out.ext hx).cell, (ZB2.out.out.ext hx).cell⟩; have HS3 := Hd hs3; clear hs3; refine wp_region_K (fun wx => (∀ j, wx.cell? ⟨xb, j, none⟩ = (#[.slice aj nj cj, .int .i64 p.warm, .int .i64 p.tail, .int .i64 p.dirt] : Array Value)[j]?) ∧ (∀ j, wx.cell? ⟨yb, j, none⟩ = (#[.int .i64 s.drive, .bool s.folder, .slice au nu cu, .int .i64 s.fresh] : Array Value)[j]?) ∧ (∀ j, wx.cell? ⟨zb, j, none⟩ = (#[.int .i64 g.drive, .slice ag ng cg] : Array Value)[j]?)) 9 (by kernel_rfl) (HS3.out _ xd) (fun kh => ?_); generalize w3.drew = wy at *; have XC := Hd xd; clear xd; refine kX 0 kh ?_; simp only [kS]; refine kX 2 kh ?_; simp only [kS]; refine kX 4 kh ?_; simp only [kS]; clear kh; apply share
   case' h => intro k135678
   apply share
   case' h => intro k13567
   apply share
   case' h => intro k13568
   apply share
   case' h => intro k13578
   apply share
   case' h => intro k13678
   apply share
   case' h => intro k1356
   apply share
   case' h => intro k1357
   apply share
   case' h => intro k1358
   apply share
   case' h => intro k1367
   apply share
   case' h => intro k1368
   apply share
   case' h => intro k1378
   apply share
   case' h => intro k1678
   apply share
   case' h => intro k135
   apply share
   case' h => intro k136
   apply share
   case' h => intro k137
   apply share
   case' h => intro k138
   apply share
   case' h => intro k167
   apply share
   case' h => intro k168
   apply share
   case' h => intro k178
   apply share
   case' h => intro k678
   apply share
   case' h => intro k13
   apply share
   case' h => intro k16
   apply share
   case' h => intro k17
   apply share
   case' h => intro k18
   apply share
   case' h => intro k67
   apply share
   case' h => intro k68
   apply share
   case' h => intro k78
   apply share
   case' h => intro k1
   apply share
   case' h => intro k6
   apply share
   case' h => intro k7
   apply share
   case' h => intro k8
   {
   refine rK [1, 6, 7, 8] ?_; refine xK 1 (fun K hK => ?_) ?_
   { refine cK #[.agg #[.slice aj nj cj, .int .i64 p.warm, .int .i64 p.tail, .int .i64 p.dirt]] Tryz.func7 (HOWN.out _ XC.out) ?_; rintro e wy ⟨vn, rfl, hx, ho1⟩; obtain ⟨va, ca, rfl⟩ := row_form ho1; refine ⟨_, rfl, ?_⟩; have OA := Hd (owns_weak ho1 XC.out.size); clear ho1; replace XC := Hd (XC.out.tr hx); clear hx; refine kG hK (HS3.out _ XC.out) fun kh => ?_; (try simp only [kS]); clear kh; revert XC; revert OA; revert ca; revert va; revert wy; exact k1 }
   refine xK 6 (fun K hK => ?_) ?_
   { refine step_allocA (t := 34) rfl rfl Tryz.zeroValue34 ?_; intro b9 wy hb hx hl; have l9 : w3.heap.size ≤ b9 := Nat.le_trans XC.out.size hl; have A9 := Hd hb; clear hb hl; replace XC := Hd (XC.out.tr hx); clear hx; refine kG hK (HS3.out _ XC.out) fun kh => ?_; (try simp only [kS]); clear kh; revert XC; revert A9; revert l9; revert b9; revert wy; exact k6 }
   refine xK 7 (fun K hK => ?_) ?_
   { refine step_allocA (t := 38) rfl rfl Tryz.zeroValue38 ?_; intro b10 wy hb hx hl; have l10 : w3.heap.size ≤ b10 := Nat.le_trans XC.out.size hl; have AX := Hd hb; clear hb hl; replace XC := Hd (XC.out.tr hx); clear hx; refine kG hK (HS3.out _ XC.out) fun kh => ?_; (try simp only [kS]); clear kh; revert XC; revert AX; revert l10; revert b10; revert wy; exact k7 }
   refine xK 8 (fun K hK => ?_) ?_
   { refine step_allocA (t := 40) rfl rfl Tryz.zeroValue40 ?_; intro b11 wy hb hx hl; have l11 : w3.heap.size ≤ b11 := Nat.le_trans XC.out.size hl; have AY := Hd hb; clear hb hl; replace XC := Hd (XC.out.tr hx); clear hx; refine kG hK (HS3.out _ XC.out) fun kh => ?_; (try simp only [kS]); clear kh; revert XC; revert AY; revert l11; revert b11; revert wy; exact k8 }
   exact nK
   }
   {
   intro wy b11 l11 AY XC; refine rK [1, 6, 7] ?_; refine xK 1 (fun K hK => ?_) ?_
   { refine cK #[.agg #[.slice aj nj cj, .int .i64 p.warm, .int .i64 p.tail, .int .i64 p.dirt]] Tryz.func7 (HOWN.out _ XC.out) ?_; rintro e wy ⟨vn, rfl, hx, ho1⟩; obtain ⟨va, ca, rfl⟩ := row_form ho1; refine ⟨_, rfl, ?_⟩; have OA := Hd (owns_weak ho1 XC.out.size); clear ho1; replace AY := Hd (AY.out.ext hx); replace XC := Hd (XC.out.tr hx); clear hx; refine kG hK (HS3.out _ XC.out) fun kh => ?_; (try simp only [kS]); clear kh; revert XC; revert AY; revert l11; revert b11; revert OA; revert ca; revert va; revert wy; exact k18 }
   refine xK 6 (fun K hK => ?_) ?_
   { refine step_allocA (t := 34) rfl rfl Tryz.zeroValue34 ?_; intro b9 wy hb hx hl; have l9 : w3.heap.size ≤ b9 := Nat.le_trans XC.out.size hl; have A9 := Hd hb; clear hb hl; replace AY := Hd (AY.out.ext hx); replace XC := Hd (XC.out.tr hx); clear hx; refine kG hK (HS3.out _ XC.out) fun kh => ?_; (try simp only [kS]); clear kh; revert XC; revert AY; revert l11; revert b11; revert A9; revert l9; revert b9; revert wy; exact k68 }
   refine xK 7 (fun K hK => ?_) ?_
   { refine step_allocA (t := 38) rfl rfl Tryz.zeroValue38 ?_; intro b10 wy hb hx hl; have l10 : w3.heap.size ≤ b10 := Nat.le_trans XC.out.size hl; have AX := Hd hb; clear hb hl; replace AY := Hd (AY.out.ext hx); replace XC := Hd (XC.out.tr hx); clear hx; refine kG hK (HS3.out _ XC.out) fun kh => ?_; (try simp only [kS]); clear kh; revert XC; revert AY; revert l11; revert b11; revert AX; revert l10; revert b10; revert wy; exact k78 }
   exact nK
   }
   {
   intro wy b10 l10 AX XC; refine rK [1, 6, 8] ?_; refine xK 1 (fun K hK => ?_) ?_
   { refine cK #[.agg #[.slice aj nj cj, .int .i64 p.warm, .int .i64 p.tail, .int .i64 p.dirt]] Tryz.func7 (HOWN.out _ XC.out) ?_; rintro e wy ⟨vn, rfl, hx, ho1⟩; obtain ⟨va, ca, rfl⟩ := row_form ho1; refine ⟨_, rfl, ?_⟩; have OA := Hd (owns_weak ho1 XC.out.size); clear ho1; replace AX := Hd (AX.out.ext hx); replace XC := Hd (XC.out.tr hx); clear hx; refine kG hK (HS3.out _ XC.out) fun kh => ?_; (try simp only [kS]); clear kh; revert XC; revert AX; revert l10; revert b10; revert OA; revert ca; revert va; revert wy; exact k17 }
   refine xK 6 (fun K hK => ?_) ?_
   { refine step_allocA (t := 34) rfl rfl Tryz.zeroValue34 ?_; intro b9 wy hb hx hl; have l9 : w3.heap.size ≤ b9 := Nat.le_trans XC.out.size hl; have A9 := Hd hb; clear hb hl; replace AX := Hd (AX.out.ext hx); replace XC := Hd (XC.out.tr hx); clear hx; refine kG hK (HS3.out _ XC.out) fun kh => ?_; (try simp only [kS]); clear kh; revert XC; revert AX; revert l10; revert b10; revert A9; revert l9; revert b9; revert wy; exact k67 }
   refine xK 8 (fun K hK => ?_) ?_
   { refine step_allocA (t := 40) rfl rfl Tryz.zeroValue40 ?_; intro b11 wy hb hx hl; have l11 : w3.heap.size ≤ b11 := Nat.le_trans XC.out.size hl; have AY := Hd hb; clear hb hl; replace AX := Hd (AX.out.ext hx); replace XC := Hd (XC.out.tr hx); clear hx; refine kG hK (HS3.out _ XC.out) fun kh => ?_; (try simp only [kS]); clear kh; revert XC; revert AY; revert l11; revert b11; revert AX; revert l10; revert b10; revert wy; exact k78 }
   exact nK
   }
   {
   intro wy b9 l9 A9 XC; refine rK [1, 7, 8] ?_; refine xK 1 (fun K hK => ?_) ?_
   { refine cK #[.agg #[.slice aj nj cj, .int .i64 p.warm, .int .i64 p.tail, .int .i64 p.dirt]] Tryz.func7 (HOWN.out _ XC.out) ?_; rintro e wy ⟨vn, rfl, hx, ho1⟩; obtain ⟨va, ca, rfl⟩ := row_form ho1; refine ⟨_, rfl, ?_⟩; have OA := Hd (owns_weak ho1 XC.out.size); clear ho1; replace A9 := Hd (A9.out.ext hx); replace XC := Hd (XC.out.tr hx); clear hx; refine kG hK (HS3.out _ XC.out) fun kh => ?_; (try simp only [kS]); clear kh; revert XC; revert A9; revert l9; revert b9; revert OA; revert ca; revert va; revert wy; exact k16 }
   refine xK 7 (fun K hK => ?_) ?_
   { refine step_allocA (t := 38) rfl rfl Tryz.zeroValue38 ?_; intro b10 wy hb hx hl; have l10 : w3.heap.size ≤ b10 := Nat.le_trans XC.out.size hl; have AX := Hd hb; clear hb hl; replace A9 := Hd (A9.out.ext hx); replace XC := Hd (XC.out.tr hx); clear hx; refine kG hK (HS3.out _ XC.out) fun kh => ?_; (try simp only [kS]); clear kh; revert XC; revert AX; revert l10; revert b10; revert A9; revert l9; revert b9; revert wy; exact k67 }
   refine xK 8 (fun K hK => ?_) ?_
   { refine step_allocA (t := 40) rfl rfl Tryz.zeroValue40 ?_; intro b11 wy hb hx hl; have l11 : w3.heap.size ≤ b11 := Nat.le_trans XC.out.size hl; have AY := Hd hb; clear hb hl; replace A9 := Hd (A9.out.ext hx); replace XC := Hd (XC.out.tr hx); clear hx; refine kG hK (HS3.out _ XC.out) fun kh => ?_; (try simp only [kS]); clear kh; revert XC; revert AY; revert l11; revert b11; revert A9; revert l9; revert b9; revert wy; exact k68 }
   exact nK
   }
   {
   intro wy va ca OA XC; refine rK [3, 6, 7, 8] ?_; refine xK 3 (fun K hK => ?_) ?_
   { refine cK #[.agg #[.int .i64 s.drive, .bool s.folder, .slice au nu cu, .int .i64 s.fresh]] Tryz.func8 (HSTA.out _ XC.out) ?_; rintro e wy ⟨vn, rfl, hx, ho1⟩; obtain ⟨vb, cb, rfl⟩ := row_form ho1; refine ⟨_, rfl, ?_⟩; have OB := Hd (owns_weak ho1 XC.out.size); clear ho1; replace OA := Hd (owns_ext OA.out hx); replace XC := Hd (XC.out.tr hx); clear hx; refine kG hK (HS3.out _ XC.out) fun kh => ?_; (try simp only [kS]); clear kh; revert XC; revert OB; revert cb; revert vb; revert OA; revert ca; revert va; revert wy; exact k13 }
   refine xK 6 (fun K hK => ?_) ?_
   { refine step_allocA (t := 34) rfl rfl Tryz.zeroValue34 ?_; intro b9 wy hb hx hl; have l9 : w3.heap.size ≤ b9 := Nat.le_trans XC.out.size hl; have A9 := Hd hb; clear hb hl; replace OA := Hd (owns_ext OA.out hx); replace XC := Hd (XC.out.tr hx); clear hx; refine kG hK (HS3.out _ XC.out) fun kh => ?_; (try simp only [kS]); clear kh; revert XC; revert A9; revert l9; revert b9; revert OA; revert ca; revert va; revert wy; exact k16 }
   refine xK 7 (fun K hK => ?_) ?_
   { refine step_allocA (t := 38) rfl rfl Tryz.zeroValue38 ?_; intro b10 wy hb hx hl; have l10 : w3.heap.size ≤ b10 := Nat.le_trans XC.out.size hl; have AX := Hd hb; clear hb hl; replace OA := Hd (owns_ext OA.out hx); replace XC := Hd (XC.out.tr hx); clear hx; refine kG hK (HS3.out _ XC.out) fun kh => ?_; (try simp only [kS]); clear kh; revert XC; revert AX; revert l10; revert b10; revert OA; revert ca; revert va; revert wy; exact k17 }
   refine xK 8 (fun K hK => ?_) ?_
   { refine step_allocA (t := 40) rfl rfl Tryz.zeroValue40 ?_; intro b11 wy hb hx hl; have l11 : w3.heap.size ≤ b11 := Nat.le_trans XC.out.size hl; have AY := Hd hb; clear hb hl; replace OA := Hd (owns_ext OA.out hx); replace XC := Hd (XC.out.tr hx); clear hx; refine kG hK (HS3.out _ XC.out) fun kh => ?_; (try simp only [kS]); clear kh; revert XC; revert AY; revert l11; revert b11; revert OA; revert ca; revert va; revert wy; exact k18 }
   exact nK
   }
   {
   intro wy b10 l10 AX b11 l11 AY XC; refine rK [1, 6] ?_; refine xK 1 (fun K hK => ?_) ?_
   { refine cK #[.agg #[.slice aj nj cj, .int .i64 p.warm, .int .i64 p.tail, .int .i64 p.dirt]] Tryz.func7 (HOWN.out _ XC.out) ?_; rintro e wy ⟨vn, rfl, hx, ho1⟩; obtain ⟨va, ca, rfl⟩ := row_form ho1; refine ⟨_, rfl, ?_⟩; have OA := Hd (owns_weak ho1 XC.out.size); clear ho1; replace AX := Hd (AX.out.ext hx); replace AY := Hd (AY.out.ext hx); replace XC := Hd (XC.out.tr hx); clear hx; refine kG hK (HS3.out _ XC.out) fun kh => ?_; (try simp only [kS]); clear kh; revert XC; revert AY; revert l11; revert b11; revert AX; revert l10; revert b10; revert OA; revert ca; revert va; revert wy; exact k178 }
   refine xK 6 (fun K hK => ?_) ?_
   { refine step_allocA (t := 34) rfl rfl Tryz.zeroValue34 ?_; intro b9 wy hb hx hl; have l9 : w3.heap.size ≤ b9 := Nat.le_trans XC.out.size hl; have A9 := Hd hb; clear hb hl; replace AX := Hd (AX.out.ext hx); replace AY := Hd (AY.out.ext hx); replace XC := Hd (XC.out.tr hx); clear hx; refine kG hK (HS3.out _ XC.out) fun kh => ?_; (try simp only [kS]); clear kh; revert XC; revert AY; revert l11; revert b11; revert AX; revert l10; revert b10; revert A9; revert l9; revert b9; revert wy; exact k678 }
   exact nK
   }
   {
   intro wy b9 l9 A9 b11 l11 AY XC; refine rK [1, 7] ?_; refine xK 1 (fun K hK => ?_) ?_
   { refine cK #[.agg #[.slice aj nj cj, .int .i64 p.warm, .int .i64 p.tail, .int .i64 p.dirt]] Tryz.func7 (HOWN.out _ XC.out) ?_; rintro e wy ⟨vn, rfl, hx, ho1⟩; obtain ⟨va, ca, rfl⟩ := row_form ho1; refine ⟨_, rfl, ?_⟩; have OA := Hd (owns_weak ho1 XC.out.size); clear ho1; replace A9 := Hd (A9.out.ext hx); replace AY := Hd (AY.out.ext hx); replace XC := Hd (XC.out.tr hx); clear hx; refine kG hK (HS3.out _ XC.out) fun kh => ?_; (try simp only [kS]); clear kh; revert XC; revert AY; revert l11; revert b11; revert A9; revert l9; revert b9; revert OA; revert ca; revert va; revert wy; exact k168 }
   refine xK 7 (fun K hK => ?_) ?_
   { refine step_allocA (t := 38) rfl rfl Tryz.zeroValue38 ?_; intro b10 wy hb hx hl; have l10 : w3.heap.size ≤ b10 := Nat.le_trans XC.out.size hl; have AX := Hd hb; clear hb hl; replace A9 := Hd (A9.out.ext hx); replace AY := Hd (AY.out.ext hx); replace XC := Hd (XC.out.tr hx); clear hx; refine kG hK (HS3.out _ XC.out) fun kh => ?_; (try simp only [kS]); clear kh; revert XC; revert AY; revert l11; revert b11; revert AX; revert l10; revert b10; revert A9; revert l9; revert b9; revert wy; exact k678 }
   exact nK
   }
   {
   intro wy b9 l9 A9 b10 l10 AX XC; refine rK [1, 8] ?_; refine xK 1 (fun K hK => ?_) ?_
   { refine cK #[.agg #[.slice aj nj cj, .int .i64 p.warm, .int .i64 p.tail, .int .i64 p.dirt]] Tryz.func7 (HOWN.out _ XC.out) ?_; rintro e wy ⟨vn, rfl, hx, ho1⟩; obtain ⟨va, ca, rfl⟩ := row_form ho1; refine ⟨_, rfl, ?_⟩; have OA := Hd (owns_weak ho1 XC.out.size); clear ho1; replace A9 := Hd (A9.out.ext hx); replace AX := Hd (AX.out.ext hx); replace XC := Hd (XC.out.tr hx); clear hx; refine kG hK (HS3.out _ XC.out) fun kh => ?_; (try simp only [kS]); clear kh; revert XC; revert AX; revert l10; revert b10; revert A9; revert l9; revert b9; revert OA; revert ca; revert va; revert wy; exact k167 }
   refine xK 8 (fun K hK => ?_) ?_
   { refine step_allocA (t := 40) rfl rfl Tryz.zeroValue40 ?_; intro b11 wy hb hx hl; have l11 : w3.heap.size ≤ b11 := Nat.le_trans XC.out.size hl; have AY := Hd hb; clear hb hl; replace A9 := Hd (A9.out.ext hx); replace AX := Hd (AX.out.ext hx); replace XC := Hd (XC.out.tr hx); clear hx; refine kG hK (HS3.out _ XC.out) fun kh => ?_; (try simp only [kS]); clear kh; revert XC; revert AY; revert l11; revert b11; revert AX; revert l10; revert b10; revert A9; revert l9; revert b9; revert wy; exact k678 }
   exact nK
   }
   {
   intro wy va ca OA b11 l11 AY XC; refine rK [3, 6, 7] ?_; refine xK 3 (fun K hK => ?_) ?_
   { refine cK #[.agg #[.int .i64 s.drive, .bool s.folder, .slice au nu cu, .int .i64 s.fresh]] Tryz.func8 (HSTA.out _ XC.out) ?_; rintro e wy ⟨vn, rfl, hx, ho1⟩; obtain ⟨vb, cb, rfl⟩ := row_form ho1; refine ⟨_, rfl, ?_⟩; have OB := Hd (owns_weak ho1 XC.out.size); clear ho1; replace OA := Hd (owns_ext OA.out hx); replace AY := Hd (AY.out.ext hx); replace XC := Hd (XC.out.tr hx); clear hx; refine kG hK (HS3.out _ XC.out) fun kh => ?_; (try simp only [kS]); clear kh; revert XC; revert AY; revert l11; revert b11; revert OB; revert cb; revert vb; revert OA; revert ca; revert va; revert wy; exact k138 }
   refine xK 6 (fun K hK => ?_) ?_
   { refine step_allocA (t := 34) rfl rfl Tryz.zeroValue34 ?_; intro b9 wy hb hx hl; have l9 : w3.heap.size ≤ b9 := Nat.le_trans XC.out.size hl; have A9 := Hd hb; clear hb hl; replace OA := Hd (owns_ext OA.out hx); replace AY := Hd (AY.out.ext hx); replace XC := Hd (XC.out.tr hx); clear hx; refine kG hK (HS3.out _ XC.out) fun kh => ?_; (try simp only [kS]); clear kh; revert XC; revert AY; revert l11; revert b11; revert A9; revert l9; revert b9; revert OA; revert ca; revert va; revert wy; exact k168 }
   refine xK 7 (fun K hK => ?_) ?_
   { refine step_allocA (t := 38) rfl rfl Tryz.zeroValue38 ?_; intro b10 wy hb hx hl; have l10 : w3.heap.size ≤ b10 := Nat.le_trans XC.out.size hl; have AX := Hd hb; clear hb hl; replace OA := Hd (owns_ext OA.out hx); replace AY := Hd (AY.out.ext hx); replace XC := Hd (XC.out.tr hx); clear hx; refine kG hK (HS3.out _ XC.out) fun kh => ?_; (try simp only [kS]); clear kh; revert XC; revert AY; revert l11; revert b11; revert AX; revert l10; revert b10; revert OA; revert ca; revert va; revert wy; exact k178 }
   exact nK
   }
   {
   intro wy va ca OA b10 l10 AX XC; refine rK [3, 6, 8] ?_; refine xK 3 (fun K hK => ?_) ?_
   { refine cK #[.agg #[.int .i64 s.drive, .bool s.folder, .slice au nu cu, .int .i64 s.fresh]] Tryz.func8 (HSTA.out _ XC.out) ?_; rintro e wy ⟨vn, rfl, hx, ho1⟩; obtain ⟨vb, cb, rfl⟩ := row_form ho1; refine ⟨_, rfl, ?_⟩; have OB := Hd (owns_weak ho1 XC.out.size); clear ho1; replace OA := Hd (owns_ext OA.out hx); replace AX := Hd (AX.out.ext hx); replace XC := Hd (XC.out.tr hx); clear hx; refine kG hK (HS3.out _ XC.out) fun kh => ?_; (try simp only [kS]); clear kh; revert XC; revert AX; revert l10; revert b10; revert OB; revert cb; revert vb; revert OA; revert ca; revert va; revert wy; exact k137 }
   refine xK 6 (fun K hK => ?_) ?_
   { refine step_allocA (t := 34) rfl rfl Tryz.zeroValue34 ?_; intro b9 wy hb hx hl; have l9 : w3.heap.size ≤ b9 := Nat.le_trans XC.out.size hl; have A9 := Hd hb; clear hb hl; replace OA := Hd (owns_ext OA.out hx); replace AX := Hd (AX.out.ext hx); replace XC := Hd (XC.out.tr hx); clear hx; refine kG hK (HS3.out _ XC.out) fun kh => ?_; (try simp only [kS]); clear kh; revert XC; revert AX; revert l10; revert b10; revert A9; revert l9; revert b9; revert OA; revert ca; revert va; revert wy; exact k167 }
   refine xK 8 (fun K hK => ?_) ?_
   { refine step_allocA (t := 40) rfl rfl Tryz.zeroValue40 ?_; intro b11 wy hb hx hl; have l11 : w3.heap.size ≤ b11 := Nat.le_trans XC.out.size hl; have AY := Hd hb; clear hb hl; replace OA := Hd (owns_ext OA.out hx); replace AX := Hd (AX.out.ext hx); replace XC := Hd (XC.out.tr hx); clear hx; refine kG hK (HS3.out _ XC.out) fun kh => ?_; (try simp only [kS]); clear kh; revert XC; revert AY; revert l11; revert b11; revert AX; revert l10; revert b10; revert OA; revert ca; revert va; revert wy; exact k178 }
   exact nK
   }
   {
   intro wy va ca OA b9 l9 A9 XC; refine rK [3, 7, 8] ?_; refine xK 3 (fun K hK => ?_) ?_
   { refine cK #[.agg #[.int .i64 s.drive, .bool s.folder, .slice au nu cu, .int .i64 s.fresh]] Tryz.func8 (HSTA.out _ XC.out) ?_; rintro e wy ⟨vn, rfl, hx, ho1⟩; obtain ⟨vb, cb, rfl⟩ := row_form ho1; refine ⟨_, rfl, ?_⟩; have OB := Hd (owns_weak ho1 XC.out.size); clear ho1; replace OA := Hd (owns_ext OA.out hx); replace A9 := Hd (A9.out.ext hx); replace XC := Hd (XC.out.tr hx); clear hx; refine kG hK (HS3.out _ XC.out) fun kh => ?_; (try simp only [kS]); clear kh; revert XC; revert A9; revert l9; revert b9; revert OB; revert cb; revert vb; revert OA; revert ca; revert va; revert wy; exact k136 }
   refine xK 7 (fun K hK => ?_) ?_
   { refine step_allocA (t := 38) rfl rfl Tryz.zeroValue38 ?_; intro b10 wy hb hx hl; have l10 : w3.heap.size ≤ b10 := Nat.le_trans XC.out.size hl; have AX := Hd hb; clear hb hl; replace OA := Hd (owns_ext OA.out hx); replace A9 := Hd (A9.out.ext hx); replace XC := Hd (XC.out.tr hx); clear hx; refine kG hK (HS3.out _ XC.out) fun kh => ?_; (try simp only [kS]); clear kh; revert XC; revert AX; revert l10; revert b10; revert A9; revert l9; revert b9; revert OA; revert ca; revert va; revert wy; exact k167 }
   refine xK 8 (fun K hK => ?_) ?_
   { refine step_allocA (t := 40) rfl rfl Tryz.zeroValue40 ?_; intro b11 wy hb hx hl; have l11 : w3.heap.size ≤ b11 := Nat.le_trans XC.out.size hl; have AY := Hd hb; clear hb hl; replace OA := Hd (owns_ext OA.out hx); replace A9 := Hd (A9.out.ext hx); replace XC := Hd (XC.out.tr hx); clear hx; refine kG hK (HS3.out _ XC.out) fun kh => ?_; (try simp only [kS]); clear kh; revert XC; revert AY; revert l11; revert b11; revert A9; revert l9; revert b9; revert OA; revert ca; revert va; revert wy; exact k168 }
   exact nK
   }
   {
   intro wy va ca OA vb cb OB XC; refine rK [5, 6, 7, 8] ?_; refine xK 5 (fun K hK => ?_) ?_
   { refine cK #[.agg #[.int .i64 g.drive, .slice ag ng cg]] Tryz.func9 (HGOA.out _ XC.out) ?_; rintro e wy ⟨vn, rfl, hx, ho1⟩; obtain ⟨vd, cd, rfl⟩ := row_form ho1; refine ⟨_, rfl, ?_⟩; have OC := Hd (owns_weak ho1 XC.out.size); clear ho1; replace OA := Hd (owns_ext OA.out hx); replace OB := Hd (owns_ext OB.out hx); replace XC := Hd (XC.out.tr hx); clear hx; refine kG hK (HS3.out _ XC.out) fun kh => ?_; (try simp only [kS]); clear kh; revert XC; revert OC; revert cd; revert vd; revert OB; revert cb; revert vb; revert OA; revert ca; revert va; revert wy; exact k135 }
   refine xK 6 (fun K hK => ?_) ?_
   { refine step_allocA (t := 34) rfl rfl Tryz.zeroValue34 ?_; intro b9 wy hb hx hl; have l9 : w3.heap.size ≤ b9 := Nat.le_trans XC.out.size hl; have A9 := Hd hb; clear hb hl; replace OA := Hd (owns_ext OA.out hx); replace OB := Hd (owns_ext OB.out hx); replace XC := Hd (XC.out.tr hx); clear hx; refine kG hK (HS3.out _ XC.out) fun kh => ?_; (try simp only [kS]); clear kh; revert XC; revert A9; revert l9; revert b9; revert OB; revert cb; revert vb; revert OA; revert ca; revert va; revert wy; exact k136 }
   refine xK 7 (fun K hK => ?_) ?_
   { refine step_allocA (t := 38) rfl rfl Tryz.zeroValue38 ?_; intro b10 wy hb hx hl; have l10 : w3.heap.size ≤ b10 := Nat.le_trans XC.out.size hl; have AX := Hd hb; clear hb hl; replace OA := Hd (owns_ext OA.out hx); replace OB := Hd (owns_ext OB.out hx); replace XC := Hd (XC.out.tr hx); clear hx; refine kG hK (HS3.out _ XC.out) fun kh => ?_; (try simp only [kS]); clear kh; revert XC; revert AX; revert l10; revert b10; revert OB; revert cb; revert vb; revert OA; revert ca; revert va; revert wy; exact k137 }
   refine xK 8 (fun K hK => ?_) ?_
   { refine step_allocA (t := 40) rfl rfl Tryz.zeroValue40 ?_; intro b11 wy hb hx hl; have l11 : w3.heap.size ≤ b11 := Nat.le_trans XC.out.size hl; have AY := Hd hb; clear hb hl; replace OA := Hd (owns_ext OA.out hx); replace OB := Hd (owns_ext OB.out hx); replace XC := Hd (XC.out.tr hx); clear hx; refine kG hK (HS3.out _ XC.out) fun kh => ?_; (try simp only [kS]); clear kh; revert XC; revert AY; revert l11; revert b11; revert OB; revert cb; revert vb; revert OA; revert ca; revert va; revert wy; exact k138 }
   exact nK
   }
   {
   intro wy b9 l9 A9 b10 l10 AX b11 l11 AY XC; refine rK [1] ?_; refine xK 1 (fun K hK => ?_) ?_
   { refine cK #[.agg #[.slice aj nj cj, .int .i64 p.warm, .int .i64 p.tail, .int .i64 p.dirt]] Tryz.func7 (HOWN.out _ XC.out) ?_; rintro e wy ⟨vn, rfl, hx, ho1⟩; obtain ⟨va, ca, rfl⟩ := row_form ho1; refine ⟨_, rfl, ?_⟩; have OA := Hd (owns_weak ho1 XC.out.size); clear ho1; replace A9 := Hd (A9.out.ext hx); replace AX := Hd (AX.out.ext hx); replace AY := Hd (AY.out.ext hx); replace XC := Hd (XC.out.tr hx); clear hx; refine kG hK (HS3.out _ XC.out) fun kh => ?_; (try simp only [kS]); clear kh; revert XC; revert AY; revert l11; revert b11; revert AX; revert l10; revert b10; revert A9; revert l9; revert b9; revert OA; revert ca; revert va; revert wy; exact k1678 }
   exact nK
   }
   {
   intro wy va ca OA b10 l10 AX b11 l11 AY XC; refine rK [3, 6] ?_; refine xK 3 (fun K hK => ?_) ?_
   { refine cK #[.agg #[.int .i64 s.drive, .bool s.folder, .slice au nu cu, .int .i64 s.fresh]] Tryz.func8 (HSTA.out _ XC.out) ?_; rintro e wy ⟨vn, rfl, hx, ho1⟩; obtain ⟨vb, cb, rfl⟩ := row_form ho1; refine ⟨_, rfl, ?_⟩; have OB := Hd (owns_weak ho1 XC.out.size); clear ho1; replace OA := Hd (owns_ext OA.out hx); replace AX := Hd (AX.out.ext hx); replace AY := Hd (AY.out.ext hx); replace XC := Hd (XC.out.tr hx); clear hx; refine kG hK (HS3.out _ XC.out) fun kh => ?_; (try simp only [kS]); clear kh; revert XC; revert AY; revert l11; revert b11; revert AX; revert l10; revert b10; revert OB; revert cb; revert vb; revert OA; revert ca; revert va; revert wy; exact k1378 }
   refine xK 6 (fun K hK => ?_) ?_
   { refine step_allocA (t := 34) rfl rfl Tryz.zeroValue34 ?_; intro b9 wy hb hx hl; have l9 : w3.heap.size ≤ b9 := Nat.le_trans XC.out.size hl; have A9 := Hd hb; clear hb hl; replace OA := Hd (owns_ext OA.out hx); replace AX := Hd (AX.out.ext hx); replace AY := Hd (AY.out.ext hx); replace XC := Hd (XC.out.tr hx); clear hx; refine kG hK (HS3.out _ XC.out) fun kh => ?_; (try simp only [kS]); clear kh; revert XC; revert AY; revert l11; revert b11; revert AX; revert l10; revert b10; revert A9; revert l9; revert b9; revert OA; revert ca; revert va; revert wy; exact k1678 }
   exact nK
   }
   {
   intro wy va ca OA b9 l9 A9 b11 l11 AY XC; refine rK [3, 7] ?_; refine xK 3 (fun K hK => ?_) ?_
   { refine cK #[.agg #[.int .i64 s.drive, .bool s.folder, .slice au nu cu, .int .i64 s.fresh]] Tryz.func8 (HSTA.out _ XC.out) ?_; rintro e wy ⟨vn, rfl, hx, ho1⟩; obtain ⟨vb, cb, rfl⟩ := row_form ho1; refine ⟨_, rfl, ?_⟩; have OB := Hd (owns_weak ho1 XC.out.size); clear ho1; replace OA := Hd (owns_ext OA.out hx); replace A9 := Hd (A9.out.ext hx); replace AY := Hd (AY.out.ext hx); replace XC := Hd (XC.out.tr hx); clear hx; refine kG hK (HS3.out _ XC.out) fun kh => ?_; (try simp only [kS]); clear kh; revert XC; revert AY; revert l11; revert b11; revert A9; revert l9; revert b9; revert OB; revert cb; revert vb; revert OA; revert ca; revert va; revert wy; exact k1368 }
   refine xK 7 (fun K hK => ?_) ?_
   { refine step_allocA (t := 38) rfl rfl Tryz.zeroValue38 ?_; intro b10 wy hb hx hl; have l10 : w3.heap.size ≤ b10 := Nat.le_trans XC.out.size hl; have AX := Hd hb; clear hb hl; replace OA := Hd (owns_ext OA.out hx); replace A9 := Hd (A9.out.ext hx); replace AY := Hd (AY.out.ext hx); replace XC := Hd (XC.out.tr hx); clear hx; refine kG hK (HS3.out _ XC.out) fun kh => ?_; (try simp only [kS]); clear kh; revert XC; revert AY; revert l11; revert b11; revert AX; revert l10; revert b10; revert A9; revert l9; revert b9; revert OA; revert ca; revert va; revert wy; exact k1678 }
   exact nK
   }
   {
   intro wy va ca OA b9 l9 A9 b10 l10 AX XC; refine rK [3, 8] ?_; refine xK 3 (fun K hK => ?_) ?_
   { refine cK #[.agg #[.int .i64 s.drive, .bool s.folder, .slice au nu cu, .int .i64 s.fresh]] Tryz.func8 (HSTA.out _ XC.out) ?_; rintro e wy ⟨vn, rfl, hx, ho1⟩; obtain ⟨vb, cb, rfl⟩ := row_form ho1; refine ⟨_, rfl, ?_⟩; have OB := Hd (owns_weak ho1 XC.out.size); clear ho1; replace OA := Hd (owns_ext OA.out hx); replace A9 := Hd (A9.out.ext hx); replace AX := Hd (AX.out.ext hx); replace XC := Hd (XC.out.tr hx); clear hx; refine kG hK (HS3.out _ XC.out) fun kh => ?_; (try simp only [kS]); clear kh; revert XC; revert AX; revert l10; revert b10; revert A9; revert l9; revert b9; revert OB; revert cb; revert vb; revert OA; revert ca; revert va; revert wy; exact k1367 }
   refine xK 8 (fun K hK => ?_) ?_
   { refine step_allocA (t := 40) rfl rfl Tryz.zeroValue40 ?_; intro b11 wy hb hx hl; have l11 : w3.heap.size ≤ b11 := Nat.le_trans XC.out.size hl; have AY := Hd hb; clear hb hl; replace OA := Hd (owns_ext OA.out hx); replace A9 := Hd (A9.out.ext hx); replace AX := Hd (AX.out.ext hx); replace XC := Hd (XC.out.tr hx); clear hx; refine kG hK (HS3.out _ XC.out) fun kh => ?_; (try simp only [kS]); clear kh; revert XC; revert AY; revert l11; revert b11; revert AX; revert l10; revert b10; revert A9; revert l9; revert b9; revert OA; revert ca; revert va; revert wy; exact k1678 }
   exact nK
   }
   {
   intro wy va ca OA vb cb OB b11 l11 AY XC; refine rK [5, 6, 7] ?_; refine xK 5 (fun K hK => ?_) ?_
   { refine cK #[.agg #[.int .i64 g.drive, .slice ag ng cg]] Tryz.func9 (HGOA.out _ XC.out) ?_; rintro e wy ⟨vn, rfl, hx, ho1⟩; obtain ⟨vd, cd, rfl⟩ := row_form ho1; refine ⟨_, rfl, ?_⟩; have OC := Hd (owns_weak ho1 XC.out.size); clear ho1; replace OA := Hd (owns_ext OA.out hx); replace OB := Hd (owns_ext OB.out hx); replace AY := Hd (AY.out.ext hx); replace XC := Hd (XC.out.tr hx); clear hx; refine kG hK (HS3.out _ XC.out) fun kh => ?_; (try simp only [kS]); clear kh; revert XC; revert AY; revert l11; revert b11; revert OC; revert cd; revert vd; revert OB; revert cb; revert vb; revert OA; revert ca; revert va; revert wy; exact k1358 }
   refine xK 6 (fun K hK => ?_) ?_
   { refine step_allocA (t := 34) rfl rfl Tryz.zeroValue34 ?_; intro b9 wy hb hx hl; have l9 : w3.heap.size ≤ b9 := Nat.le_trans XC.out.size hl; have A9 := Hd hb; clear hb hl; replace OA := Hd (owns_ext OA.out hx); replace OB := Hd (owns_ext OB.out hx); replace AY := Hd (AY.out.ext hx); replace XC := Hd (XC.out.tr hx); clear hx; refine kG hK (HS3.out _ XC.out) fun kh => ?_; (try simp only [kS]); clear kh; revert XC; revert AY; revert l11; revert b11; revert A9; revert l9; revert b9; revert OB; revert cb; revert vb; revert OA; revert ca; revert va; revert wy; exact k1368 }
   refine xK 7 (fun K hK => ?_) ?_
   { refine step_allocA (t := 38) rfl rfl Tryz.zeroValue38 ?_; intro b10 wy hb hx hl; have l10 : w3.heap.size ≤ b10 := Nat.le_trans XC.out.size hl; have AX := Hd hb; clear hb hl; replace OA := Hd (owns_ext OA.out hx); replace OB := Hd (owns_ext OB.out hx); replace AY := Hd (AY.out.ext hx); replace XC := Hd (XC.out.tr hx); clear hx; refine kG hK (HS3.out _ XC.out) fun kh => ?_; (try simp only [kS]); clear kh; revert XC; revert AY; revert l11; revert b11; revert AX; revert l10; revert b10; revert OB; revert cb; revert vb; revert OA; revert ca; revert va; revert wy; exact k1378 }
   exact nK
   }
   {
   intro wy va ca OA vb cb OB b10 l10 AX XC; refine rK [5, 6, 8] ?_; refine xK 5 (fun K hK => ?_) ?_
   { refine cK #[.agg #[.int .i64 g.drive, .slice ag ng cg]] Tryz.func9 (HGOA.out _ XC.out) ?_; rintro e wy ⟨vn, rfl, hx, ho1⟩; obtain ⟨vd, cd, rfl⟩ := row_form ho1; refine ⟨_, rfl, ?_⟩; have OC := Hd (owns_weak ho1 XC.out.size); clear ho1; replace OA := Hd (owns_ext OA.out hx); replace OB := Hd (owns_ext OB.out hx); replace AX := Hd (AX.out.ext hx); replace XC := Hd (XC.out.tr hx); clear hx; refine kG hK (HS3.out _ XC.out) fun kh => ?_; (try simp only [kS]); clear kh; revert XC; revert AX; revert l10; revert b10; revert OC; revert cd; revert vd; revert OB; revert cb; revert vb; revert OA; revert ca; revert va; revert wy; exact k1357 }
   refine xK 6 (fun K hK => ?_) ?_
   { refine step_allocA (t := 34) rfl rfl Tryz.zeroValue34 ?_; intro b9 wy hb hx hl; have l9 : w3.heap.size ≤ b9 := Nat.le_trans XC.out.size hl; have A9 := Hd hb; clear hb hl; replace OA := Hd (owns_ext OA.out hx); replace OB := Hd (owns_ext OB.out hx); replace AX := Hd (AX.out.ext hx); replace XC := Hd (XC.out.tr hx); clear hx; refine kG hK (HS3.out _ XC.out) fun kh => ?_; (try simp only [kS]); clear kh; revert XC; revert AX; revert l10; revert b10; revert A9; revert l9; revert b9; revert OB; revert cb; revert vb; revert OA; revert ca; revert va; revert wy; exact k1367 }
   refine xK 8 (fun K hK => ?_) ?_
   { refine step_allocA (t := 40) rfl rfl Tryz.zeroValue40 ?_; intro b11 wy hb hx hl; have l11 : w3.heap.size ≤ b11 := Nat.le_trans XC.out.size hl; have AY := Hd hb; clear hb hl; replace OA := Hd (owns_ext OA.out hx); replace OB := Hd (owns_ext OB.out hx); replace AX := Hd (AX.out.ext hx); replace XC := Hd (XC.out.tr hx); clear hx; refine kG hK (HS3.out _ XC.out) fun kh => ?_; (try simp only [kS]); clear kh; revert XC; revert AY; revert l11; revert b11; revert AX; revert l10; revert b10; revert OB; revert cb; revert vb; revert OA; revert ca; revert va; revert wy; exact k1378 }
   exact nK
   }
   {
   intro wy va ca OA vb cb OB b9 l9 A9 XC; refine rK [5, 7, 8] ?_; refine xK 5 (fun K hK => ?_) ?_
   { refine cK #[.agg #[.int .i64 g.drive, .slice ag ng cg]] Tryz.func9 (HGOA.out _ XC.out) ?_; rintro e wy ⟨vn, rfl, hx, ho1⟩; obtain ⟨vd, cd, rfl⟩ := row_form ho1; refine ⟨_, rfl, ?_⟩; have OC := Hd (owns_weak ho1 XC.out.size); clear ho1; replace OA := Hd (owns_ext OA.out hx); replace OB := Hd (owns_ext OB.out hx); replace A9 := Hd (A9.out.ext hx); replace XC := Hd (XC.out.tr hx); clear hx; refine kG hK (HS3.out _ XC.out) fun kh => ?_; (try simp only [kS]); clear kh; revert XC; revert A9; revert l9; revert b9; revert OC; revert cd; revert vd; revert OB; revert cb; revert vb; revert OA; revert ca; revert va; revert wy; exact k1356 }
   refine xK 7 (fun K hK => ?_) ?_
   { refine step_allocA (t := 38) rfl rfl Tryz.zeroValue38 ?_; intro b10 wy hb hx hl; have l10 : w3.heap.size ≤ b10 := Nat.le_trans XC.out.size hl; have AX := Hd hb; clear hb hl; replace OA := Hd (owns_ext OA.out hx); replace OB := Hd (owns_ext OB.out hx); replace A9 := Hd (A9.out.ext hx); replace XC := Hd (XC.out.tr hx); clear hx; refine kG hK (HS3.out _ XC.out) fun kh => ?_; (try simp only [kS]); clear kh; revert XC; revert AX; revert l10; revert b10; revert A9; revert l9; revert b9; revert OB; revert cb; revert vb; revert OA; revert ca; revert va; revert wy; exact k1367 }
   refine xK 8 (fun K hK => ?_) ?_
   { refine step_allocA (t := 40) rfl rfl Tryz.zeroValue40 ?_; intro b11 wy hb hx hl; have l11 : w3.heap.size ≤ b11 := Nat.le_trans XC.out.size hl; have AY := Hd hb; clear hb hl; replace OA := Hd (owns_ext OA.out hx); replace OB := Hd (owns_ext OB.out hx); replace A9 := Hd (A9.out.ext hx); replace XC := Hd (XC.out.tr hx); clear hx; refine kG hK (HS3.out _ XC.out) fun kh => ?_; (try simp only [kS]); clear kh; revert XC; revert AY; revert l11; revert b11; revert A9; revert l9; revert b9; revert OB; revert cb; revert vb; revert OA; revert ca; revert va; revert wy; exact k1368 }
   exact nK
   }
   {
   intro wy va ca OA vb cb OB vd cd OC XC; refine rK [6, 7, 8] ?_; refine xK 6 (fun K hK => ?_) ?_
   { refine step_allocA (t := 34) rfl rfl Tryz.zeroValue34 ?_; intro b9 wy hb hx hl; have l9 : w3.heap.size ≤ b9 := Nat.le_trans XC.out.size hl; have A9 := Hd hb; clear hb hl; replace OA := Hd (owns_ext OA.out hx); replace OB := Hd (owns_ext OB.out hx); replace OC := Hd (owns_ext OC.out hx); replace XC := Hd (XC.out.tr hx); clear hx; refine kG hK (HS3.out _ XC.out) fun kh => ?_; (try simp only [kS]); clear kh; revert XC; revert A9; revert l9; revert b9; revert OC; revert cd; revert vd; revert OB; revert cb; revert vb; revert OA; revert ca; revert va; revert wy; exact k1356 }
   refine xK 7 (fun K hK => ?_) ?_
   { refine step_allocA (t := 38) rfl rfl Tryz.zeroValue38 ?_; intro b10 wy hb hx hl; have l10 : w3.heap.size ≤ b10 := Nat.le_trans XC.out.size hl; have AX := Hd hb; clear hb hl; replace OA := Hd (owns_ext OA.out hx); replace OB := Hd (owns_ext OB.out hx); replace OC := Hd (owns_ext OC.out hx); replace XC := Hd (XC.out.tr hx); clear hx; refine kG hK (HS3.out _ XC.out) fun kh => ?_; (try simp only [kS]); clear kh; revert XC; revert AX; revert l10; revert b10; revert OC; revert cd; revert vd; revert OB; revert cb; revert vb; revert OA; revert ca; revert va; revert wy; exact k1357 }
   refine xK 8 (fun K hK => ?_) ?_
   { refine step_allocA (t := 40) rfl rfl Tryz.zeroValue40 ?_; intro b11 wy hb hx hl; have l11 : w3.heap.size ≤ b11 := Nat.le_trans XC.out.size hl; have AY := Hd hb; clear hb hl; replace OA := Hd (owns_ext OA.out hx); replace OB := Hd (owns_ext OB.out hx); replace OC := Hd (owns_ext OC.out hx); replace XC := Hd (XC.out.tr hx); clear hx; refine kG hK (HS3.out _ XC.out) fun kh => ?_; (try simp only [kS]); clear kh; revert XC; revert AY; revert l11; revert b11; revert OC; revert cd; revert vd; revert OB; revert cb; revert vb; revert OA; revert ca; revert va; revert wy; exact k1358 }
   exact nK
   }
   {
   intro wy va ca OA b9 l9 A9 b10 l10 AX b11 l11 AY XC; refine rK [3] ?_; refine xK 3 (fun K hK => ?_) ?_
   { refine cK #[.agg #[.int .i64 s.drive, .bool s.folder, .slice au nu cu, .int .i64 s.fresh]] Tryz.func8 (HSTA.out _ XC.out) ?_; rintro e wy ⟨vn, rfl, hx, ho1⟩; obtain ⟨vb, cb, rfl⟩ := row_form ho1; refine ⟨_, rfl, ?_⟩; have OB := Hd (owns_weak ho1 XC.out.size); clear ho1; replace OA := Hd (owns_ext OA.out hx); replace A9 := Hd (A9.out.ext hx); replace AX := Hd (AX.out.ext hx); replace AY := Hd (AY.out.ext hx); replace XC := Hd (XC.out.tr hx); clear hx; refine kG hK (HS3.out _ XC.out) fun kh => ?_; (try simp only [kS]); clear kh; revert XC; revert AY; revert l11; revert b11; revert AX; revert l10; revert b10; revert A9; revert l9; revert b9; revert OB; revert cb; revert vb; revert OA; revert ca; revert va; revert wy; exact k13678 }
   exact nK
   }
   {
   intro wy va ca OA vb cb OB b10 l10 AX b11 l11 AY XC; refine rK [5, 6] ?_; refine xK 5 (fun K hK => ?_) ?_
   { refine cK #[.agg #[.int .i64 g.drive, .slice ag ng cg]] Tryz.func9 (HGOA.out _ XC.out) ?_; rintro e wy ⟨vn, rfl, hx, ho1⟩; obtain ⟨vd, cd, rfl⟩ := row_form ho1; refine ⟨_, rfl, ?_⟩; have OC := Hd (owns_weak ho1 XC.out.size); clear ho1; replace OA := Hd (owns_ext OA.out hx); replace OB := Hd (owns_ext OB.out hx); replace AX := Hd (AX.out.ext hx); replace AY := Hd (AY.out.ext hx); replace XC := Hd (XC.out.tr hx); clear hx; refine kG hK (HS3.out _ XC.out) fun kh => ?_; (try simp only [kS]); clear kh; revert XC; revert AY; revert l11; revert b11; revert AX; revert l10; revert b10; revert OC; revert cd; revert vd; revert OB; revert cb; revert vb; revert OA; revert ca; revert va; revert wy; exact k13578 }
   refine xK 6 (fun K hK => ?_) ?_
   { refine step_allocA (t := 34) rfl rfl Tryz.zeroValue34 ?_; intro b9 wy hb hx hl; have l9 : w3.heap.size ≤ b9 := Nat.le_trans XC.out.size hl; have A9 := Hd hb; clear hb hl; replace OA := Hd (owns_ext OA.out hx); replace OB := Hd (owns_ext OB.out hx); replace AX := Hd (AX.out.ext hx); replace AY := Hd (AY.out.ext hx); replace XC := Hd (XC.out.tr hx); clear hx; refine kG hK (HS3.out _ XC.out) fun kh => ?_; (try simp only [kS]); clear kh; revert XC; revert AY; revert l11; revert b11; revert AX; revert l10; revert b10; revert A9; revert l9; revert b9; revert OB; revert cb; revert vb; revert OA; revert ca; revert va; revert wy; exact k13678 }
   exact nK
   }
   {
   intro wy va ca OA vb cb OB b9 l9 A9 b11 l11 AY XC; refine rK [5, 7] ?_; refine xK 5 (fun K hK => ?_) ?_
   { refine cK #[.agg #[.int .i64 g.drive, .slice ag ng cg]] Tryz.func9 (HGOA.out _ XC.out) ?_; rintro e wy ⟨vn, rfl, hx, ho1⟩; obtain ⟨vd, cd, rfl⟩ := row_form ho1; refine ⟨_, rfl, ?_⟩; have OC := Hd (owns_weak ho1 XC.out.size); clear ho1; replace OA := Hd (owns_ext OA.out hx); replace OB := Hd (owns_ext OB.out hx); replace A9 := Hd (A9.out.ext hx); replace AY := Hd (AY.out.ext hx); replace XC := Hd (XC.out.tr hx); clear hx; refine kG hK (HS3.out _ XC.out) fun kh => ?_; (try simp only [kS]); clear kh; revert XC; revert AY; revert l11; revert b11; revert A9; revert l9; revert b9; revert OC; revert cd; revert vd; revert OB; revert cb; revert vb; revert OA; revert ca; revert va; revert wy; exact k13568 }
   refine xK 7 (fun K hK => ?_) ?_
   { refine step_allocA (t := 38) rfl rfl Tryz.zeroValue38 ?_; intro b10 wy hb hx hl; have l10 : w3.heap.size ≤ b10 := Nat.le_trans XC.out.size hl; have AX := Hd hb; clear hb hl; replace OA := Hd (owns_ext OA.out hx); replace OB := Hd (owns_ext OB.out hx); replace A9 := Hd (A9.out.ext hx); replace AY := Hd (AY.out.ext hx); replace XC := Hd (XC.out.tr hx); clear hx; refine kG hK (HS3.out _ XC.out) fun kh => ?_; (try simp only [kS]); clear kh; revert XC; revert AY; revert l11; revert b11; revert AX; revert l10; revert b10; revert A9; revert l9; revert b9; revert OB; revert cb; revert vb; revert OA; revert ca; revert va; revert wy; exact k13678 }
   exact nK
   }
   {
   intro wy va ca OA vb cb OB b9 l9 A9 b10 l10 AX XC; refine rK [5, 8] ?_; refine xK 5 (fun K hK => ?_) ?_
   { refine cK #[.agg #[.int .i64 g.drive, .slice ag ng cg]] Tryz.func9 (HGOA.out _ XC.out) ?_; rintro e wy ⟨vn, rfl, hx, ho1⟩; obtain ⟨vd, cd, rfl⟩ := row_form ho1; refine ⟨_, rfl, ?_⟩; have OC := Hd (owns_weak ho1 XC.out.size); clear ho1; replace OA := Hd (owns_ext OA.out hx); replace OB := Hd (owns_ext OB.out hx); replace A9 := Hd (A9.out.ext hx); replace AX := Hd (AX.out.ext hx); replace XC := Hd (XC.out.tr hx); clear hx; refine kG hK (HS3.out _ XC.out) fun kh => ?_; (try simp only [kS]); clear kh; revert XC; revert AX; revert l10; revert b10; revert A9; revert l9; revert b9; revert OC; revert cd; revert vd; revert OB; revert cb; revert vb; revert OA; revert ca; revert va; revert wy; exact k13567 }
   refine xK 8 (fun K hK => ?_) ?_
   { refine step_allocA (t := 40) rfl rfl Tryz.zeroValue40 ?_; intro b11 wy hb hx hl; have l11 : w3.heap.size ≤ b11 := Nat.le_trans XC.out.size hl; have AY := Hd hb; clear hb hl; replace OA := Hd (owns_ext OA.out hx); replace OB := Hd (owns_ext OB.out hx); replace A9 := Hd (A9.out.ext hx); replace AX := Hd (AX.out.ext hx); replace XC := Hd (XC.out.tr hx); clear hx; refine kG hK (HS3.out _ XC.out) fun kh => ?_; (try simp only [kS]); clear kh; revert XC; revert AY; revert l11; revert b11; revert AX; revert l10; revert b10; revert A9; revert l9; revert b9; revert OB; revert cb; revert vb; revert OA; revert ca; revert va; revert wy; exact k13678 }
   exact nK
   }
   {
   intro wy va ca OA vb cb OB vd cd OC b11 l11 AY XC; refine rK [6, 7] ?_; refine xK 6 (fun K hK => ?_) ?_
   { refine step_allocA (t := 34) rfl rfl Tryz.zeroValue34 ?_; intro b9 wy hb hx hl; have l9 : w3.heap.size ≤ b9 := Nat.le_trans XC.out.size hl; have A9 := Hd hb; clear hb hl; replace OA := Hd (owns_ext OA.out hx); replace OB := Hd (owns_ext OB.out hx); replace OC := Hd (owns_ext OC.out hx); replace AY := Hd (AY.out.ext hx); replace XC := Hd (XC.out.tr hx); clear hx; refine kG hK (HS3.out _ XC.out) fun kh => ?_; (try simp only [kS]); clear kh; revert XC; revert AY; revert l11; revert b11; revert A9; revert l9; revert b9; revert OC; revert cd; revert vd; revert OB; revert cb; revert vb; revert OA; revert ca; revert va; revert wy; exact k13568 }
   refine xK 7 (fun K hK => ?_) ?_
   { refine step_allocA (t := 38) rfl rfl Tryz.zeroValue38 ?_; intro b10 wy hb hx hl; have l10 : w3.heap.size ≤ b10 := Nat.le_trans XC.out.size hl; have AX := Hd hb; clear hb hl; replace OA := Hd (owns_ext OA.out hx); replace OB := Hd (owns_ext OB.out hx); replace OC := Hd (owns_ext OC.out hx); replace AY := Hd (AY.out.ext hx); replace XC := Hd (XC.out.tr hx); clear hx; refine kG hK (HS3.out _ XC.out) fun kh => ?_; (try simp only [kS]); clear kh; revert XC; revert AY; revert l11; revert b11; revert AX; revert l10; revert b10; revert OC; revert cd; revert vd; revert OB; revert cb; revert vb; revert OA; revert ca; revert va; revert wy; exact k13578 }
   exact nK
   }
   {
   intro wy va ca OA vb cb OB vd cd OC b10 l10 AX XC; refine rK [6, 8] ?_; refine xK 6 (fun K hK => ?_) ?_
   { refine step_allocA (t := 34) rfl rfl Tryz.zeroValue34 ?_; intro b9 wy hb hx hl; have l9 : w3.heap.size ≤ b9 := Nat.le_trans XC.out.size hl; have A9 := Hd hb; clear hb hl; replace OA := Hd (owns_ext OA.out hx); replace OB := Hd (owns_ext OB.out hx); replace OC := Hd (owns_ext OC.out hx); replace AX := Hd (AX.out.ext hx); replace XC := Hd (XC.out.tr hx); clear hx; refine kG hK (HS3.out _ XC.out) fun kh => ?_; (try simp only [kS]); clear kh; revert XC; revert AX; revert l10; revert b10; revert A9; revert l9; revert b9; revert OC; revert cd; revert vd; revert OB; revert cb; revert vb; revert OA; revert ca; revert va; revert wy; exact k13567 }
   refine xK 8 (fun K hK => ?_) ?_
   { refine step_allocA (t := 40) rfl rfl Tryz.zeroValue40 ?_; intro b11 wy hb hx hl; have l11 : w3.heap.size ≤ b11 := Nat.le_trans XC.out.size hl; have AY := Hd hb; clear hb hl; replace OA := Hd (owns_ext OA.out hx); replace OB := Hd (owns_ext OB.out hx); replace OC := Hd (owns_ext OC.out hx); replace AX := Hd (AX.out.ext hx); replace XC := Hd (XC.out.tr hx); clear hx; refine kG hK (HS3.out _ XC.out) fun kh => ?_; (try simp only [kS]); clear kh; revert XC; revert AY; revert l11; revert b11; revert AX; revert l10; revert b10; revert OC; revert cd; revert vd; revert OB; revert cb; revert vb; revert OA; revert ca; revert va; revert wy; exact k13578 }
   exact nK
   }
   {
   intro wy va ca OA vb cb OB vd cd OC b9 l9 A9 XC; refine rK [7, 8] ?_; refine xK 7 (fun K hK => ?_) ?_
   { refine step_allocA (t := 38) rfl rfl Tryz.zeroValue38 ?_; intro b10 wy hb hx hl; have l10 : w3.heap.size ≤ b10 := Nat.le_trans XC.out.size hl; have AX := Hd hb; clear hb hl; replace OA := Hd (owns_ext OA.out hx); replace OB := Hd (owns_ext OB.out hx); replace OC := Hd (owns_ext OC.out hx); replace A9 := Hd (A9.out.ext hx); replace XC := Hd (XC.out.tr hx); clear hx; refine kG hK (HS3.out _ XC.out) fun kh => ?_; (try simp only [kS]); clear kh; revert XC; revert AX; revert l10; revert b10; revert A9; revert l9; revert b9; revert OC; revert cd; revert vd; revert OB; revert cb; revert vb; revert OA; revert ca; revert va; revert wy; exact k13567 }
   refine xK 8 (fun K hK => ?_) ?_
   { refine step_allocA (t := 40) rfl rfl Tryz.zeroValue40 ?_; intro b11 wy hb hx hl; have l11 : w3.heap.size ≤ b11 := Nat.le_trans XC.out.size hl; have AY := Hd hb; clear hb hl; replace OA := Hd (owns_ext OA.out hx); replace OB := Hd (owns_ext OB.out hx); replace OC := Hd (owns_ext OC.out hx); replace A9 := Hd (A9.out.ext hx); replace XC := Hd (XC.out.tr hx); clear hx; refine kG hK (HS3.out _ XC.out) fun kh => ?_; (try simp only [kS]); clear kh; revert XC; revert AY; revert l11; revert b11; revert A9; revert l9; revert b9; revert OC; revert cd; revert vd; revert OB; revert cb; revert vb; revert OA; revert ca; revert va; revert wy; exact k13568 }
   exact nK
   }
   {
   intro wy va ca OA vb cb OB b9 l9 A9 b10 l10 AX b11 l11 AY XC; refine rK [5] ?_; refine xK 5 (fun K hK => ?_) ?_
   { refine cK #[.agg #[.int .i64 g.drive, .slice ag ng cg]] Tryz.func9 (HGOA.out _ XC.out) ?_; rintro e wy ⟨vn, rfl, hx, ho1⟩; obtain ⟨vd, cd, rfl⟩ := row_form ho1; refine ⟨_, rfl, ?_⟩; have OC := Hd (owns_weak ho1 XC.out.size); clear ho1; replace OA := Hd (owns_ext OA.out hx); replace OB := Hd (owns_ext OB.out hx); replace A9 := Hd (A9.out.ext hx); replace AX := Hd (AX.out.ext hx); replace AY := Hd (AY.out.ext hx); replace XC := Hd (XC.out.tr hx); clear hx; refine kG hK (HS3.out _ XC.out) fun kh => ?_; (try simp only [kS]); clear kh; revert XC; revert AY; revert l11; revert b11; revert AX; revert l10; revert b10; revert A9; revert l9; revert b9; revert OC; revert cd; revert vd; revert OB; revert cb; revert vb; revert OA; revert ca; revert va; revert wy; exact k135678 }
   exact nK
   }
   {
   intro wy va ca OA vb cb OB vd cd OC b10 l10 AX b11 l11 AY XC; refine rK [6] ?_; refine xK 6 (fun K hK => ?_) ?_
   { refine step_allocA (t := 34) rfl rfl Tryz.zeroValue34 ?_; intro b9 wy hb hx hl; have l9 : w3.heap.size ≤ b9 := Nat.le_trans XC.out.size hl; have A9 := Hd hb; clear hb hl; replace OA := Hd (owns_ext OA.out hx); replace OB := Hd (owns_ext OB.out hx); replace OC := Hd (owns_ext OC.out hx); replace AX := Hd (AX.out.ext hx); replace AY := Hd (AY.out.ext hx); replace XC := Hd (XC.out.tr hx); clear hx; refine kG hK (HS3.out _ XC.out) fun kh => ?_; (try simp only [kS]); clear kh; revert XC; revert AY; revert l11; revert b11; revert AX; revert l10; revert b10; revert A9; revert l9; revert b9; revert OC; revert cd; revert vd; revert OB; revert cb; revert vb; revert OA; revert ca; revert va; revert wy; exact k135678 }
   exact nK
   }
   {
   intro wy va ca OA vb cb OB vd cd OC b9 l9 A9 b11 l11 AY XC; refine rK [7] ?_; refine xK 7 (fun K hK => ?_) ?_
   { refine step_allocA (t := 38) rfl rfl Tryz.zeroValue38 ?_; intro b10 wy hb hx hl; have l10 : w3.heap.size ≤ b10 := Nat.le_trans XC.out.size hl; have AX := Hd hb; clear hb hl; replace OA := Hd (owns_ext OA.out hx); replace OB := Hd (owns_ext OB.out hx); replace OC := Hd (owns_ext OC.out hx); replace A9 := Hd (A9.out.ext hx); replace AY := Hd (AY.out.ext hx); replace XC := Hd (XC.out.tr hx); clear hx; refine kG hK (HS3.out _ XC.out) fun kh => ?_; (try simp only [kS]); clear kh; revert XC; revert AY; revert l11; revert b11; revert AX; revert l10; revert b10; revert A9; revert l9; revert b9; revert OC; revert cd; revert vd; revert OB; revert cb; revert vb; revert OA; revert ca; revert va; revert wy; exact k135678 }
   exact nK
   }
   {
   intro wy va ca OA vb cb OB vd cd OC b9 l9 A9 b10 l10 AX XC; refine rK [8] ?_; refine xK 8 (fun K hK => ?_) ?_
   { refine step_allocA (t := 40) rfl rfl Tryz.zeroValue40 ?_; intro b11 wy hb hx hl; have l11 : w3.heap.size ≤ b11 := Nat.le_trans XC.out.size hl; have AY := Hd hb; clear hb hl; replace OA := Hd (owns_ext OA.out hx); replace OB := Hd (owns_ext OB.out hx); replace OC := Hd (owns_ext OC.out hx); replace A9 := Hd (A9.out.ext hx); replace AX := Hd (AX.out.ext hx); replace XC := Hd (XC.out.tr hx); clear hx; refine kG hK (HS3.out _ XC.out) fun kh => ?_; (try simp only [kS]); clear kh; revert XC; revert AY; revert l11; revert b11; revert AX; revert l10; revert b10; revert A9; revert l9; revert b9; revert OC; revert cd; revert vd; revert OB; revert cb; revert vb; revert OA; revert ca; revert va; revert wy; exact k135678 }
   exact nK
   }
   {
   intro wy va ca OA vb cb OB vd cd OC b9 l9 A9 b10 l10 AX b11 l11 AY XC; refine rK [9] ?_; refine xK 9 (fun K hK => ?_) ?_
   {
   refine sK #[.slice va nj ca, .int .i64 p.warm, .int .i64 p.tail, .int .i64 p.dirt] A9.out ?_; intro wy hb ho; have oa := owns_only OA.out ho (owns_ne' OA.out A9.out (by decide)); have ob := owns_only OB.out ho (owns_ne' OB.out A9.out (by decide)); have oc := owns_only OC.out ho (owns_ne' OC.out A9.out (by decide)); have a8 := AX.out.only ho (fun e => absurd (blk_ty AX.out (e ▸ A9.out)) (by decide)); have a9 := AY.out.only ho (fun e => absurd (blk_ty AY.out (e ▸ A9.out)) (by decide)); have xc := XC.out.then_only ho (fun b (e : b = b9) => by rw [e]; exact l9); clear OA OB OC A9 AX AY XC ho; have OA := Hd oa; have OB := Hd ob; have OC := Hd oc; have A9 := Hd hb; have AX := Hd a8; have AY := Hd a9; have XC := Hd xc; clear oa ob oc hb a8 a9 xc; refine kH hK rfl ?_; (try clear kh); (try simp only [kS]); refine rK [10] ?_; refine xK 10 (fun K hK => ?_) ?_
   {
   refine sK #[.int .i64 s.drive, .bool s.folder, .slice vb nu cb, .int .i64 s.fresh] AX.out ?_; intro wn2 hb ho; have oa := owns_only OA.out ho (owns_ne' OA.out AX.out (by decide)); have ob := owns_only OB.out ho (owns_ne' OB.out AX.out (by decide)); have oc := owns_only OC.out ho (owns_ne' OC.out AX.out (by decide)); have a7 := A9.out.only ho (fun e => absurd (blk_ty A9.out (e ▸ AX.out)) (by decide)); have a9 := AY.out.only ho (fun e => absurd (blk_ty AY.out (e ▸ AX.out)) (by decide)); have xc := XC.out.then_only ho (fun b (e : b = b10) => by rw [e]; exact l10); clear OA OB OC A9 AX AY XC ho; have OA := Hd oa; have OB := Hd ob; have OC := Hd oc; have AX := Hd hb; have A9 := Hd a7; have AY := Hd a9; have XC := Hd xc; clear oa ob oc hb a7 a9 xc; refine kH hK rfl ?_; (try clear kh); (try simp only [kS]); refine rK [11] ?_; refine xK 11 (fun K hK => ?_) ?_
   {
   refine sK #[.int .i64 g.drive, .slice vd ng cd] AY.out ?_; intro wn3 hb ho; have oa := owns_only OA.out ho (owns_ne' OA.out AY.out (by decide)); have ob := owns_only OB.out ho (owns_ne' OB.out AY.out (by decide)); have oc := owns_only OC.out ho (owns_ne' OC.out AY.out (by decide)); have a7 := A9.out.only ho (fun e => absurd (blk_ty A9.out (e ▸ AY.out)) (by decide)); have a9 := AX.out.only ho (fun e => absurd (blk_ty AX.out (e ▸ AY.out)) (by decide)); have xc := XC.out.then_only ho (fun b (e : b = b11) => by rw [e]; exact l11); clear OA OB OC A9 AX AY XC ho; have OA := Hd oa; have OB := Hd ob; have OC := Hd oc; have AY := Hd hb; have A9 := Hd a7; have AX := Hd a9; have XC := Hd xc; clear oa ob oc hb a7 a9 xc; refine kH hK rfl ?_; (try clear kh); (try simp only [kS]); refine dK ?_ _; go_wp2; go_meet
   case rel => exact ⟨b9, b10, b11, va, ca, vb, cb, vd, cd, rfl, rfl, rfl, A9, AX, AY, OA, OB, OC, XC⟩
   }
   exact nK
   }
   exact nK
   }
   exact nK
   }
 case rest =>
 obtain ⟨b9, b10, b11, va, ca, vb, cb, vd, cd, rfl, rfl, rfl, B9, B10, B11, OA, OB, OC, X3⟩ := hcut; obtain ⟨w4, rfl⟩ : ∃ W, W = wc := ⟨wc, rfl⟩; have hl6 : s.units.length ≤ 1000000 := (by rw [HNU.out]; have := H20.out.2.1; omega); have hja : Truths w4 (.slice va nj ca) p.jam := Sl.of_owns OA.out
 have hua : UnIn w4 (.slice vb nu cb) s.units := by
  have h5 := OB.out; rw [← HNU.out] at h5 ⊢; exact UnIn.of_owns h5 (by omega)
 have hga : Truths w4 (.slice vd ng cd) g.pressed := Sl.of_owns OC.out; have xb4 := XB2.out.out.ext X3.out; have yb4 := YB2.out.out.ext X3.out; have zb4 := ZB2.out.out.ext X3.out; have x3 := X2.out.out.tr X3.out; clear OA OB OC X2 X3 XB2 YB2 ZB2 HOWN HSTA HGOA HBB
 -- what the functions answer
 obtain ⟨FL, hFL⟩ : ∃ E, findL p s g = E := ⟨_, rfl⟩; have hFi : ∀ a ∈ FL, I64 a.1 := (by rw [← hFL]; exact findL_i64 p s g); have hFn : FL.length ≤ 40000 := (by rw [← hFL]; exact findL_len p s g); obtain ⟨hKn, hKi⟩ := codesK_small p s; have hrd : ∀ cs, rrD p s g cs = refD p s g cs := rrD_eq (fun h => (goErr_len h).1.small.1); have hfi := fun W (k : Ext w4 W) => find_any p s g (.slice va nj ca) (.slice vb nu cb) (.slice vd ng cd) W (Sl.ext hja k) (hua.ext k) (Sl.ext hga k) hl6; have hrf := fun W (k : Ext w4 W) => rFind_any p s g (.slice aj nj cj) (.slice au nu cu) (.slice ag ng cg) W (Sl.ext HJ.out (x3.tr k)) (HU.out.ext (x3.tr k)) (Sl.ext HG.out (x3.tr k)) hl6; have hac := fun (l' : List (Int × Int)) (v : Value) W (h : AcIn W v l') (h2 : l'.length ≤ 1000000) => lawActions_any l' v W h h2; have hve := fun (l' : List (Int × Int)) (v : Value) W (k : Ext w4 W) (h : AcIn W v l') (h2 : ∀ a ∈ l', I64 a.1) => verify_any p s g l' (.slice va nj ca) (.slice vb nu cb) (.slice vd ng cd) v W (Sl.ext hja k) (hua.ext k) (Sl.ext hga k) hl6 h h2; have hrv := fun (l' : List (Int × Int)) (v : Value) W (k : Ext w4 W) (h : AcIn W v l') => rVerify_any p s g l' (.slice aj nj cj) (.slice au nu cu) (.slice ag ng cg) v W (Sl.ext HJ.out (x3.tr k)) (HU.out.ext (x3.tr k)) (Sl.ext HG.out (x3.tr k)) hl6 h; have hcl := fun W (k : Ext w4 W) => (closed_any p s (.slice va nj ca) (.slice vb nu cb) W (Sl.ext hja k) (hua.ext k) hl6).mono (fun e w' h => ClosedPost.one h); have hrc := fun W (k : Ext w4 W) => (rClosed_any p s (.slice aj nj cj) (.slice au nu cu) W (Sl.ext HJ.out (x3.tr k)) (HU.out.ext (x3.tr k)) hl6).mono (fun e w' h => ClosedPost.one h); have hci := fun W (k : Ext w4 W) => copyInts_own codes (.slice ae ne ce) W (Sl.ext HC.out (x3.tr k)) (by rw [HNE.out]; omega); have hre := fun (cs : List Int) (v : Value) W (k : Ext w4 W) (h : Ints W v cs) (h2 : ∀ c ∈ cs, I64 c) => refute_any p s g cs (.slice va nj ca) (.slice vb nu cb) (.slice vd ng cd) v W (Sl.ext hja k) (hua.ext k) (Sl.ext hga k) hl6 h h2; have hrr := fun (cs : List Int) (v : Value) W (k : Ext w4 W) (h : Ints W v cs) => rRefute_any p s g cs (.slice aj nj cj) (.slice au nu cu) (.slice ag ng cg) v W (Sl.ext HJ.out (x3.tr k)) (HU.out.ext (x3.tr k)) (Sl.ext HG.out (x3.tr k)) hl6 h; have hsm := fun W (k : Ext w4 W) => same_eq s (.slice vb nu cb) (.slice au nu cu) W (hua.ext k) (HU.out.ext (x3.tr k)); have hst := fun W (k : Ext w4 W) => sameTruths_eq g.pressed (.slice vd ng cd) (.slice ag ng cg) W (Sl.ext hga k) (Sl.ext HG.out (x3.tr k)); have hvl := fun W (k : Ext w4 W) => HV.out.ext (x3.tr k); have hcc := fun W (k : Ext w4 W) => Sl.ext HC.out (x3.tr k); simp only [hrd] at hrr; obtain ⟨FE, hFE⟩ : ∃ E, fiErr p s g = E := ⟨_, rfl⟩; obtain ⟨V1, hV1⟩ : ∃ E, vfErr p s g l = E := ⟨_, rfl⟩; obtain ⟨V2, hV2⟩ : ∃ E, vfErr p s g FL = E := ⟨_, rfl⟩; obtain ⟨CE, hCE⟩ : ∃ E, stErr p s = E := ⟨_, rfl⟩; obtain ⟨KL, hKL⟩ : ∃ E, codesK p s = E := ⟨_, rfl⟩; obtain ⟨R1, hR1⟩ : ∃ E, refD p s g codes = E := ⟨_, rfl⟩; obtain ⟨R2, hR2⟩ : ∃ E, refD p s g KL = E := ⟨_, rfl⟩; unfold FindPost at hfi; rw [hFL, hFE] at hfi hrf; rw [hCE, hKL] at hcl hrc; rw [hKL] at hKn hKi; have hve1 := hve l; have hve2 := hve FL; have hrv1 := hrv l; have hrv2 := hrv FL; have hre1 := hre codes; have hre2 := hre KL; have hrr1 := hrr codes; have hrr2 := hrr KL; rw [hV1] at hve1 hrv1; rw [hV2] at hve2 hrv2; rw [hR1] at hre1 hrr1; rw [hR2] at hre2 hrr2; obtain ⟨nf, hnf⟩ : ∃ m, FL.length = m := ⟨_, rfl⟩; rw [hnf] at hfi hFn; obtain ⟨nk, hnk⟩ : ∃ m, KL.length = m := ⟨_, rfl⟩; rw [hnk] at hcl hrc hKn; rw [HNE.out] at hci; unfold pV sV gV at hfi hrf hve1 hve2 hrv1 hrv2 hre1 hre2 hrr1 hrr2; unfold pV sV at hcl hrc; unfold sV at hsm
 have hS : ∀ W, Ext w4 W → ((∀ j, W.cell? ⟨b9, j, none⟩ = (#[.slice va nj ca, .int .i64 p.warm, .int .i64 p.tail, .int .i64 p.dirt] : Array Value)[j]?) ∧ (∀ j, W.cell? ⟨b10, j, none⟩ = (#[.int .i64 s.drive, .bool s.folder, .slice vb nu cb, .int .i64 s.fresh] : Array Value)[j]?) ∧ (∀ j, W.cell? ⟨b11, j, none⟩ = (#[.int .i64 g.drive, .slice vd ng cd] : Array Value)[j]?) ∧ (∀ j, W.cell? ⟨xb, j, none⟩ = (#[.slice aj nj cj, .int .i64 p.warm, .int .i64 p.tail, .int .i64 p.dirt] : Array Value)[j]?) ∧ (∀ j, W.cell? ⟨yb, j, none⟩ = (#[.int .i64 s.drive, .bool s.folder, .slice au nu cu, .int .i64 s.fresh] : Array Value)[j]?) ∧ (∀ j, W.cell? ⟨zb, j, none⟩ = (#[.int .i64 g.drive, .slice ag ng cg] : Array Value)[j]?)) :=
  fun W hx => ⟨(B9.out.ext hx).cell, (B10.out.ext hx).cell, (B11.out.ext hx).cell, (xb4.ext hx).cell, (yb4.ext hx).cell, (zb4.ext hx).cell⟩
 have dx : Ext w4 w4 := Below.refl _ _; obtain ⟨d1, d2, d3, d4, d5, d6⟩ := hS _ dx; clear hja hua hga hFL hFE hV1 hV2 hCE hKL hR1 hR2 hrd hve hrv hre hrr xb4 yb4 zb4 HJ HU HG hl6; have X := Hd x3; have Y := Hd dx; have HFI := Hd hfi; have HRF := Hd hrf; have HAC := Hd hac; have HV1 := Hd hve1; have HV2 := Hd hve2; have HRV1 := Hd hrv1; have HRV2 := Hd hrv2; have HCL := Hd hcl; have HRC := Hd hrc; have HCI := Hd hci; have HRE1 := Hd hre1; have HRE2 := Hd hre2; have HRR1 := Hd hrr1; have HRR2 := Hd hrr2; have HSM := Hd hsm; have HST := Hd hst; have HVL := Hd hvl; have HCC := Hd hcc; have HS := Hd hS; have HNF := Hd hnf; have HNKK := Hd hnk; have HFI2 := Hd hFi; have HKI := Hd hKi; clear x3 dx hfi hrf hac hve1 hve2 hrv1 hrv2 hcl hrc hci hre1 hre2 hrr1 hrr2 hsm hst hvl hcc hS hnf hnk hFi hKi
 go_upto_region 8 with (first
  | (have hgd := HFI.out
     go_at_call 10; refine (hgd _ Y.out).mono ?_; rintro e w5 ⟨v1, rfl, ho, hx⟩; obtain ⟨a1, c1, rfl⟩ := row_form ho; have y2 := Y.out.tr hx
     have ac1 : AcIn w5 (.slice a1 nf c1) FL := by
      rw [← HNF.out] at ho ⊢; exact AcIn.of_owns ho (by rw [HNF.out]; omega)
     clear hgd HFI Y hx ho; have Y := Hd y2; have AC1 := Hd ac1; clear y2 ac1; clear d1 d2 d3 d4 d5 d6; obtain ⟨d1, d2, d3, d4, d5, d6⟩ := HS.out _ Y.out
     )
  | (have hgd := HRF.out
     go_at_call 11; refine (hgd _ Y.out).mono ?_; rintro e w6 ⟨v2, rfl, ac2, hx⟩; obtain ⟨a2, c2, hv2, _⟩ := ac2.form; rw [HNF.out] at hv2; subst hv2; have y2 := Y.out.tr hx; have ac1 := AC1.out.ext hx; clear hgd HRF Y hx AC1; have Y := Hd y2; have AC1 := Hd ac1; have AC2 := Hd ac2; clear y2 ac1 ac2; clear d1 d2 d3 d4 d5 d6; obtain ⟨d1, d2, d3, d4, d5, d6⟩ := HS.out _ Y.out
     )
  | (go_at_call 12
     refine (sameActions_eq FL _ _ _ AC1.out AC2.out).mono ?_; rintro e w7 ⟨rfl, hx⟩; have y2 := Y.out.tr hx; have ac2 := AC2.out.ext hx; clear Y hx AC1 AC2; have Y := Hd y2; have AC2 := Hd ac2; clear y2 ac2; clear d1 d2 d3 d4 d5 d6; obtain ⟨d1, d2, d3, d4, d5, d6⟩ := HS.out _ Y.out
     ))
 clear d1 d2 d3 d4 d5 d6; have xd := Y.out.drew; refine wp_region_K (fun wx => (∀ j, wx.cell? ⟨b9, j, none⟩ = (#[.slice va nj ca, .int .i64 p.warm, .int .i64 p.tail, .int .i64 p.dirt] : Array Value)[j]?) ∧ (∀ j, wx.cell? ⟨b10, j, none⟩ = (#[.int .i64 s.drive, .bool s.folder, .slice vb nu cb, .int .i64 s.fresh] : Array Value)[j]?) ∧ (∀ j, wx.cell? ⟨b11, j, none⟩ = (#[.int .i64 g.drive, .slice vd ng cd] : Array Value)[j]?) ∧ (∀ j, wx.cell? ⟨xb, j, none⟩ = (#[.slice aj nj cj, .int .i64 p.warm, .int .i64 p.tail, .int .i64 p.dirt] : Array Value)[j]?) ∧ (∀ j, wx.cell? ⟨yb, j, none⟩ = (#[.int .i64 s.drive, .bool s.folder, .slice au nu cu, .int .i64 s.fresh] : Array Value)[j]?) ∧ (∀ j, wx.cell? ⟨zb, j, none⟩ = (#[.int .i64 g.drive, .slice ag ng cg] : Array Value)[j]?)) 26 (by kernel_rfl) (HS.out _ xd) (fun kh => ?_); have ac2 := AC2.out.ext (Ext.drew (Below.refl _ w7)); clear AC2 Y; generalize w7.drew = wy at *; have Y := Hd xd; have AC2 := Hd ac2; clear xd ac2; refine kX 0 kh ?_; simp only [kS]; refine kX 1 kh ?_; simp only [kS]; refine kX 2 kh ?_; simp only [kS]; refine kX 3 kh ?_; simp only [kS]; refine kX 6 kh ?_; simp only [kS]; refine kX 7 kh ?_; simp only [kS]; refine kX 8 kh ?_; simp only [kS]; refine kX 9 kh ?_; simp only [kS]; refine rK [4] ?_; refine xK 4 (fun K hK => ?_) ?_
 {
 refine cK #[.slice al nl cl] Tryz.func14 (HAC.out l _ _ (HVL.out _ Y.out) (by rw [HNL.out]; omega)) ?_; rintro e wy ⟨v4, rfl, hx, ho⟩; rw [HNL.out] at ho; obtain ⟨a4, c4, rfl⟩ := row_form ho
 have ac4 : AcIn wy (.slice a4 nl c4) l := by
  rw [← HNL.out] at ho ⊢; exact AcIn.of_owns ho (by rw [HNL.out]; omega)
 refine ⟨_, rfl, ?_⟩; have y2 := Y.out.tr hx; have ac2 := AC2.out.ext hx; clear Y AC2 hx ho; have Y := Hd y2; have AC2 := Hd ac2; have AC4 := Hd ac4; clear y2 ac2 ac4; refine kG hK (HS.out _ Y.out) fun kh => ?_; (try simp only [kS]); refine rK [5] ?_; refine xK 5 (fun K hK => ?_) ?_
 {
 refine cK #[.agg #[.slice va nj ca, .int .i64 p.warm, .int .i64 p.tail, .int .i64 p.dirt], .agg #[.int .i64 s.drive, .bool s.folder, .slice vb nu cb, .int .i64 s.fresh], .agg #[.int .i64 g.drive, .slice vd ng cd], .slice a4 nl c4] Tryz.func13 (HV1.out _ _ Y.out AC4.out HK.out) ?_; rintro e wn2 ⟨rfl, hx⟩; refine ⟨_, rfl, ?_⟩; have y2 := Y.out.tr hx; have ac2 := AC2.out.ext hx; clear Y AC2 hx AC4; have Y := Hd y2; have AC2 := Hd ac2; clear y2 ac2; refine kG hK (HS.out _ Y.out) fun kh => ?_; (try simp only [kS]); refine rK [10] ?_; refine xK 10 (fun K hK => ?_) ?_
 {
 refine cK #[.agg #[.slice aj nj cj, .int .i64 p.warm, .int .i64 p.tail, .int .i64 p.dirt], .agg #[.int .i64 s.drive, .bool s.folder, .slice au nu cu, .int .i64 s.fresh], .agg #[.int .i64 g.drive, .slice ag ng cg], .slice al nl cl] Tryz.func15 (HRV1.out _ _ Y.out (HVL.out _ Y.out)) ?_; rintro e wn3 ⟨rfl, hx⟩; refine ⟨_, rfl, ?_⟩; have y2 := Y.out.tr hx; have ac2 := AC2.out.ext hx; clear Y AC2 hx; have Y := Hd y2; have AC2 := Hd ac2; clear y2 ac2; refine kG hK (HS.out _ Y.out) fun kh => ?_; (try simp only [kS]); refine kX 11 kh ?_; simp only [kS]; refine kX 12 kh ?_; simp only [kS]; refine kX 13 kh ?_; simp only [kS]; refine kX 14 kh ?_; simp only [kS]; refine kX 15 kh ?_; simp only [kS]; refine kX 16 kh ?_; simp only [kS]; refine kX 19 kh ?_; simp only [kS]; refine kX 20 kh ?_; simp only [kS]; refine kX 21 kh ?_; simp only [kS]; refine kX 22 kh ?_; simp only [kS]; refine rK [17] ?_; refine xK 17 (fun K hK => ?_) ?_
 {
 refine cK #[.slice a2 nf c2] Tryz.func14 (HAC.out FL _ _ AC2.out (by rw [HNF.out]; omega)) ?_; rintro e wn4 ⟨v5, rfl, hx, ho⟩; rw [HNF.out] at ho; obtain ⟨a5, c5, rfl⟩ := row_form ho
 have ac5 : AcIn wn4 (.slice a5 nf c5) FL := by
  rw [← HNF.out] at ho ⊢; exact AcIn.of_owns ho (by rw [HNF.out]; omega)
 refine ⟨_, rfl, ?_⟩; have y2 := Y.out.tr hx; have ac2 := AC2.out.ext hx; clear Y AC2 hx ho; have Y := Hd y2; have AC2 := Hd ac2; have AC5 := Hd ac5; clear y2 ac2 ac5; refine kG hK (HS.out _ Y.out) fun kh => ?_; (try simp only [kS]); refine rK [18] ?_; refine xK 18 (fun K hK => ?_) ?_
 {
 refine cK #[.agg #[.slice va nj ca, .int .i64 p.warm, .int .i64 p.tail, .int .i64 p.dirt], .agg #[.int .i64 s.drive, .bool s.folder, .slice vb nu cb, .int .i64 s.fresh], .agg #[.int .i64 g.drive, .slice vd ng cd], .slice a5 nf c5] Tryz.func13 (HV2.out _ _ Y.out AC5.out HFI2.out) ?_; rintro e wn5 ⟨rfl, hx⟩; refine ⟨_, rfl, ?_⟩; have y2 := Y.out.tr hx; have ac2 := AC2.out.ext hx; clear Y AC2 hx AC5; have Y := Hd y2; have AC2 := Hd ac2; clear y2 ac2; refine kG hK (HS.out _ Y.out) fun kh => ?_; (try simp only [kS]); refine rK [23] ?_; refine xK 23 (fun K hK => ?_) ?_
 {
 refine cK #[.agg #[.slice aj nj cj, .int .i64 p.warm, .int .i64 p.tail, .int .i64 p.dirt], .agg #[.int .i64 s.drive, .bool s.folder, .slice au nu cu, .int .i64 s.fresh], .agg #[.int .i64 g.drive, .slice ag ng cg], .slice a2 nf c2] Tryz.func15 (HRV2.out _ _ Y.out AC2.out) ?_; rintro e wn6 ⟨rfl, hx⟩; refine ⟨_, rfl, ?_⟩; have y2 := Y.out.tr hx; clear Y AC2 hx; have Y := Hd y2; clear y2; refine kG hK (HS.out _ Y.out) fun kh => ?_; (try simp only [kS]); refine kX 24 kh ?_; simp only [kS]; refine kX 25 kh ?_; simp only [kS]; refine dK ?_ _; obtain ⟨d1, d2, d3, d4, d5, d6⟩ := HS.out _ Y.out; clear kh
 go_upto_region 15 with (first
  | (have hgd := HCL.out
     go_at_call 16; refine (hgd _ Y.out).mono ?_; rintro e w10 ⟨v6, rfl, ho, hx⟩; obtain ⟨a6, c6, rfl⟩ := row_form ho; have y2 := Y.out.tr hx; clear hgd HCL Y hx; have Y := Hd y2; have OC1 := Hd ho; clear y2 ho; clear d1 d2 d3 d4 d5 d6; obtain ⟨d1, d2, d3, d4, d5, d6⟩ := HS.out _ Y.out
     )
  | (have hgd := HRC.out
     go_at_call 17; refine (hgd _ Y.out).mono ?_; rintro e w11 ⟨v7, rfl, ho, hx⟩; obtain ⟨a7, c7, rfl⟩ := row_form ho; have y2 := Y.out.tr hx; replace OC1 := Hd (owns_ext OC1.out hx); clear hgd HRC Y hx; have Y := Hd y2; have OC2 := Hd ho; clear y2 ho; clear d1 d2 d3 d4 d5 d6; obtain ⟨d1, d2, d3, d4, d5, d6⟩ := HS.out _ Y.out
     )
  | (go_at_call 18
     refine (sameInts_eq KL _ _ _ (Ints.of_owns OC1.out) (Ints.of_owns OC2.out)).mono ?_; rintro e w12 ⟨rfl, hx⟩; have y2 := Y.out.tr hx; replace OC1 := Hd (owns_ext OC1.out hx); replace OC2 := Hd (owns_ext OC2.out hx); clear Y hx; have Y := Hd y2; clear y2; clear d1 d2 d3 d4 d5 d6; obtain ⟨d1, d2, d3, d4, d5, d6⟩ := HS.out _ Y.out
     )
  | (have hgd := HCI.out
     go_at_call 19; refine (hgd _ Y.out).mono ?_; rintro e w13 ⟨v8, rfl, hx, ho⟩; obtain ⟨a8, c8, rfl⟩ := row_form ho; have y2 := Y.out.tr hx; replace OC1 := Hd (owns_ext OC1.out hx); replace OC2 := Hd (owns_ext OC2.out hx); clear hgd HCI Y hx; have Y := Hd y2; have OI := Hd ho; clear y2 ho; clear d1 d2 d3 d4 d5 d6; obtain ⟨d1, d2, d3, d4, d5, d6⟩ := HS.out _ Y.out
     ))
 clear d1 d2 d3 d4 d5 d6; have xd := Y.out.drew; refine wp_region_K (fun wx => (∀ j, wx.cell? ⟨b9, j, none⟩ = (#[.slice va nj ca, .int .i64 p.warm, .int .i64 p.tail, .int .i64 p.dirt] : Array Value)[j]?) ∧ (∀ j, wx.cell? ⟨b10, j, none⟩ = (#[.int .i64 s.drive, .bool s.folder, .slice vb nu cb, .int .i64 s.fresh] : Array Value)[j]?) ∧ (∀ j, wx.cell? ⟨b11, j, none⟩ = (#[.int .i64 g.drive, .slice vd ng cd] : Array Value)[j]?) ∧ (∀ j, wx.cell? ⟨xb, j, none⟩ = (#[.slice aj nj cj, .int .i64 p.warm, .int .i64 p.tail, .int .i64 p.dirt] : Array Value)[j]?) ∧ (∀ j, wx.cell? ⟨yb, j, none⟩ = (#[.int .i64 s.drive, .bool s.folder, .slice au nu cu, .int .i64 s.fresh] : Array Value)[j]?) ∧ (∀ j, wx.cell? ⟨zb, j, none⟩ = (#[.int .i64 g.drive, .slice ag ng cg] : Array Value)[j]?)) 45 (by kernel_rfl) (HS.out _ xd) (fun kh => ?_); have oi := owns_ext OI.out (Ext.drew (Below.refl _ w13)); have oc1 := owns_ext OC1.out (Ext.drew (Below.refl _ w13)); have oc2 := owns_ext OC2.out (Ext.drew (Below.refl _ w13)); clear OI OC1 OC2 Y; generalize w13.drew = wy at *; have Y := Hd xd; have OI := Hd oi; have OC1 := Hd oc1; have OC2 := Hd oc2; clear xd oi oc1 oc2; refine kX 0 kh ?_; simp only [kS]; refine kX 1 kh ?_; simp only [kS]; refine kX 2 kh ?_; simp only [kS]; refine kX 3 kh ?_; simp only [kS]; refine kX 5 kh ?_; simp only [kS]; refine kX 6 kh ?_; simp only [kS]; refine kX 7 kh ?_; simp only [kS]; refine kX 8 kh ?_; simp only [kS]; refine rK [4] ?_; refine xK 4 (fun K hK => ?_) ?_
 {
 refine cK #[.agg #[.slice va nj ca, .int .i64 p.warm, .int .i64 p.tail, .int .i64 p.dirt], .agg #[.int .i64 s.drive, .bool s.folder, .slice vb nu cb, .int .i64 s.fresh], .agg #[.int .i64 g.drive, .slice vd ng cd], .slice a8 ne c8] Tryz.func20 (HRE1.out _ _ Y.out (Ints.of_owns OI.out) HI.out) ?_; rintro e wk1 ⟨rfl, hx⟩; refine ⟨_, rfl, ?_⟩; have y2 := Y.out.tr hx; replace OI := Hd (owns_ext OI.out hx); replace OC1 := Hd (owns_ext OC1.out hx); replace OC2 := Hd (owns_ext OC2.out hx); clear Y hx; have Y := Hd y2; clear y2; refine kG hK (HS.out _ Y.out) fun kh => ?_; (try simp only [kS]); refine rK [9] ?_; refine xK 9 (fun K hK => ?_) ?_
 {
 refine cK #[.agg #[.slice aj nj cj, .int .i64 p.warm, .int .i64 p.tail, .int .i64 p.dirt], .agg #[.int .i64 s.drive, .bool s.folder, .slice au nu cu, .int .i64 s.fresh], .agg #[.int .i64 g.drive, .slice ag ng cg], .slice ae ne ce] Tryz.func21 (HRR1.out _ _ Y.out (HCC.out _ Y.out)) ?_; rintro e wk2 ⟨rfl, hx⟩; refine ⟨_, rfl, ?_⟩; have y2 := Y.out.tr hx; replace OI := Hd (owns_ext OI.out hx); replace OC1 := Hd (owns_ext OC1.out hx); replace OC2 := Hd (owns_ext OC2.out hx); clear Y hx; have Y := Hd y2; clear y2; refine kG hK (HS.out _ Y.out) fun kh => ?_; (try simp only [kS]); refine kX 10 kh ?_; simp only [kS]; refine kX 11 kh ?_; simp only [kS]; refine kX 12 kh ?_; simp only [kS]; refine kX 13 kh ?_; simp only [kS]; refine kX 14 kh ?_; simp only [kS]; refine kX 15 kh ?_; simp only [kS]; refine kX 17 kh ?_; simp only [kS]; refine kX 18 kh ?_; simp only [kS]; refine kX 19 kh ?_; simp only [kS]; refine kX 20 kh ?_; simp only [kS]; refine rK [16] ?_; refine xK 16 (fun K hK => ?_) ?_
 {
 refine cK #[.agg #[.slice va nj ca, .int .i64 p.warm, .int .i64 p.tail, .int .i64 p.dirt], .agg #[.int .i64 s.drive, .bool s.folder, .slice vb nu cb, .int .i64 s.fresh], .agg #[.int .i64 g.drive, .slice vd ng cd], .slice a6 nk c6] Tryz.func20 (HRE2.out _ _ Y.out (Ints.of_owns OC1.out) HKI.out) ?_; rintro e wk3 ⟨rfl, hx⟩; refine ⟨_, rfl, ?_⟩; have y2 := Y.out.tr hx; replace OI := Hd (owns_ext OI.out hx); replace OC1 := Hd (owns_ext OC1.out hx); replace OC2 := Hd (owns_ext OC2.out hx); clear Y hx; have Y := Hd y2; clear y2; refine kG hK (HS.out _ Y.out) fun kh => ?_; (try simp only [kS]); refine rK [21] ?_; refine xK 21 (fun K hK => ?_) ?_
 {
 refine cK #[.agg #[.slice aj nj cj, .int .i64 p.warm, .int .i64 p.tail, .int .i64 p.dirt], .agg #[.int .i64 s.drive, .bool s.folder, .slice au nu cu, .int .i64 s.fresh], .agg #[.int .i64 g.drive, .slice ag ng cg], .slice a7 nk c7] Tryz.func21 (HRR2.out _ _ Y.out (Ints.of_owns OC2.out)) ?_; rintro e wk4 ⟨rfl, hx⟩; refine ⟨_, rfl, ?_⟩; have y2 := Y.out.tr hx; replace OI := Hd (owns_ext OI.out hx); replace OC1 := Hd (owns_ext OC1.out hx); replace OC2 := Hd (owns_ext OC2.out hx); clear Y hx; have Y := Hd y2; clear y2; refine kG hK (HS.out _ Y.out) fun kh => ?_; (try simp only [kS]); refine kX 22 kh ?_; simp only [kS]; refine kX 23 kh ?_; simp only [kS]; refine kX 24 kh ?_; simp only [kS]; refine kX 25 kh ?_; simp only [kS]; refine kX 26 kh ?_; simp only [kS]; refine rK [27] ?_; refine xK 27 (fun K hK => ?_) ?_
 {
 refine cK #[.slice a8 ne c8, .slice ae ne ce] Tryz.func18 (sameInts_eq codes _ _ _ (Ints.of_owns OI.out) (HCC.out _ Y.out)) ?_; rintro e wk5 ⟨rfl, hx⟩; refine ⟨_, rfl, ?_⟩; have y2 := Y.out.tr hx; clear Y hx; have Y := Hd y2; clear y2; refine kG hK (HS.out _ Y.out) fun kh => ?_; (try simp only [kS]); refine kX 28 kh ?_; simp only [kS]; refine kX 29 kh ?_; simp only [kS]; refine kX 30 kh ?_; simp only [kS]; refine kX 31 kh ?_; simp only [kS]; refine kX 32 kh ?_; simp only [kS]; refine kX 33 kh ?_; simp only [kS]; refine rK [34] ?_; refine xK 34 (fun K hK => ?_) ?_
 {
 refine cK #[.slice vd ng cd, .slice ag ng cg] Tryz.func22 (HST.out _ Y.out) ?_; rintro e wk6 ⟨rfl, hx⟩; refine ⟨_, rfl, ?_⟩; have y2 := Y.out.tr hx; clear Y hx; have Y := Hd y2; clear y2; refine kG hK (HS.out _ Y.out) fun kh => ?_; (try simp only [kS]); refine kX 35 kh ?_; simp only [kS]; refine kX 36 kh ?_; simp only [kS]; refine kX 37 kh ?_; simp only [kS]; refine kX 38 kh ?_; simp only [kS]; refine rK [39] ?_; refine xK 39 (fun K hK => ?_) ?_
 {
 refine cK #[.agg #[.int .i64 s.drive, .bool s.folder, .slice vb nu cb, .int .i64 s.fresh], .agg #[.int .i64 s.drive, .bool s.folder, .slice au nu cu, .int .i64 s.fresh]] Tryz.func23 (HSM.out _ Y.out) ?_; rintro e wk7 ⟨rfl, hx⟩; refine ⟨_, rfl, ?_⟩; have y2 := Y.out.tr hx; clear Y hx; have Y := Hd y2; clear y2; refine kG hK (HS.out _ Y.out) fun kh => ?_; (try simp only [kS]); refine kX 40 kh ?_; simp only [kS]; refine kX 41 kh ?_; simp only [kS]; refine rK [42] ?_; refine xK 42 (fun K hK => ?_) ?_
 {
 refine cK #[] Tryz.func6 (awake_any _) ?_; rintro e wk8 ⟨rfl, hx⟩; refine ⟨_, rfl, ?_⟩; have y2 := Y.out.tr hx; clear Y hx; have Y := Hd y2; clear y2; refine kG hK (HS.out _ Y.out) fun kh => ?_; (try simp only [kS]); refine kX 43 kh ?_; simp only [kS]; refine rK [44] ?_; refine xK 44 (fun K hK => ?_) ?_
 { go_simp; refine kG hK (HS.out _ Y.out) fun kh => ?_; (try simp only [kS]); refine dK ?_ _; go_wp2; go_ret; exact ⟨rfl, X.out.tr Y.out⟩ }
 exact nK
 }
 exact nK
 }
 exact nK
 }
 exact nK
 }
 exact nK
 }
 exact nK
 }
 exact nK
 }
 exact nK
 }
 exact nK
 }
 exact nK
 }
 exact nK
 }
 exact nK
 }
 exact nK
 }
 exact nK
 }
 exact nK
end Go.Proofs.YtojobdffnnibaaaGreat