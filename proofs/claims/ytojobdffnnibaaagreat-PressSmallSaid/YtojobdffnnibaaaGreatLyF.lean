/- The reference: Find. -/
import Derived.Test.YtojobdffnnibaaaGreatLy4
import Derived.Test.YtojobdffnnibaaaGreatJ12
import Derived.Test.YtojobdffnnibaaaGreatJ11
namespace Go.Proofs.YtojobdffnnibaaaGreat
open Go.RowKit
set_option linter.unusedVariables false
set_option linter.unusedSimpArgs false
theorem find_first {p : PressD} {s : StD} {g : GoalD} (hg : goErr p s g = 0) (hd : 0 ≤ s.drive ∧ s.drive ≤ 2) {i : Nat} (h : i < (closedL p s).length) (h1 : fulD g (closedL p s)[i].at_ = true) (h2 : ∀ m (h : m < (closedL p s).length), m < i → fulD g (closedL p s)[m].at_ = false) :
 fiErr p s g = 0 ∧ findL p s g = byL (closedL p s) i := by
 rcases seek_round (p := p) (s := s) g hd with ⟨h3, h4⟩ | ⟨j, hj, h3, h4, h5, h6⟩
 · rw [h4 i h] at h1; cases h1
 {
 have hij : i = j := by
  rcases Nat.lt_trichotomy i j with hh | hh | hh
  · rw [h5 i h hh] at h1; cases h1
  · exact hh
  · rw [h2 j hj hh] at h4; cases h4
 subst hij
 have he : fiErr p s g = 0 := by
  unfold fiErr; rw [if_neg (by rw [hg]; simp), if_neg (by omega)]
 exact ⟨he, by unfold findL; rw [if_pos he]; exact h6⟩
 }
theorem find_never {p : PressD} {s : StD} {g : GoalD} (hg : goErr p s g = 0) (hd : 0 ≤ s.drive ∧ s.drive ≤ 2) (h2 : ∀ m (h : m < (closedL p s).length), fulD g (closedL p s)[m].at_ = false) : fiErr p s g = 4 ∧ findL p s g = [] := by
 rcases seek_round (p := p) (s := s) g hd with ⟨h3, h4⟩ | ⟨j, hj, h3, h4, h5, h6⟩
 {
 have he : fiErr p s g = 4 := by
  unfold fiErr; rw [if_neg (by rw [hg]; simp), if_pos h3]
 exact ⟨he, by unfold findL; rw [if_neg (by rw [he]; decide)]⟩
 }
 · rw [h2 j hj] at h4; cases h4
theorem AcIn.nil (w : World) : AcIn w (.slice none 0 0) [] := ⟨by simp, none, 0, rfl, fun h => by simp at h⟩
theorem goErr_len {p : PressD} {s : StD} {g : GoalD} (h : goErr p s g = 0) : Good p s ∧ g.pressed.length = s.units.length ∧ aimedD s g = true := by
 unfold goErr at h
 by_cases h1 : stErr p s = 0
 {
 rw [if_neg (by rw [h1]; simp)] at h
 by_cases h2 : aimedD s g = true
 { refine ⟨(good_iff p s).1 h1, ?_, h2⟩; unfold aimedD at h2; simp at h2; exact h2.1 }
 · rw [if_neg h2] at h; cases h
 }
 · rw [if_pos h1] at h; exact absurd h h1
theorem UnIn.slice {w : World} {v : Value} {us : List UnitD} {n : Nat} (h : UnIn w v us) (hn : us.length = n) : ∃ a c, v = .slice a n c := by
 obtain ⟨a, c, hv, _⟩ := h.form; exact ⟨a, c, by rw [← hn]; exact hv⟩
set_option maxRecDepth 100000 in
set_option maxHeartbeats 4000000 in
theorem rFind_any (p : PressD) (s : StD) (g : GoalD) (vj vu vg : Value) (w : World) (hj : Truths w vj p.jam) (hu : UnIn w vu s.units) (hg : Truths w vg g.pressed) (hl : s.units.length ≤ 1000000) :
 Calls Tryz.prog 11 #[pV vj p, sV vu s, gV vg g] w fun e w' => ∃ va, e = .returned (.tuple #[va, .int .i64 (fiErr p s g)]) ∧ AcIn w' va (findL p s g) ∧ Ext w w' := by
 have haim := fun W (k : Ext w W) => rAimed_any p s g vj vu vg W (Sl.ext hj k) (hu.ext k) (Sl.ext hg k) hl; have hlay := fun (gd : Good p s) W (k : Ext w W) => rLayers_any gd vj vu W (Sl.ext hj k) (hu.ext k); have hful := fun (t : StD) (va : Value) (h1 : g.pressed.length = t.units.length) (h2 : t.units.length ≤ 1000000) W (k : Ext w W) (h : UnIn W va t.units) => rFulfils_any t g va vg W h (Sl.ext hg k) h1 h2; obtain ⟨a, c, rfl, Hu⟩ := hu.form; obtain ⟨_, aj, cj, hvj, _⟩ := id hj; rw [List.length_map] at hvj; subst hvj; obtain ⟨_, ag, cg, hvg, _⟩ := id hg; rw [List.length_map] at hvg; subst hvg; clear hj hu hg Hu; unfold pV sV gV at *; obtain ⟨e1, he1⟩ : ∃ e, goErr p s g = e := ⟨_, rfl⟩; rw [he1] at haim; have HAIM := Hd haim; have HLAY := Hd hlay; have HFUL := Hd hful; have HE1 := Hd he1; have HL := Hd hl; clear haim hlay hful he1 hl
 go_enter Tryz.func11, Tryz.ntmps11
 go_upto_region 2 with (first
  | (with_reducible refine wpList_boxA (t := 24) (cs := #[.slice aj p.jam.length cj, .int .i64 p.warm, .int .i64 p.tail, .int .i64 p.dirt]) rfl rfl rfl ?_
     rintro xb w1 hx1 hx2 hx3; have PB := Hd hx1; have X1 := Hd hx2; clear hx1 hx2
     clear hx3)
  | (with_reducible refine wpList_boxA (t := 27) (cs := #[.int .i64 s.drive, .bool s.folder, .slice a s.units.length c, .int .i64 s.fresh]) rfl rfl rfl ?_
     rintro sb w2 hy1 hy2 hy3; have pb2 := PB.out.ext hy2; have x2 := X1.out.tr hy2; clear PB X1; have SB := Hd hy1; have PB := Hd pb2; have X1 := Hd x2; clear hy1 pb2 x2
     clear hy3 hy2)
  | (with_reducible refine wpList_boxA (t := 29) (cs := #[.int .i64 g.drive, .slice ag g.pressed.length cg]) rfl rfl rfl ?_
     rintro gb w3 hy1 hy2 hy3; have pb2 := PB.out.ext hy2; have sb2 := SB.out.ext hy2; have x2 := X1.out.tr hy2; have c1 := pb2.cell; have c2 := sb2.cell; have c3 := hy1.cell; clear PB X1 SB; have GB := Hd hy1; have X1 := Hd x2; have PB := Hd pb2; have SB := Hd sb2; clear hy1 x2 pb2 sb2
     clear hy3 hy2)
  | (go_at_call 37
     refine (HAIM.out _ X1.out).mono ?_; rintro e w4 ⟨rfl, hx⟩; have pb2 := PB.out.ext hx; have sb2 := SB.out.ext hx; have gb2 := GB.out.ext hx; have x2 := X1.out.tr hx; clear c1 c2 c3 PB GB X1 hx HAIM SB; have c1 := pb2.cell; have c2 := sb2.cell; have c3 := gb2.cell; have X1 := Hd x2; have PB := Hd pb2; have SB := Hd sb2; have GB := Hd gb2
     clear x2 pb2 sb2 gb2))
 by_cases h1 : e1 = 0
 {
 subst h1; obtain ⟨gd, hgl, _⟩ := goErr_len HE1.out; have hlay2 := HLAY.out gd; have hdr := gd.dr; have F := closed_all (p := p) gd.dr gd.small.1; have HLAY2 := Hd hlay2; have GD := Hd gd; have HDR := Hd hdr; have HGL := Hd hgl; have HF := Hd F; clear hlay2 gd hdr hgl F
 go_upto_region 6 with (
  go_at_call 38; refine (HLAY2.out _ X1.out).mono ?_; rintro e w5 ⟨v1, v2, rfl, hout, hx⟩; have gb2 := GB.out.ext hx; have x2 := X1.out.tr hx; obtain ⟨fu, fb, r1, r2, r3⟩ := hout; obtain ⟨a1, c1', hv1⟩ := row_form r1; obtain ⟨a2, c2', hv2⟩ := row_form r2; subst hv1; subst hv2; clear c1 c2 c3 PB GB X1 hx HLAY2 SB HLAY; have X1 := Hd x2; have GB := Hd gb2; have R1 := Hd r1; have R2 := Hd r2; have R3 := Hd r3
  clear x2 gb2 r1 r2 r3)
 obtain ⟨L, hL⟩ : ∃ L, closedL p s = L := ⟨_, rfl⟩; rw [hL] at R1 R2 ⊢; have r3 := R3.out; rw [hL] at r3; have hfit := HF.out.fit; rw [hL] at hfit; have hlen : L.length ≤ 32768 := (by rw [← hL]; obtain ⟨e, _⟩ := closed_round (p := p) (s := s) HDR.out; rw [e]; exact (round_ok HDR.out _).len); clear R3; have HL2 := Hd hL; have R3 := Hd r3; have HFIT := Hd hfit; clear hL r3 hfit
 go_loopw [11] (fun t11 wr => ∃ i : Nat, i ≤ L.length ∧ t11 = .int .i64 i ∧ Hid (∀ m (h : m < L.length), m < i → fulD g L[m].at_ = false) ∧ Hid (Ext w5 wr)) (fun t11 _ => L.length - (intOf t11).toNat)
 case atStart => exact ⟨0, Nat.zero_le _, rfl, (fun m _ hm => by omega), Below.refl _ _⟩
 case round =>
  obtain ⟨i, hi, rfl, HM, HX⟩ := hrel
  by_cases hlt : i < L.length
  {
  have hr := R3.out i hlt; have hft := HFIT.out L[i] (List.getElem_mem hlt); have hget := fun j hj => stR_get fu L i j hlt hj; obtain ⟨x, hx⟩ : ∃ x, L[i] = x := ⟨_, rfl⟩; rw [hx] at hr hget hft; obtain ⟨t, tk, tu, tf⟩ := x; dsimp only at hr hget hft; obtain ⟨ta, tc, htv⟩ := hr.1.slice hft.len; rw [htv] at hr hget; obtain ⟨g1, o1, rfl, hc1⟩ := row_cells R1.out (by omega); have d0 : w5.cell? ⟨g1, o1 + i * 4, none⟩ = some (.int .i64 t.drive) := hc1 _ _ (hget 0 (by omega)); have d1 : w5.cell? ⟨g1, o1 + i * 4 + 1, none⟩ = some (.bool t.folder) := hc1 _ _ (hget 1 (by omega)); have d2 : w5.cell? ⟨g1, o1 + i * 4 + 2, none⟩ = some (.slice ta s.units.length tc) := hc1 _ _ (hget 2 (by omega)); have d3 : w5.cell? ⟨g1, o1 + i * 4 + 3, none⟩ = some (.int .i64 t.fresh) := hc1 _ _ (hget 3 (by omega)); have hfu := fun W (k : Ext w5 W) => HFUL.out t (.slice ta s.units.length tc) (by rw [hft.len]; exact HGL.out) (by rw [hft.len]; exact HL.out) W (X1.out.tr k) (hr.1.ext k); have hS : ∀ W, Ext w5 W → (W.cell? ⟨g1, o1 + i * 4, none⟩ = some (.int .i64 t.drive) ∧ W.cell? ⟨g1, o1 + i * 4 + 1, none⟩ = some (.bool t.folder) ∧ W.cell? ⟨g1, o1 + i * 4 + 2, none⟩ = some (.slice ta s.units.length tc) ∧ W.cell? ⟨g1, o1 + i * 4 + 3, none⟩ = some (.int .i64 t.fresh) ∧ ∀ j, W.cell? ⟨gb, j, none⟩ = (#[.int .i64 g.drive, .slice ag g.pressed.length cg] : Array Value)[j]?) := fun W k => ⟨k.cellSome d0, k.cellSome d1, k.cellSome d2, k.cellSome d3, (GB.out.ext k).cell⟩; have i0 : (0:Int) ≤ (i:Int) := (by omega); have i1 : (i:Int) < (L.length:Int) := (by omega); have hxt : L[i].at_ = t := (by rw [hx]); obtain ⟨bb, hbb⟩ : ∃ b, fulD g t = b := ⟨_, rfl⟩; rw [hbb] at hfu; clear d0 d1 d2 d3 hget hc1 htv hr hft hx; have HFU := Hd hfu; have HS := Hd hS; have HXT := Hd hxt; have HBB := Hd hbb; clear hfu hS hxt hbb
  go_upto_region 8 with (fail)
  have xd : Ext w5 wr.drew := HX.out.drew; refine wp_region_K (fun W => W.cell? ⟨g1, o1 + i * 4, none⟩ = some (.int .i64 t.drive) ∧ W.cell? ⟨g1, o1 + i * 4 + 1, none⟩ = some (.bool t.folder) ∧ W.cell? ⟨g1, o1 + i * 4 + 2, none⟩ = some (.slice ta s.units.length tc) ∧ W.cell? ⟨g1, o1 + i * 4 + 3, none⟩ = some (.int .i64 t.fresh) ∧ ∀ j, W.cell? ⟨gb, j, none⟩ = (#[.int .i64 g.drive, .slice ag g.pressed.length cg] : Array Value)[j]?) 5 (by kernel_rfl) (HS.out _ xd) (fun kh => ?_); generalize wr.drew = wA at *; have XC := Hd xd; clear xd; refine kX 0 kh ?_; simp only [kS]; refine kX 1 kh ?_; simp only [kS]; refine kX 2 kh ?_; simp only [kS]; refine kX 3 kh ?_; simp only [kS]; refine kX 4 kh ?_; simp only [kS]; refine rK [5] ?_; refine xK 5 (fun K hK => ?_) ?_
  {
  refine cK #[.agg #[.int .i64 t.drive, .bool t.folder, .slice ta s.units.length tc, .int .i64 t.fresh], .agg #[.int .i64 g.drive, .slice ag g.pressed.length cg]] Tryz.func39 (HFU.out _ XC.out) ?_; rintro e wy ⟨rfl, hx⟩; have x2 := XC.out.tr hx; refine ⟨_, rfl, ?_⟩; clear XC HFU hx; have XC := Hd x2; clear x2; refine kH hK rfl ?_; (try clear kh); (try simp only [kS]); refine dK ?_ _
  cases bb
  {
  have hm2 : ∀ m (h : m < L.length), m < i + 1 → fulD g L[m].at_ = false := fun m h hm => by
   by_cases e : m = i
   · subst e; rw [HXT.out]; exact HBB.out
   · exact HM.out m h (by omega)
  have HM2 := Hd hm2; clear hm2; go_wp2
  go_roundw
  case rel => exact ⟨i + 1, by omega, by go_num, HM2, XC⟩
  case measure => simp [intOf] <;> omega
  }
  {
  have hff := find_first (p := p) (s := s) (g := g) HE1.out HDR.out (i := i) (by rw [HL2.out]; exact hlt) (by have := HXT.out; have h2 := HBB.out; rw [← this] at h2; simpa [HL2.out] using h2) (fun m h hm => by have h3 := HM.out m (by rw [HL2.out] at h; exact h) hm; simpa [HL2.out] using h3); obtain ⟨hf1, hf2⟩ := hff; rw [HL2.out] at hf2; have hr2 := (R3.out i hlt).2; obtain ⟨ba, bc, hbv⟩ := row_form hr2; rw [← hf2] at hr2 hbv; have hac : AcIn wy (fb i) (findL p s g) := AcIn.of_owns (owns_ext hr2 XC.out) (by rw [hf2]; exact Nat.le_trans (byL_len _ _) (by omega)); obtain ⟨g2, o2, rfl, hc2⟩ := row_cells R2.out (by omega); have d5 : wy.cell? ⟨g2, o2 + i, none⟩ = some (.slice ba (findL p s g).length bc) := XC.out.cellSome (hc2 _ _ (by rw [← hbv]; simp [hlt])); rw [hbv] at hac; clear hf2 hr2 hbv hc2; have HF1 := Hd hf1; have HAC := Hd hac; clear hf1 hac; go_wp2
  go_ret2
  exact ⟨_, by rw [HF1.out] <;> rfl, HAC.out, X1.out.tr XC.out⟩
  }
  }
  exact nK
  }
  {
  have i1 : decide ((i:Int) < (L.length:Int)) = false := decide_eq_false (by omega); have hfn := find_never (p := p) (s := s) (g := g) HE1.out HDR.out (fun m h => by have h3 := HM.out m (by rw [HL2.out] at h; exact h) (by rw [HL2.out] at h; omega); simpa [HL2.out] using h3); obtain ⟨hf1, hf2⟩ := hfn; have HF1 := Hd hf1; have HF2 := Hd hf2; clear hf1 hf2; go_wp2
  go_ret2
  exact ⟨_, by rw [HF1.out] <;> rfl, by rw [HF2.out]; exact AcIn.nil _, X1.out.tr HX.out⟩
  }
 }
 {
 have f1 : (e1 != 0) = true := (by simp [h1]); have hf1 : fiErr p s g = e1 := (by unfold fiErr; rw [HE1.out, if_pos h1]); have hf2 : findL p s g = [] := (by unfold findL; rw [if_neg (by rw [hf1]; exact h1)]); clear h1; have HF1 := Hd hf1; have HF2 := Hd hf2; clear hf1 hf2; go_wp2
 go_ret2
 exact ⟨_, by rw [HF1.out] <;> rfl, by rw [HF2.out]; exact AcIn.nil _, X1.out⟩
 }
end Go.Proofs.YtojobdffnnibaaaGreat