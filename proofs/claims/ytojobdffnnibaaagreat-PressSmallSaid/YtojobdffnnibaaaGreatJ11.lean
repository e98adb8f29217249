/- press.Find. PressActs: the small functions: the reference's Begin and Safe, the lists of actions. PressActs: the reference's allowed. PressActs: the code of a situation. PressActs: the press's Code. The chapter's example, reckoned. awake: the chapter's example comes out as it should. After a break there is a program that prints again, in plain words. From any state of a press that may be reached a goal, if it can be reached, is reached by few actions. In plain words. What Find's programs, their beginnings, and the codes of all situations are, in plain words. The codes of all situations that can be reached, and what Refute says of them, in plain words. -/
import Derived.Test.YtojobdffnnibaaaGreatPSearch
import Derived.Test.YtojobdffnnibaaaGreatJ8
import Derived.Test.YtojobdffnnibaaaGreatJ9
import Derived.Test.YtojobdffnnibaaaGreatJ5
import Derived.Test.YtojobdffnnibaaaGreatPProg
import Derived.Test.YtojobdffnnibaaaGreatJ1
import Derived.Test.YtojobdffnnibaaaGreatPSit
import Derived.Test.YtojobdffnnibaaaGreatPBreak
import Derived.Test.YtojobdffnnibaaaGreatPPrint
import Derived.Test.YtojobdffnnibaaaGreatJ10
namespace Go.Proofs.YtojobdffnnibaaaGreat
open Go.RowKit
set_option linter.unusedVariables false
set_option linter.unusedSimpArgs false
theorem tActs : SliceT Tryz.prog 42 72 (.agg #[.int .i64 0, .int .i64 0]) 2 16 := ⟨by kernel_rfl, by kernel_rfl, rfl, by decide, by decide⟩
/-- The program that is found (none: empty). -/
def findL (p : PressD) (s : StD) (g : GoalD) : List (Int × Int) := if fiErr p s g = 0 then findD p s g else []
/-- What Find does. -/
def FindPost (w : World) (p : PressD) (s : StD) (g : GoalD) (e : Ending) (w' : World) : Prop :=
 ∃ va, e = .returned (.tuple #[va, .int .i64 (fiErr p s g)]) ∧ w'.ownsRow w.heap.size 72 2 va (findL p s g).length (acL (findL p s g)) ∧ Ext w w'
theorem FindPost.no {w w' : World} {p : PressD} {s : StD} {g : GoalD} {e1 : Int} (h : fiErr p s g = e1) (h0 : e1 ≠ 0) (k : Ext w w') : FindPost w p s g (.returned (.tuple #[.slice none 0 0, .int .i64 e1])) w' := by
 have hl : findL p s g = [] := (by unfold findL; rw [if_neg (by rw [h]; exact h0)]); exact ⟨_, by rw [h], by rw [hl]; exact World.ownsRow_nil _ _ _ _, k⟩
set_option maxRecDepth 100000 in
set_option maxHeartbeats 4000000 in
theorem find_any (p : PressD) (s : StD) (g : GoalD) (vj vu vg : Value) (w : World) (hj : Truths w vj p.jam) (hu : UnIn w vu s.units) (hg : Truths w vg g.pressed) (hl : s.units.length ≤ 1000000) :
 Calls Tryz.prog 10 #[pV vj p, sV vu s, gV vg g] w (FindPost w p s g) := by
 have hst := fun w1 (k : Ext w w1) => start_any p s vj vu w1 (Sl.ext hj k) (hu.ext k) hl; obtain ⟨a, c, rfl, Hu⟩ := hu.form; have hj' := hj; have hg' := hg; obtain ⟨_, aj, cj, hvj, _⟩ := hj'; rw [List.length_map] at hvj; subst hvj; obtain ⟨_, ag, cg, hvg, _⟩ := hg'; rw [List.length_map] at hvg; subst hvg; have haim := fun W mb pb ub c B vj0 (k : Ext w W) (h : MOw B W mb pb ub c p s vj0) => aimed_any W h hl (Sl.ext hg k); have hfind1 := fun W mb pb ub c B xb t vj0 (k : Ext w W) (h : MOw B W mb pb ub c p t vj0) (hl : t.units.length ≤ 1000000) (hx : Blk W xb #[.int .i64 g.drive, .slice ag g.pressed.length cg] 40) => find1_any W h hl (Sl.ext hg k) hx; have HAI := Hd haim; have HF1 := Hd hfind1; clear haim hfind1; clear hu hj hg Hu; unfold pV sV gV at *; obtain ⟨e1, he1⟩ : ∃ e, stErr p s = e := ⟨_, rfl⟩
 by_cases h1 : e1 = 0
 {
 subst h1; have hs := fun w1 (k : Ext w w1) => (hst w1 k).mono fun e w' (h : StartPost w1 p s _ e w') => (h.resolve_left fun h => h.1 he1).2; obtain ⟨hpe, hsh, hsf⟩ := stErr_ok he1; have huj := shaped_len hsh; have hul : s.units.length ≤ 3 := (by rw [huj]; exact (pErr_len hpe).2); have hup : 0 < s.units.length := (by rw [huj]; exact (pErr_len hpe).1); obtain ⟨ba, hba⟩ : ∃ b, aimedD s g = b := ⟨_, rfl⟩; rw [hba] at HAI; have hgo : goErr p s g = if ba then 0 else 1 := (by unfold goErr; rw [if_neg (by rw [he1]; simp), hba]); have HS := Hd hs; have HUL := Hd hul; have HUJ := Hd huj; have HUP := Hd hup; have HGO := Hd hgo; clear hs hul huj hup hgo; clear hst he1 hpe hsh hsf hba
 go_enter Tryz.func10, Tryz.ntmps10
 go_upto_region 1 with (first
  | (with_reducible refine wpList_boxA (t := 34) (cs := #[.slice aj p.jam.length cj, .int .i64 p.warm, .int .i64 p.tail, .int .i64 p.dirt]) rfl rfl rfl ?_
     rintro xb w1 hx1 hx2 hx3; have PB := Hd hx1; have X1 := Hd hx2; clear hx1 hx2
     clear hx3)
  | (with_reducible refine wpList_boxA (t := 38) (cs := #[.int .i64 s.drive, .bool s.folder, .slice a s.units.length c, .int .i64 s.fresh]) rfl rfl rfl ?_
     rintro sb w2 hy1 hy2 hy3; have pb2 := PB.out.ext hy2; have x2 := X1.out.tr hy2; clear PB X1; have SB := Hd hy1; have PB := Hd pb2; have X1 := Hd x2; clear hy1 pb2 x2
     clear hy3 hy2)
  | (with_reducible refine wpList_boxA (t := 40) (cs := #[.int .i64 g.drive, .slice ag g.pressed.length cg]) rfl rfl rfl ?_
     rintro gb w2 hy1 hy2 hy3; have c2 := (PB.out.ext hy2).cell; have c3 := (SB.out.ext hy2).cell; have x2 := X1.out.tr hy2; clear PB X1 SB; have GB := Hd hy1; have X1 := Hd x2; clear hy1 x2
     clear hy3 hy2))
 go_upto_region 3 with (
  have hgd := HS.out; go_at_call 31; refine (hgd _ X1.out).mono ?_; rintro e wB ⟨mb, pb, ub, c4, rfl, hmo, hx3⟩; have gb2 := GB.out.ext hx3; have lx := X1.out.size; have x2 := X1.out.tr hx3; have hmo2 := hmo; have lB := hx3.size; clear c2 c3 GB X1 hgd hx3 HS hmo; have kgb := gb2.cell; have GB := Hd gb2; have X1 := Hd x2; have HM := Hd hmo2; have LX := Hd lx; have LB := Hd lB
  clear gb2 x2 hmo2 lx lB)
 cases ba
 {
 have hfe : fiErr p s g = 1 := (by unfold fiErr; rw [HGO.out]; rfl); have HFE := Hd hfe; clear hfe
 go_wp2_with (
  have hgd := HAI.out; go_at_call 32; refine (hgd _ _ _ _ _ _ _ X1.out HM.out).mono ?_; rintro e w4 ⟨rfl, hx4⟩; have gb2 := GB.out.ext hx4; have hm2 := HM.out.ext hx4; have x2 := X1.out.tr hx4; clear hgd GB X1 HM HAI kgb; have GB := Hd gb2; have X1 := Hd x2; have HM := Hd hm2
  clear gb2 x2 hm2)
 go_ret2
 exact FindPost.no HFE.out (by decide) X1.out
 }
 {
 obtain ⟨r, hr⟩ : ∃ r, seekD p s g = r := ⟨_, rfl⟩; obtain ⟨l, at0⟩ := r; have hok := seek_ok p s g; rw [hr] at hok; obtain ⟨hback, hap, hfo⟩ := hok; dsimp only at hback hap hfo; have hfe : fiErr p s g = if at0 < 0 then 4 else 0 := (by unfold fiErr; rw [HGO.out, hr]; rfl); have hfd : findD p s g = (backD l 40000 at0).reverse := (by unfold findD; rw [hr]); have hll := hap.len; have hl1 : at0 ≤ 32768 := by rcases hfo with h | h <;> omega
 have hse : ∀ W mb pb ub c B vj0 xb, Ext w W → MOw B W mb pb ub c p s vj0 → Blk W xb #[.int .i64 g.drive, .slice ag g.pressed.length cg] 40 →
  Calls Tryz.prog 33 #[.pointer (some ⟨mb, 0, none⟩), .func (.func 34) #[] #[.pointer (some ⟨xb, 0, none⟩)]] W fun e w' =>
   ∃ va, e = .returned (.tuple #[va, .int .i64 at0]) ∧ SrRow B W.heap.size pb p vj0 l va w' ∧ Ext W w' := fun W mb pb ub c B vj0 xb k h hx =>
  (search_any W h HUL.out HUJ.out HUP.out 34 #[.pointer (some ⟨xb, 0, none⟩)] (fulD g) (fun a w => by kernel_rfl)
    (fun W' m u c' t k' hm ht => HF1.out W' m pb u c' B xb t vj0 (k.tr k') hm (by rw [ht]; exact Nat.le_trans HUL.out (by decide)) (hx.ext k'))).mono fun e w' ⟨va, he, hrow, hx'⟩ => by
      have h1 : searchD p (fulD g) 40000 0 [⟨s, 0, 0, -1⟩] = (l, at0) := hr; rw [h1] at he hrow; exact ⟨va, he, hrow, hx'⟩
 clear hr hap; have HBK := Hd hback; have HFE := Hd hfe; have HFD := Hd hfd; have HLL := Hd hll; have HSE := Hd hse; have HFO := Hd hfo; clear hback hfe hfd hll hse hfo
 go_upto_region 7 with (first
  | (have hgd := HAI.out
     go_at_call 32; refine (hgd _ _ _ _ _ _ _ X1.out HM.out).mono ?_; rintro e w4 ⟨rfl, hx4⟩; have gb2 := GB.out.ext hx4; have hm2 := HM.out.ext hx4; have x2 := X1.out.tr hx4; clear hgd GB X1 HM HAI kgb; have GB := Hd gb2; have X1 := Hd x2; have HM := Hd hm2
     clear gb2 x2 hm2)
  | (have hgd := HSE.out
     go_at_call 33; refine (hgd _ _ _ _ _ _ _ _ X1.out HM.out GB.out).mono ?_; rintro e w5 ⟨va, rfl, hrow, hx5⟩; obtain ⟨f, fu, fc, hown, _⟩ := hrow; obtain ⟨a5, c5, hva⟩ := row_form hown; subst hva; have x2 := X1.out.tr hx5; clear hgd GB X1 HM HSE hx5; have X1 := Hd x2; have HO := Hd hown
     clear x2 hown))
 by_cases h2 : at0 < 0
 {
 have hfe2 : fiErr p s g = 4 := (by rw [HFE.out, if_pos h2]); have HFE2 := Hd hfe2; clear hfe2; go_wp2
 go_ret2
 exact FindPost.no HFE2.out (by decide) X1.out
 }
 {
 have hfe2 : fiErr p s g = 0 := (by rw [HFE.out, if_neg h2]); obtain ⟨i0, rfl⟩ : ∃ i : Nat, at0 = i := ⟨at0.toNat, by omega⟩; have hi0 : i0 < l.length := (by rcases HFO.out with h | h <;> omega); have hb0 := backD_len HBK.out 40000 (i0:Int) (by omega); obtain ⟨bk, hbk⟩ : ∃ b, backD l 40000 (i0:Int) = b := ⟨_, rfl⟩; have hfd2 := HFD.out; rw [hbk] at hfd2 hb0; have hbl : bk.length ≤ 32768 := (by have := HLL.out; omega); clear HFD HFE h2; have HFE2 := Hd hfe2; have HFD2 := Hd hfd2; have HBL := Hd hbl; have HB0 := Hd hbk; clear hfe2 hfd2 hbl hbk
 go_upto_region 10 with (fail)
 go_loopw [11, 12] (fun t11 t12 wr => ∃ (i : Nat) (acc : List (Int × Int)), t11 = .int .i64 i ∧ i < l.length ∧ Hid (wr.ownsRow w5.heap.size 72 2 t12 acc.length (acL acc)) ∧ Hid (acc ++ backD l 40000 i = bk) ∧ Hid (Ext w5 wr)) (fun t11 _ _ => (intOf t11).toNat)
 case atStart => exact ⟨i0, [], rfl, hi0, World.ownsRow_nil _ _ _ _, HB0.out, Below.refl _ _⟩
 case round =>
  obtain ⟨i, acc, rfl, hil, HA, HAC, HX⟩ := hrel; obtain ⟨a6, c6, rfl⟩ := row_form HA.out; obtain ⟨g5, c7, hv, hcell⟩ := owns_pos HO.out (by omega)
  cases hv
  have hst1 := stL_get f l i; have d1 := HX.out.cellSome (hcell (i * 4 + 1) (.int .i64 l[i].kind) (by rw [hst1 1 hil (by omega)]; rfl)); have d2 := HX.out.cellSome (hcell (i * 4 + 2) (.int .i64 l[i].unit) (by rw [hst1 2 hil (by omega)]; rfl)); have d30 := hcell (i * 4 + 3) (.int .i64 l[i].from_) (by rw [hst1 3 hil (by omega)]; rfl); have d3 := HX.out.cellSome d30; have hbi := HBK.out i hil; have hstop := backD_stop (l := l) (f := 39999) (i := (i:Int)) (by simpa using hil); have hstep := backD_step (l := l) (f := 39999) (i := (i:Int)) (by simpa using hil); have hfuel := backD_fuel HBK.out 39999 40000; simp only [Int.toNat_natCast] at hstop hstep; obtain ⟨⟨ta, tk, tu, tf⟩, ht⟩ : ∃ t, l[i] = t := ⟨_, rfl⟩; simp only [ht] at d1 d2 d3 d30 hbi hstop hstep; have i1 : (0:Int) ≤ (i:Int) := (by omega); have i2 : (i:Int) < (l.length:Int) := by omega
  have hacl : acc.length ≤ 32768 := by
   have h1 := congrArg List.length HAC.out; rw [List.length_append] at h1; have := HBL.out; omega
  clear hst1 hcell ht; have STOP := Hd hstop; have STEP := Hd hstep; have FUEL := Hd hfuel; have ACL := Hd hacl; have D30 := Hd d30; clear hstop hstep hfuel hacl d30
  by_cases hf : tf < 0
  {
  have i3 : decide ((0:Int) ≤ tf) = false := decide_eq_false (by omega); have hend := HAC.out; rw [STOP.out hf, List.append_nil] at hend; have hrev := fun W (h : Ext wr W) => reverse_any (B := w5.heap.size) acc (.slice a6 acc.length c6) W (owns_ext HA.out h) (Nat.le_trans ACL.out (by decide)); have HEND := Hd hend; have HREV := Hd hrev; clear hend hrev
  go_wp2_with (
   go_at_call 36; refine (HREV.out _ (Below.refl _ _)).mono ?_; rintro e w7 ⟨rfl, hown7, ho7⟩; have x7 := (X1.out.tr HX.out).then_only ho7 (fun b hb => by have h5 := (HA.out.lt b hb).1; have h6 := X1.out.size; omega); have OW7 := Hd hown7; have X7 := Hd x7
   clear hown7 x7)
  go_ret2
  have hfl : findL p s g = acc.reverse := (by unfold findL; rw [if_pos HFE2.out, HFD2.out, HEND.out]); exact ⟨_, by rw [HFE2.out]; rfl, by rw [hfl, List.length_reverse]; exact owns_weak OW7.out X1.out.size, X7.out⟩
  }
  {
  have i3 : (0:Int) ≤ tf := (by omega); obtain ⟨tn, rfl⟩ : ∃ n : Nat, tf = n := ⟨tf.toNat, by omega⟩; have htn : tn < i := by omega
  have hnext : (acc ++ [(tk, tu)]) ++ backD l 40000 (tn:Int) = bk := by
   rw [← HAC.out, STEP.out hf, List.append_assoc, FUEL.out _ (by omega) (by simp; have := HLL.out; omega) (by simp; have := HLL.out; omega)]; rfl
  have HNX := Hd hnext; clear hnext
  go_wp2_with (
   at_builtin
   refine wpList_app (n := acc.length) (m := 1) tActs rfl rfl (v := .slice a6 acc.length c6) rfl (owns_ext HA.out (ext_lit _ _ _)) rfl (Src.lit _ [.int .i64 tk, .int .i64 tu] 1 2 rfl 72 1) (by simp [Value.oneCell']) (by have := ACL.out; omega) (Nat.le_trans HX.out.size (by simp)) ?_; rintro v' w10 t1 t2 t3; have xt := (HX.out.tr (ext_lit _ _ _)).then_only (only_grown t2) (fun b hb => (HA.out.lt b hb).1); have e3 := xt.cellSome D30.out; clear d1 d2 d3; have T1 := Hd t1; have XT := Hd xt; clear t1 xt
   clear t2 t3)
  go_roundw
  case rel => exact ⟨tn, acc ++ [(tk, tu)], rfl, by omega, by rw [acL_snoc, List.length_append]; exact T1, HNX, XT⟩
  case measure => simp [intOf] <;> omega
  }
 }
 }
 }
 {
 have hpe : fiErr p s g = e1 := (by unfold fiErr goErr; rw [he1, if_pos h1, if_pos h1]); have hs := fun w1 (k : Ext w w1) => (hst w1 k).mono fun e w' (h : StartPost w1 p s _ e w') => (h.resolve_right fun h => h1 (he1 ▸ h.1)).2; rw [he1] at hs; have f1 : (e1 != 0) = true := (by simp [h1]); have f2 : (e1 == 0) = false := (by simp [h1]); have HPE := Hd hpe; have H1 := Hd h1; have HS := Hd hs; clear hpe h1 hs; clear he1 hst
 go_enter Tryz.func10, Tryz.ntmps10
 go_upto_region 1 with (first
  | (with_reducible refine wpList_boxA (t := 34) (cs := #[.slice aj p.jam.length cj, .int .i64 p.warm, .int .i64 p.tail, .int .i64 p.dirt]) rfl rfl rfl ?_
     rintro xb w1 hx1 hx2 hx3; have PB := Hd hx1; have X1 := Hd hx2; clear hx1 hx2
     clear hx3)
  | (with_reducible refine wpList_boxA (t := 38) (cs := #[.int .i64 s.drive, .bool s.folder, .slice a s.units.length c, .int .i64 s.fresh]) rfl rfl rfl ?_
     rintro sb w2 hy1 hy2 hy3; have pb2 := PB.out.ext hy2; have x2 := X1.out.tr hy2; clear PB X1; have SB := Hd hy1; have PB := Hd pb2; have X1 := Hd x2; clear hy1 pb2 x2
     clear hy3 hy2)
  | (with_reducible refine wpList_boxA (t := 40) (cs := #[.int .i64 g.drive, .slice ag g.pressed.length cg]) rfl rfl rfl ?_
     rintro gb w2 hy1 hy2 hy3; have c2 := (PB.out.ext hy2).cell; have c3 := (SB.out.ext hy2).cell; have x2 := X1.out.tr hy2; clear PB X1 SB; have GB := Hd hy1; have X1 := Hd x2; clear hy1 x2
     clear hy3 hy2))
 go_wp2_with (
  have hgd := HS.out; go_at_call 31; refine (hgd _ X1.out).mono ?_; rintro e w3 ⟨rfl, hx3⟩; have x2 := X1.out.tr hx3; clear c2 c3 X1 hgd hx3 HS; have X1 := Hd x2
  clear x2)
 go_ret2
 exact FindPost.no HPE.out H1.out X1.out
 }
def beginS (p : PressD) : StD := if pErr p = 0 then beginD p else zD
set_option maxRecDepth 100000 in
set_option maxHeartbeats 2000000 in
theorem rBegin_any (p : PressD) (vj : Value) (w : World) (hj : Truths w vj p.jam) :
 Calls Tryz.prog 54 #[pV vj p] w fun e w' => ∃ v, e = .returned (.tuple #[sV v (beginS p), .int .i64 (pErr p)]) ∧ UnIn w' v (beginS p).units ∧ Ext w w' := by
 have hck := fun W (k : Ext w W) => rCheck_any p vj W (Sl.ext hj k); obtain ⟨_, aj, cj, hvj, _⟩ := hj; rw [List.length_map] at hvj; subst hvj; unfold pV at *; obtain ⟨e1, he1⟩ : ∃ e, pErr p = e := ⟨_, rfl⟩; rw [he1] at hck; have HCK := Hd hck; have HE1 := Hd he1; clear hck he1
 go_enter Tryz.func54, Tryz.ntmps54
 go_upto_region 2 with (first
  | (with_reducible refine wpList_boxA (t := 24) (cs := #[.slice aj p.jam.length cj, .int .i64 p.warm, .int .i64 p.tail, .int .i64 p.dirt]) rfl rfl rfl ?_
     rintro xb w1 hx1 hx2 hx3; have PB := Hd hx1; have X1 := Hd hx2; clear hx1 hx2
     clear hx3)
  | (with_reducible refine wpList_allocA (t := 27) rfl rfl Tryz.zeroValue27 ?_
     rintro rb w2 hy1 hy2 hy3; have pb2 := PB.out.ext hy2; have x2 := X1.out.tr hy2; have l2 : w.heap.size ≤ rb := Nat.le_trans X1.out.size hy3; have c2 := pb2.cell; clear PB X1; have RB := Hd hy1; have X1 := Hd x2; have LR := Hd l2; have PB := Hd pb2; clear hy1 x2 l2 pb2
     clear hy3 hy2)
  | (have hgd := HCK.out
     go_at_call 56; refine (hgd _ X1.out).mono ?_; rintro e w3 ⟨rfl, hx3⟩; have x2 := X1.out.tr hx3; have rb2 := RB.out.ext hx3; have pb2 := PB.out.ext hx3; clear c2 RB X1 PB hgd hx3 HCK; have c2 := pb2.cell; have X1 := Hd x2; have RB := Hd rb2; have PB := Hd pb2
     clear x2 rb2 pb2))
 by_cases h1 : e1 = 0
 {
 subst h1; have hlen := pErr_len HE1.out; have hmk := made_units p.jam.length hlen; have hbs : beginS p = beginD p := if_pos HE1.out; have HMK := Hd hmk; have HBS := Hd hbs; clear hmk hbs
 go_wp2_with (first
  | (refine wpList_makeN (n := p.jam.length) tRUnits rfl rfl rfl rfl ?_ ?_
     omega; rintro w4 hown hx4; have x2 := X1.out.tr hx4; have rb2 := RB.out.ext hx4; have OW := Hd hown; have X2 := Hd x2; have RB2 := Hd rb2
     clear hown x2 rb2)
  | (with_reducible refine wpList_storeK (ty := 27) (cells := #[.int .i64 0, .bool false, .slice (some ⟨w3.heap.size, 0, none⟩) p.jam.length p.jam.length, .int .i64 0]) rfl rfl RB2.out ?_ ?_ ?_ ?_ ?_ ?_
     rfl; rfl; kernel_rfl; rfl; simp [Value.oneCell']; rintro w7 hb7 ho7; have k0 := hb7.cell; have x2 := X2.out.then_only ho7 (fun k (e : k = rb) => by rw [e]; exact LR.out); have hlr := RB.out.lt; have how := owns_only OW.out ho7 (fun b hb (e : b = rb) => Nat.ne_of_lt hlr ((Option.some.inj hb).trans e).symm); clear X2 RB2 OW ho7 hb7; have X1 := Hd x2; have OW := Hd how
     clear x2 how))
 refine bodyPost_ret (v := .tuple #[sV (.slice (some ⟨w3.heap.size, 0, none⟩) p.jam.length p.jam.length) (beginD p), .int .i64 0]) (by simp [results, Tryz.results54, go_sem, k0, sV, beginD]) rfl ?_; refine ⟨_, by rw [HBS.out, HE1.out], ?_, X1.out⟩; rw [HBS.out]; have hl2 : (beginD p).units.length = p.jam.length := (by simp [beginD]); refine UnIn.of_owns (B := w3.heap.size) (e := 63) ?_ (by omega); rw [hl2]; unfold beginD; rw [← HMK.out]; exact OW.out
 }
 {
 have f1 : (e1 != 0) = true := (by simp [h1]); have h1' := h1; have hbs : beginS p = zD := if_neg (by rw [HE1.out]; exact h1); have H1 := Hd h1; have HBS := Hd hbs; clear h1 hbs
 go_wp2_with (
  (with_reducible refine wpList_storeK (ty := 27) (cells := #[.int .i64 0, .bool false, .slice none 0 0, .int .i64 0]) rfl rfl RB.out ?_ ?_ ?_ ?_ ?_ ?_); rfl; rfl; kernel_rfl; rfl; simp [Value.oneCell']; rintro w7 hb7 ho7; have k0 := hb7.cell; have x2 := X1.out.then_only ho7 (fun k (e : k = rb) => by rw [e]; exact LR.out); clear X1 RB ho7 hb7; have X1 := Hd x2
  clear x2)
 refine bodyPost_ret (v := .tuple #[sZ, .int .i64 e1]) (by simp [results, Tryz.results54, go_sem, k0, sZ]) rfl ?_; exact ⟨.slice none 0 0, by rw [HBS.out, HE1.out]; rfl, by rw [HBS.out]; exact UnIn.nil _, X1.out⟩
 }
set_option maxRecDepth 100000 in
set_option maxHeartbeats 2000000 in
theorem rSafe_all (p : PressD) (s : StD) (vj vu : Value) (w : World) (hj : Truths w vj p.jam) (hu : UnIn w vu s.units) (hl : s.units.length ≤ 1000000) :
 Calls Tryz.prog 58 #[pV vj p, sV vu s] w fun e w' => e = .returned (.tuple #[.bool (safeB p s), .int .i64 (safeE p s)]) ∧ Ext w w' := by
 have hc := fun w1 (k : Ext w w1) => rCheck_any p vj w1 (Sl.ext hj k); have hsh := fun w1 (k : Ext w w1) => rShaped_any p s vj vu w1 (Sl.ext hj k) (hu.ext k); have hsf := fun w1 (k : Ext w w1) => rSafe_any s vu w1 (hu.ext k) hl; obtain ⟨a, c, rfl, Hu⟩ := hu.form; obtain ⟨_, aj, cj, hvj, _⟩ := id hj; rw [List.length_map] at hvj; subst hvj; clear hu hl; unfold pV sV at *; obtain ⟨e1, he1⟩ : ∃ e, pErr p = e := ⟨_, rfl⟩; obtain ⟨b1, hb1⟩ : ∃ b, shapedD p s = b := ⟨_, rfl⟩; obtain ⟨b2, hb2⟩ : ∃ b, safeR s = b := ⟨_, rfl⟩; have hse : safeE p s = if e1 ≠ 0 then e1 else if b1 then 0 else 9 := by unfold safeE; rw [he1, hb1]
 have hsb : safeB p s = (decide (safeE p s = 0) && b2) := by
  unfold safeB
  by_cases h0 : safeE p s = 0
  {
  have hb : b1 = true := by
   cases b1
   {
   rw [hse] at h0
   by_cases h : e1 = 0
   · rw [if_neg (by simp [h])] at h0; simp at h0
   · rw [if_pos h] at h0; exact absurd h0 h
   }
   rfl
  rw [hb] at hb1; rw [← safe_eq s (shaped_nums hb1).1, hb2]
  }
  · simp [h0]
 obtain ⟨E, hE⟩ : ∃ E, safeE p s = E := ⟨_, rfl⟩; rw [hE] at hse hsb; obtain ⟨BB, hBB⟩ : ∃ B, safeB p s = B := ⟨_, rfl⟩; rw [hBB] at hsb; rw [hE, hBB]; rw [he1] at hc; rw [hb1] at hsh; rw [hb2] at hsf; have HC := Hd hc; have HSH := Hd hsh; have HSF := Hd hsf; have HSE := Hd hse; have HSB := Hd hsb; clear hc hsh hsf hse hsb; clear he1 hb1 hb2 hE hBB
 go_enter Tryz.func58, Tryz.ntmps58
 go_upto_region 2 with (first
  | (with_reducible refine wpList_boxA (t := 24) (cs := #[.slice aj p.jam.length cj, .int .i64 p.warm, .int .i64 p.tail, .int .i64 p.dirt]) rfl rfl rfl ?_
     rintro xb w1 hx1 hx2 hx3; have c1 := hx1.cell; have XB := Hd hx1; have X1 := Hd hx2; clear hx1 hx2
     clear hx3)
  | (with_reducible refine wpList_boxA (t := 27) (cs := #[.int .i64 s.drive, .bool s.folder, .slice a s.units.length c, .int .i64 s.fresh]) rfl rfl rfl ?_
     rintro sb w2 hy1 hy2 hy3; have c2 := (XB.out.ext hy2).cell; have xb2 := XB.out.ext hy2; have x2 := X1.out.tr hy2; have c3 := hy1.cell; clear X1 c1 XB; have SB := Hd hy1; have X1 := Hd x2; have XB := Hd xb2; clear hy1 x2 xb2
     clear hy3 hy2)
  | (have hgd := HC.out
     go_at_call 56; refine (hgd _ X1.out).mono ?_; rintro e w3 ⟨rfl, hx3⟩; have d2 := (XB.out.ext hx3).cell; have d3 := (SB.out.ext hx3).cell; have xb2 := XB.out.ext hx3; have sb2 := SB.out.ext hx3; have x2 := X1.out.tr hx3; clear c2 c3 XB SB X1 hgd hx3; have c2 := d2; have c3 := d3; have XB := Hd xb2; have SB := Hd sb2; have X1 := Hd x2; clear xb2 sb2 x2
     clear d2 d3))
 by_cases h1 : e1 = 0
 {
 subst h1
 cases b1
 {
 have h9 : E = 9 := (by rw [HSE.out]; rfl); have h8 : BB = false := (by rw [HSB.out, h9]; rfl); have H9 := Hd h9; have H8 := Hd h8; clear h9 h8
 go_wp2_with (first
  | (have hgd := HSH.out
     go_at_call 76; refine (hgd _ X1.out).mono ?_; rintro e w3 ⟨rfl, hx3⟩; have d3 := (SB.out.ext hx3).cell; have x2 := X1.out.tr hx3; clear c2 c3 XB SB X1 hgd hx3 HSH; have c3 := d3; have X1 := Hd x2; clear x2
     clear d3)
  | (have hgd := HSF.out
     go_at_call 51; refine (hgd _ X1.out).mono ?_; rintro e w3 ⟨rfl, hx3⟩; have x2 := X1.out.tr hx3; clear X1 hgd hx3 HSF; have X1 := Hd x2
     clear x2)
 )
 go_ret2
 exact ⟨by rw [H9.out, H8.out] <;> rfl, X1.out⟩
 }
 {
 have h9 : E = 0 := (by rw [HSE.out]; rfl); have h8 : BB = b2 := (by rw [HSB.out, h9]; simp); have H9 := Hd h9; have H8 := Hd h8; clear h9 h8
 go_wp2_with (first
  | (have hgd := HSH.out
     go_at_call 76; refine (hgd _ X1.out).mono ?_; rintro e w3 ⟨rfl, hx3⟩; have d3 := (SB.out.ext hx3).cell; have x2 := X1.out.tr hx3; clear c2 c3 XB SB X1 hgd hx3 HSH; have c3 := d3; have X1 := Hd x2; clear x2
     clear d3)
  | (have hgd := HSF.out
     go_at_call 51; refine (hgd _ X1.out).mono ?_; rintro e w3 ⟨rfl, hx3⟩; have x2 := X1.out.tr hx3; clear X1 hgd hx3 HSF; have X1 := Hd x2
     clear x2)
 )
 go_ret2
 exact ⟨by rw [H9.out, H8.out] <;> rfl, X1.out⟩
 }
 }
 {
 have q1 : (e1 == 0) = false := (by simp [h1]); have f1 : (e1 != 0) = true := (by simp [h1]); have h9 : E = e1 := (by rw [HSE.out, if_pos h1]); have h8 : BB = false := (by rw [HSB.out, h9]; simp [h1]); have H9 := Hd h9; have H8 := Hd h8; clear h9 h8
 go_wp2_with (fail)
 go_ret2
 exact ⟨by rw [H9.out, H8.out] <;> rfl, X1.out⟩
 }
set_option maxRecDepth 100000 in
set_option maxHeartbeats 2000000 in
theorem sameTruths_eq (l : List Bool) (va vb : Value) (w : World) (ha : Truths w va l) (hb : Truths w vb l) :
 Calls Tryz.prog 22 #[va, vb] w fun e w' => e = .returned (.bool true) ∧ Ext w w' := by
 obtain ⟨hl, a, c, hva, _, hca⟩ := ha; rw [List.length_map] at hva hca hl; subst hva; obtain ⟨_, b, d, hvb, _, hcb⟩ := hb; rw [List.length_map] at hvb hcb; subst hvb; have HCA := Hd hca; have HCB := Hd hcb; clear hca hcb
 go_enter Tryz.func22, Tryz.ntmps22
 go_wp2
 go_loopw [5] (fun t5 wr => ∃ k : Nat, k ≤ l.length ∧ t5 = .int .i64 k ∧ Hid (Ext w wr)) (fun t5 _ => l.length - (intOf t5).toNat)
 case atStart => exact ⟨0, by omega, rfl, Below.refl _ _⟩
 case round =>
  obtain ⟨k, hk, rfl, HX⟩ := hrel
  by_cases hlt : k < l.length
  {
  obtain ⟨b1, o1, rfl, hc⟩ := HCA.out (by omega); obtain ⟨b2, o2, rfl, hc2⟩ := HCB.out (by omega); have d0 := HX.out.cellSome (hc k (.bool l[k]) (by simp [hlt])); have e0 := HX.out.cellSome (hc2 k (.bool l[k]) (by simp [hlt])); obtain ⟨u, hu⟩ : ∃ u, l[k] = u := ⟨_, rfl⟩; rw [hu] at d0 e0; have i1 : (0:Int) ≤ (k:Int) := (by omega); have i2 : (k:Int) < (l.length:Int) := (by omega); clear hu hc hc2
  go_upto_region 6 with (fail)
  go_quiet (fail)
  have xq := HX.out.tr (Ext.of_drewN wr nq); generalize wr.drewN nq = wq at *; have XQ := Hd xq; clear xq; go_wp2
  go_roundw
  case rel => exact ⟨k + 1, by omega, by go_num, XQ⟩
  case measure => simp [intOf] <;> omega
  }
  {
  have i2 : decide ((k:Int) < (l.length:Int)) = false := decide_eq_false (by omega); obtain rfl : k = l.length := by omega
  go_wp2_with (fail)
  go_ret; exact ⟨rfl, HX.out⟩
  }
set_option maxRecDepth 100000 in
set_option maxHeartbeats 2000000 in
theorem sameActions_eq (l : List (Int × Int)) (va vb : Value) (w : World) (ha : AcIn w va l) (hb : AcIn w vb l) :
 Calls Tryz.prog 12 #[va, vb] w fun e w' => e = .returned (.bool true) ∧ Ext w w' := by
 obtain ⟨hl, a, c, hva, hca⟩ := ha; subst hva; obtain ⟨_, b, d, hvb, hcb⟩ := hb; subst hvb; have HCA := Hd hca; have HCB := Hd hcb; clear hca hcb
 go_enter Tryz.func12, Tryz.ntmps12
 go_wp2
 go_loopw [5] (fun t5 wr => ∃ k : Nat, k ≤ l.length ∧ t5 = .int .i64 k ∧ Hid (Ext w wr)) (fun t5 _ => l.length - (intOf t5).toNat)
 case atStart => exact ⟨0, by omega, rfl, Below.refl _ _⟩
 case round =>
  obtain ⟨k, hk, rfl, HX⟩ := hrel
  by_cases hlt : k < l.length
  {
  obtain ⟨b1, o1, rfl, hc⟩ := HCA.out (by omega); obtain ⟨b2, o2, rfl, hc2⟩ := HCB.out (by omega); have d0 := HX.out.cellSome (hc k hlt).1; have d1 := HX.out.cellSome (hc k hlt).2; have e0 := HX.out.cellSome (hc2 k hlt).1; have e1 := HX.out.cellSome (hc2 k hlt).2; obtain ⟨u, hu⟩ : ∃ u, l[k] = u := ⟨_, rfl⟩; rw [hu] at d0 d1 e0 e1; obtain ⟨uk, uu⟩ := u; dsimp only at *; have i1 : (0:Int) ≤ (k:Int) := (by omega); have i2 : (k:Int) < (l.length:Int) := (by omega); clear hu hc hc2
  go_upto_region 6 with (fail)
  go_quiet (fail)
  have xq := HX.out.tr (Ext.of_drewN wr nq); generalize wr.drewN nq = wq at *; have XQ := Hd xq; clear xq; go_wp2
  go_roundw
  case rel => exact ⟨k + 1, by omega, by go_num, XQ⟩
  case measure => simp [intOf] <;> omega
  }
  {
  have i2 : decide ((k:Int) < (l.length:Int)) = false := decide_eq_false (by omega); obtain rfl : k = l.length := by omega
  go_wp2_with (fail)
  go_ret; exact ⟨rfl, HX.out⟩
  }
set_option maxRecDepth 100000 in
set_option maxHeartbeats 2000000 in
theorem lawActions_any (l : List (Int × Int)) (va : Value) (w : World) (ha : AcIn w va l) (hl : l.length ≤ 1000000) :
 Calls Tryz.prog 14 #[va] w fun e w' => ∃ v, e = .returned v ∧ Ext w w' ∧ w'.ownsRow w.heap.size 72 2 v l.length (acL l) := by
 obtain ⟨_, a, c, hva, hca⟩ := ha; subst hva; have HCA := Hd hca; have HL := Hd hl; clear hca hl
 go_enter Tryz.func14, Tryz.ntmps14
 go_upto_region 3 with (fail)
 go_loopw [3, 4] (fun v t4 wr => ∃ k : Nat, k ≤ l.length ∧ t4 = .int .i64 k ∧ Hid (Ext w wr) ∧ Hid (wr.ownsRow w.heap.size 72 2 v k (acL (l.take k)))) (fun _ t4 _ => l.length - (intOf t4).toNat)
 case atStart => exact ⟨0, by omega, rfl, Below.refl _ _, World.ownsRow_nil _ _ _ _⟩
 case round =>
  rename_i v; obtain ⟨k, hk, rfl, HX, HO⟩ := hrel; obtain ⟨a5, c5, rfl⟩ := row_form HO.out; have hkb : k ≤ 1000000 := Nat.le_trans hk HL.out
  by_cases hlt : k < l.length
  {
  obtain ⟨b1, o1, rfl, hc⟩ := HCA.out (by omega); have d0 := HX.out.cellSome (hc k hlt).1; have d1 := HX.out.cellSome (hc k hlt).2
  have hsn : acL (l.take (k + 1)) = acL (l.take k) ++ acC l[k] := by
   unfold acL; rw [List.take_succ_eq_append_getElem hlt, List.flatMap_append]; simp
  obtain ⟨u, hu⟩ : ∃ u, l[k] = u := ⟨_, rfl⟩; rw [hu] at d0 d1 hsn; obtain ⟨uk, uu⟩ := u; dsimp only at *; have i1 : (0:Int) ≤ (k:Int) := (by omega); have i2 : (k:Int) < (l.length:Int) := (by omega); clear hu hc; have HSN := Hd hsn; clear hsn
  go_wp2_with (
   at_builtin
   refine wpList_app (n := k) (m := 1) tActs rfl rfl (v := .slice a5 k c5) rfl (owns_ext HO.out (ext_lit _ _ _)) rfl (Src.lit _ [.int .i64 uk, .int .i64 uu] 1 2 rfl 72 1) (by simp [Value.oneCell']) (by omega) (Nat.le_trans HX.out.size (by simp)) ?_; rintro v' w10 t1 t2 t3; have x2 := (HX.out.tr (ext_lit wr _ _)).then_only (only_grown t2) (fun b hb => (HO.out.lt b hb).1); rw [show acL (l.take k) ++ [Value.int .i64 uk, .int .i64 uu] = acL (l.take (k + 1)) from HSN.out.symm] at t1; clear HO HX; have HO := Hd t1; have HX := Hd x2; clear t1 x2
   clear t2 t3)
  go_roundw
  case rel => exact ⟨k + 1, by omega, by go_num, HX, HO⟩
  case measure => simp [intOf] <;> omega
  }
  {
  have i2 : decide ((k:Int) < (l.length:Int)) = false := decide_eq_false (by omega); obtain rfl : k = l.length := (by omega); have ho := HO.out; rw [List.take_length] at ho; have HO2 := Hd ho; clear ho
  go_wp2_with (fail)
  go_ret; exact ⟨_, rfl, HX.out, HO2.out⟩
  }
theorem allow_at {p : PressD} {s : StD} {i : Nat} {u : UnitD} {d : Int} {jk fo : Bool} {no np : Nat} (hu : s.units.getD i default = u) (hd : s.drive = d) (hj : p.jam.getD i false = jk) (hf : s.folder = fo) (hno : nOpen s = no) (hnp : nPr s = np) (k : Int) :
 allowD p s k i = (
  if k = 1 then d == 0 && !u.op
  else if k = 2 then u.op
  else if k = 3 then d == 1 && !u.th
  else if k = 4 then d == 1 && !u.th && !jk
  else if k = 5 then d != 0 && u.th && u.cl && !u.pr
  else if k = 6 then u.pr && (d != 2 || decide (1 < np))
  else if k = 7 then d != 1 && !decide (0 < no)
  else if k = 8 then d == 1 && decide (0 < np)
  else if k = 9 then d != 0 && !decide (0 < np)
  else if k = 10 then d == 0 && !fo
  else if k = 11 then fo
  else d == 0 && u.op && u.th) := by
 subst hu hd hj hf hno hnp; unfold allowD; rw [opened_n, anyPr_n]
set_option maxRecDepth 100000 in
set_option maxHeartbeats 4000000 in
theorem rAllowed_any {p : PressD} {s : StD} (g : Good p s) (k : Int) (i : Nat) (hk : 1 ≤ k ∧ k ≤ 12) (hi : i < s.units.length) (vj vu : Value) (w : World) (hj : Truths w vj p.jam) (hu : UnIn w vu s.units) :
 Calls Tryz.prog 79 #[pV vj p, sV vu s, .agg #[.int .i64 k, .int .i64 i]] w fun e w' => e = .returned (.bool (allowD p s k i)) ∧ Ext w w' := by
 have hl3 := g.small; have hct := fun w1 (k : Ext w w1) => rCount_any s vu w1 (hu.ext k) (by omega); obtain ⟨a, c, rfl, Hu⟩ := hu.form; obtain ⟨_, aj, cj, hvj, _, hcj⟩ := hj; rw [List.length_map] at hvj hcj; subst hvj; obtain ⟨ua, uo, rfl, hcu⟩ := UnIn.cells Hu.out (by omega); obtain ⟨d0, d1, d2, d3, d4⟩ := hcu i hi; obtain ⟨ja, jo, rfl, hcj2⟩ := hcj (by rw [← g.len]; omega); have hij : i < p.jam.length := (by rw [← g.len]; exact hi); have hgj : p.jam.getD i false = p.jam[i] := (by rw [List.getD_eq_getElem?_getD, List.getElem?_eq_getElem hij]; rfl); have j0 := hcj2 i (.bool p.jam[i]) (by simp [hij]); have hgu : s.units.getD i default = s.units[i] := by rw [List.getD_eq_getElem?_getD, List.getElem?_eq_getElem hi]; rfl
 have hweb : s.drive = 0 → s.units[i].pr = false := fun h => by
  cases h2 : s.units[i].pr
  rfl
  · exact absurd h (g.web _ (List.getElem_mem hi) h2).2
 obtain ⟨u, hux⟩ : ∃ u, s.units[i] = u := ⟨_, rfl⟩; obtain ⟨jk, hjk⟩ : ∃ b, p.jam[i] = b := ⟨_, rfl⟩; obtain ⟨d, hd⟩ : ∃ d, s.drive = d := ⟨_, rfl⟩; obtain ⟨fo, hfo⟩ : ∃ f, s.folder = f := ⟨_, rfl⟩; obtain ⟨fr, hfr⟩ : ∃ f, s.fresh = f := ⟨_, rfl⟩; obtain ⟨n, hn⟩ : ∃ n, s.units.length = n := ⟨_, rfl⟩; obtain ⟨m, hm⟩ : ∃ n, p.jam.length = n := ⟨_, rfl⟩; obtain ⟨no, hno⟩ : ∃ n, nOpen s = n := ⟨_, rfl⟩; obtain ⟨np, hnp⟩ : ∃ n, nPr s = n := ⟨_, rfl⟩; rw [hux] at hgu d0 d1 d2 d3 d4 hweb; rw [hjk] at hgj j0; have hal := allow_at hgu hd hgj hfo hno hnp; have hdr := g.dr; unfold pV sV at *; rw [hn] at hct hi hl3 ⊢; rw [hm] at hij ⊢; rw [hd] at hct hdr hweb ⊢; rw [hfo, hfr] at hct ⊢; rw [hno, hnp] at hct; obtain ⟨B, hB⟩ : ∃ b, allowD p s k i = b := ⟨_, rfl⟩; have hal2 := hal k; rw [hB] at hal2 ⊢; obtain ⟨uop, uth, ucl, upr, uin⟩ := u; dsimp only at hal2 d0 d1 d2 d3 d4 hweb; have i1 : (0:Int) ≤ (i:Int) := (by omega); have i2 : (i:Int) < (n:Int) := (by omega); have i3 : (i:Int) < (m:Int) := (by omega); have HCT := Hd hct; have HAL := Hd hal2; have HW := Hd hweb; have HK := Hd hk; have HDR := Hd hdr; have D0 := Hd d0; have D1 := Hd d1; have D2 := Hd d2; have D3 := Hd d3; have D4 := Hd d4; have J0 := Hd j0; clear hct hal2 hweb hk hdr d0 d1 d2 d3 d4 j0; clear hal hB hcu hcj hcj2 hgu hgj hux hjk hd hfo hfr hn hm hno hnp g Hu; clear hl3
 go_enter Tryz.func79, Tryz.ntmps79
 go_upto_region 1 with (first
  | (with_reducible refine wpList_boxA (t := 24) (cs := #[.slice (some ⟨ja, jo, none⟩) m cj, .int .i64 p.warm, .int .i64 p.tail, .int .i64 p.dirt]) rfl rfl rfl ?_
     rintro xb w1 hx1 hx2 hx3; have PB := Hd hx1; have X1 := Hd hx2; clear hx1 hx2
     clear hx3)
  | (with_reducible refine wpList_boxA (t := 27) (cs := #[.int .i64 d, .bool fo, .slice (some ⟨ua, uo, none⟩) n c, .int .i64 fr]) rfl rfl rfl ?_
     rintro sb w2 hy1 hy2 hy3; have pb2 := PB.out.ext hy2; have x2 := X1.out.tr hy2; clear PB X1; have SB := Hd hy1; have PB := Hd pb2; have X1 := Hd x2; clear hy1 pb2 x2
     clear hy3 hy2)
  | (with_reducible refine wpList_boxA (t := 66) (cs := #[.int .i64 k, .int .i64 i]) rfl rfl rfl ?_
     rintro ab w3 hy1 hy2 hy3; have pb2 := PB.out.ext hy2; have sb2 := SB.out.ext hy2; have x2 := X1.out.tr hy2; clear PB X1 SB; have c2 := sb2.cell; have c3 := hy1.cell; have d0 := x2.cellSome D0.out; have d1 := x2.cellSome D1.out; have d2 := x2.cellSome D2.out; have d3 := x2.cellSome D3.out; have d4 := x2.cellSome D4.out; clear D0 D1 D2 D3 D4; have SB := Hd sb2; have PB := Hd pb2; have X1 := Hd x2; have AB := Hd hy1; have D0 := Hd d0; have D1 := Hd d1; have D2 := Hd d2; have D3 := Hd d3; have D4 := Hd d4; clear sb2 pb2 x2 hy1 d0 d1 d2 d3 d4; have d0 := D0.out; have d1 := D1.out; have d2 := D2.out; have d3 := D3.out; have d4 := D4.out
     clear hy3 hy2))
 go_upto_region 3 with (first
  | (with_reducible refine wpList_allocA (t := 63) rfl rfl Tryz.zeroValue63 ?_
     rintro ub w4 hy1 hy2 hy3; have pb2 := PB.out.ext hy2; have sb2 := SB.out.ext hy2; have ab2 := AB.out.ext hy2; have x2 := X1.out.tr hy2; have d0 := hy2.cellSome D0.out; have d1 := hy2.cellSome D1.out; have d2 := hy2.cellSome D2.out; have d3 := hy2.cellSome D3.out; have d4 := hy2.cellSome D4.out; have lz : w3.heap.size ≤ ub := hy3; clear c2 c3 PB SB AB D0 D1 D2 D3 D4; have c2 := sb2.cell; have c3 := ab2.cell; have UB := Hd hy1; have X2 := Hd x2; have PB := Hd pb2; have SB := Hd sb2; have AB := Hd ab2; have LZ := Hd lz; have Z := Hd hy2; clear hy1 x2 pb2 sb2 ab2 lz hy2
     clear hy3)
  | (with_reducible refine wpList_storeK (ty := 63) (cells := #[.bool uop, .bool uth, .bool ucl, .bool upr, .int .i64 uin]) rfl rfl UB.out ?_ ?_ ?_ ?_ ?_ ?_
     rfl; rfl; kernel_rfl; rfl; simp [Value.oneCell']; rintro w5 hb ho; have x2 := X2.out.then_only ho (fun k (e : k = ub) => by rw [e]; exact Nat.le_trans X1.out.size LZ.out); have pb2 := PB.out.only ho (fun e => absurd (blk_ty PB.out (e ▸ UB.out)) (by decide)); have sb2 := SB.out.only ho (fun e => absurd (blk_ty SB.out (e ▸ UB.out)) (by decide)); have ab2 := AB.out.only ho (fun e => absurd (blk_ty AB.out (e ▸ UB.out)) (by decide)); clear c2 c3 d0 d1 d2 d3 d4 PB SB AB UB X2 ho LZ Z X1; have c2 := sb2.cell; have X1 := Hd x2; have PB := Hd pb2; have SB := Hd sb2; have AB := Hd ab2; have UB := Hd hb
     clear x2 pb2 sb2 ab2 hb)
  | (go_at_call 78
     refine (HCT.out _ X1.out).mono ?_; rintro e w6 ⟨rfl, hx⟩; have pb2 := PB.out.ext hx; have sb2 := SB.out.ext hx; have ab2 := AB.out.ext hx; have ub2 := UB.out.ext hx; have x2 := X1.out.tr hx; have c1 := pb2.cell; have j0 := x2.cellSome J0.out; clear c2 PB SB AB UB X1 hx HCT J0; have c2 := sb2.cell; have c3 := ab2.cell; have c4 := ub2.cell; have X1 := Hd x2
     clear x2))
 have hk2 : k = 1 ∨ k = 2 ∨ k = 3 ∨ k = 4 ∨ k = 5 ∨ k = 6 ∨ k = 7 ∨ k = 8 ∨ k = 9 ∨ k = 10 ∨ k = 11 ∨ k = 12 := (by have := HK.out; omega); have hd2 : d = 0 ∨ d = 1 ∨ d = 2 := (by have := HDR.out; omega); clear HK HDR
 rcases hk2 with rfl | rfl | rfl | rfl | rfl | rfl | rfl | rfl | rfl | rfl | rfl | rfl
 {
 rcases hd2 with rfl | rfl | rfl <;> cases uop <;> (
  go_wp2_with (fail)
  go_ret
  exact ⟨by rw [HAL.out]; rfl, X1.out⟩)
 }
 {
 clear hd2
 go_wp2_with (fail)
 go_ret; exact ⟨by rw [HAL.out]; rfl, X1.out⟩
 }
 {
 rcases hd2 with rfl | rfl | rfl <;> cases uth <;> (
  go_wp2_with (fail)
  go_ret
  exact ⟨by rw [HAL.out]; rfl, X1.out⟩)
 }
 {
 rcases hd2 with rfl | rfl | rfl <;> cases uth <;> cases jk <;> (
  go_wp2_with (fail)
  go_ret
  exact ⟨by rw [HAL.out]; rfl, X1.out⟩)
 }
 {
 rcases hd2 with rfl | rfl | rfl <;> cases uth <;> cases ucl <;> cases upr <;> (
  go_wp2_with (fail)
  go_ret
  exact ⟨by rw [HAL.out]; rfl, X1.out⟩)
 }
 {
 by_cases h : 1 < np
 {
 have f1 : (1:Int) < (np:Int) := by omega
 cases upr
 {
 rcases hd2 with rfl | rfl | rfl <;> (
  go_wp2_with (fail)
  go_ret
  exact ⟨by rw [HAL.out]; simp, X1.out⟩)
 }
 {
 rcases hd2 with rfl | rfl | rfl
 · exact absurd (HW.out rfl) (by decide)
 {
 (
 go_wp2_with (fail)
 go_ret
 exact ⟨by rw [HAL.out]; simp [h], X1.out⟩)
 }
 {
 (
 go_wp2_with (fail)
 go_ret
 exact ⟨by rw [HAL.out]; simp [h], X1.out⟩)
 }
 }
 }
 {
 have f1 : decide ((1:Int) < (np:Int)) = false := decide_eq_false (by omega)
 cases upr
 {
 rcases hd2 with rfl | rfl | rfl <;> (
  go_wp2_with (fail)
  go_ret
  exact ⟨by rw [HAL.out]; simp, X1.out⟩)
 }
 {
 rcases hd2 with rfl | rfl | rfl
 · exact absurd (HW.out rfl) (by decide)
 {
 (
 go_wp2_with (fail)
 go_ret
 exact ⟨by rw [HAL.out]; simp [h], X1.out⟩)
 }
 {
 (
 go_wp2_with (fail)
 go_ret
 exact ⟨by rw [HAL.out]; simp [h], X1.out⟩)
 }
 }
 }
 }
 {
 by_cases h : no = 0
 {
 have f1 : ((no:Int) == 0) = true := (by simp [h]); have f2 : decide ((no:Int) = 0) = true := by simp [h]
 rcases hd2 with rfl | rfl | rfl <;> (
  go_wp2_with (fail)
  go_ret
  exact ⟨by rw [HAL.out]; simp [h], X1.out⟩)
 }
 {
 have f1 : ((no:Int) == 0) = false := (by simp; omega); have f2 : decide ((no:Int) = 0) = false := (by simp; omega); have h' : 0 < no := by omega
 rcases hd2 with rfl | rfl | rfl <;> (
  go_wp2_with (fail)
  go_ret
  exact ⟨by rw [HAL.out]; simp [h'], X1.out⟩)
 }
 }
 {
 by_cases h : 0 < np
 {
 have f1 : (0:Int) < (np:Int) := by omega
 rcases hd2 with rfl | rfl | rfl <;> (
  go_wp2_with (fail)
  go_ret
  exact ⟨by rw [HAL.out]; simp [h], X1.out⟩)
 }
 {
 have f1 : decide ((0:Int) < (np:Int)) = false := decide_eq_false (by omega)
 rcases hd2 with rfl | rfl | rfl <;> (
  go_wp2_with (fail)
  go_ret
  exact ⟨by rw [HAL.out]; simp [h], X1.out⟩)
 }
 }
 {
 by_cases h : np = 0
 {
 have f1 : ((np:Int) == 0) = true := (by simp [h]); have f2 : decide ((np:Int) = 0) = true := by simp [h]
 rcases hd2 with rfl | rfl | rfl <;> (
  go_wp2_with (fail)
  go_ret
  exact ⟨by rw [HAL.out]; simp [h], X1.out⟩)
 }
 {
 have f1 : ((np:Int) == 0) = false := (by simp; omega); have f2 : decide ((np:Int) = 0) = false := (by simp; omega); have h' : 0 < np := by omega
 rcases hd2 with rfl | rfl | rfl <;> (
  go_wp2_with (fail)
  go_ret
  exact ⟨by rw [HAL.out]; simp [h'], X1.out⟩)
 }
 }
 {
 rcases hd2 with rfl | rfl | rfl <;> cases fo <;> (
  go_wp2_with (fail)
  go_ret
  exact ⟨by rw [HAL.out]; rfl, X1.out⟩)
 }
 {
 clear hd2
 go_wp2_with (fail)
 go_ret; exact ⟨by rw [HAL.out]; rfl, X1.out⟩
 }
 {
 rcases hd2 with rfl | rfl | rfl <;> cases uop <;> cases uth <;> (
  go_wp2_with (fail)
  go_ret
  exact ⟨by rw [HAL.out]; rfl, X1.out⟩)
 }
set_option maxRecDepth 100000 in
set_option maxHeartbeats 4000000 in
theorem sitCode_any (l : List Bool) (hl : l.length = 15) (w : World) :
 Calls Tryz.prog 44 #[.agg (l.map Value.bool).toArray] w fun e w' => e = .returned (.int .i64 ((if l.getD 0 false then 1 else if l.getD 1 false then 2 else 0) + 3 * (bitsN (l.drop 2) : Nat))) ∧ Ext w w' := by
 have hat : ∀ i, i < 15 → ((l.map Value.bool).toArray)[i]? = some (.bool (l.getD i false)) := fun i hi => by
  simp [List.getD_eq_getElem?_getD, hl, hi]
 have hstep : ∀ i, i < 15 → bitsN (l.drop i) = (l.getD i false).toNat + 2 * bitsN (l.drop (i + 1)) := fun i hi => by
  rw [bitsN_drop l i (by omega), List.getD_eq_getElem?_getD, List.getElem?_eq_getElem (by omega)]; rfl
 have hbd : ∀ i, 1 ≤ i → bitsN (l.drop i) < 32768 := fun i hi => by
  have h := bitsN_lt (l.drop i); have h2 : 2 ^ (l.drop i).length ≤ 2 ^ 15 := Nat.pow_le_pow_right (by omega) (by rw [List.length_drop]; omega); omega
 have h15 : bitsN (l.drop 15) = 0 := (by rw [List.drop_eq_nil_of_le (by omega)]; rfl); obtain ⟨F, hF⟩ : ∃ F : Nat → Bool, F = fun i => l.getD i false := ⟨_, rfl⟩; obtain ⟨G, hG⟩ : ∃ G : Nat → Nat, G = fun i => bitsN (l.drop i) := ⟨_, rfl⟩; have hat' : ∀ i, i < 15 → ((l.map Value.bool).toArray)[i]? = some (.bool (F i)) := (by rw [hF]; exact hat); have hstep' : ∀ i, i < 15 → G i = (F i).toNat + 2 * G (i + 1) := (by rw [hF, hG]; exact hstep); have hbd' : ∀ i, 1 ≤ i → G i < 32768 := (by rw [hG]; exact hbd); have h15' : G 15 = 0 := (by rw [hG]; exact h15); have e0 : l.getD 0 false = F 0 := (by rw [hF]); have e1 : l.getD 1 false = F 1 := (by rw [hF]); have e2 : bitsN (l.drop 2) = G 2 := (by rw [hG]); rw [e0, e1, e2]; obtain ⟨R, hR⟩ : ∃ R : Int, (if F 0 then 1 else if F 1 then 2 else 0) + 3 * (G 2 : Int) = R := ⟨_, rfl⟩; rw [hR]; have HR := Hd hR; clear hR; obtain ⟨b0, b1, b2, b3, b4, b5, b6, b7, b8, b9, b10, b11, b12, b13, b14, hl15⟩ := list15 l hl; subst hl15; have hcs : (([b0, b1, b2, b3, b4, b5, b6, b7, b8, b9, b10, b11, b12, b13, b14] : List Bool).map Value.bool).toArray = #[.bool b0, .bool b1, .bool b2, .bool b3, .bool b4, .bool b5, .bool b6, .bool b7, .bool b8, .bool b9, .bool b10, .bool b11, .bool b12, .bool b13, .bool b14] := rfl; rw [hcs] at hat' ⊢; have HAT := Hd hat'; have HST := Hd hstep'; have HBD := Hd hbd'; have H15 := Hd h15'; clear hat' hstep' hbd' h15'; clear hat hstep hbd h15 hF hG e0 e1 e2 hcs hl
 go_enter Tryz.func44, Tryz.ntmps44
 go_upto_region 3 with (
  (with_reducible refine wpList_boxA (t := 105) (cs := #[.bool b0, .bool b1, .bool b2, .bool b3, .bool b4, .bool b5, .bool b6, .bool b7, .bool b8, .bool b9, .bool b10, .bool b11, .bool b12, .bool b13, .bool b14]) rfl rfl rfl ?_); rintro xb w1 hx1 hx2 hx3; have XB := Hd hx1; have X1 := Hd hx2; clear hx1 hx2
  clear hx3)
 go_loopw [4, 3] (fun t4 t3 wr => ∃ i : Nat, 1 ≤ i ∧ i ≤ 14 ∧ t4 = .int .i64 i ∧ t3 = .int .i64 (G (i + 1)) ∧ Hid (Ext w1 wr)) (fun t4 _ _ => (intOf t4).toNat)
 case atStart => exact ⟨14, by omega, by omega, rfl, by rw [H15.out]; rfl, Below.refl _ _⟩
 case round =>
  obtain ⟨i, hi1, hi2, rfl, rfl, HX⟩ := hrel; have hg := HBD.out (i + 1) (by omega)
  by_cases hlt : 1 < i
  {
  have i1 : (1:Int) < (i:Int) := (by omega); obtain ⟨j, rfl⟩ : ∃ j, i = j + 1 := ⟨i - 1, by omega⟩; have d := ((XB.out.ext HX.out).cell (j + 1)).trans (HAT.out (j + 1) (by omega)); have hs := HST.out (j + 1) (by omega); obtain ⟨f, hf⟩ : ∃ f, F (j + 1) = f := ⟨_, rfl⟩; obtain ⟨c, hc⟩ : ∃ c, G (j + 1 + 1) = c := ⟨_, rfl⟩; rw [hf] at d hs; rw [hc] at hs hg ⊢; have i2 : (0:Int) ≤ ((j + 1 : Nat):Int) := (by omega); have i3 : ((j + 1 : Nat):Int) < 15 := (by omega); have HS := Hd hs; clear hs; clear hf hc
  cases f
  {
  go_wp2
  go_roundw
  case rel => exact ⟨j, by omega, by omega, by go_num, by have := HS.out; simp at this; first | go_num | (congr 1; omega), HX⟩
  case measure => simp [intOf] <;> omega
  }
  {
  go_wp2
  go_roundw
  case rel => exact ⟨j, by omega, by omega, by go_num, by have := HS.out; simp at this; first | go_num | (congr 1; omega), HX⟩
  case measure => simp [intOf] <;> omega
  }
  }
  {
  have i1 : decide ((1:Int) < (i:Int)) = false := decide_eq_false (by omega); obtain rfl : i = 1 := (by omega); have d0 := ((XB.out.ext HX.out).cell 0).trans (HAT.out 0 (by omega)); have d1 := ((XB.out.ext HX.out).cell 1).trans (HAT.out 1 (by omega)); obtain ⟨f0, hf0⟩ : ∃ f, F 0 = f := ⟨_, rfl⟩; obtain ⟨f1, hf1⟩ : ∃ f, F 1 = f := ⟨_, rfl⟩; obtain ⟨c, hc⟩ : ∃ c, G 2 = c := ⟨_, rfl⟩; have hg2 : c < 32768 := (by rw [← hc]; exact hg); rw [hf0] at d0; rw [hf1] at d1; (try rw [hc]); clear hg; have xw := X1.out.tr HX.out; have XW := Hd xw; have HF0 := Hd hf0; have HF1 := Hd hf1; have HC := Hd hc; clear xw hf0 hf1 hc
  cases f0
  {
  cases f1
  { go_wp2; go_ret; exact ⟨ret_int (by rw [← HR.out, HF0.out, HF1.out, HC.out]; simp), XW.out⟩ }
  { go_wp2; go_ret; exact ⟨ret_int (by rw [← HR.out, HF0.out, HF1.out, HC.out]; simp), XW.out⟩ }
  }
  { go_wp2; go_ret; exact ⟨ret_int (by rw [← HR.out, HF0.out, HF1.out, HC.out]; simp), XW.out⟩ }
  }
/-- The code that Code answers. -/
def coD (p : PressD) (s : StD) : Int := if stErr p s = 0 then codeD s else 0
theorem sit_code {s : StD} (hd : 0 ≤ s.drive ∧ s.drive ≤ 2) (hl : s.units.length ≤ 3) : ((if (sitD s).getD 0 false then 1 else if (sitD s).getD 1 false then 2 else 0) + 3 * (bitsN ((sitD s).drop 2) : Nat) : Int) = codeD s := by
 have hE := sitK_end s hl
 have h0 : sitD s = (s.drive == 1) :: (s.drive == 2) :: ((s.folder :: unitsB s.units) ++ List.replicate (12 - 4 * s.units.length) false) := by
  rw [← hE]; unfold sitK; rw [List.take_length]; rfl
 rw [h0]; have hd2 : s.drive = 0 ∨ s.drive = 1 ∨ s.drive = 2 := (by omega); unfold codeD; rw [show ((s.drive == 1) :: (s.drive == 2) :: ((s.folder :: unitsB s.units) ++ List.replicate (12 - 4 * s.units.length) false)).drop 2 = (s.folder :: unitsB s.units) ++ List.replicate (12 - 4 * s.units.length) false from rfl, bitsN_append, bitsN_false, Nat.mul_zero, Nat.add_zero]
 rcases hd2 with h | h | h <;> rw [h] <;> simp
set_option maxRecDepth 100000 in
set_option maxHeartbeats 4000000 in
theorem code_any (p : PressD) (s : StD) (vj vu : Value) (w : World) (hj : Truths w vj p.jam) (hu : UnIn w vu s.units) (hl : s.units.length ≤ 1000000) :
 Calls Tryz.prog 59 #[pV vj p, sV vu s] w fun e w' => e = .returned (.tuple #[.int .i64 (coD p s), .int .i64 (stErr p s)]) ∧ Ext w w' := by
 have hst := fun w1 (k : Ext w w1) => start_any p s vj vu w1 (Sl.ext hj k) (hu.ext k) hl; obtain ⟨a, c, rfl, Hu⟩ := hu.form; obtain ⟨_, aj, cj, hvj, _⟩ := id hj; rw [List.length_map] at hvj; subst hvj; clear hu hl Hu; unfold pV sV at *; obtain ⟨e1, he1⟩ : ∃ e, stErr p s = e := ⟨_, rfl⟩; obtain ⟨R, hR⟩ : ∃ R, coD p s = R := ⟨_, rfl⟩; rw [he1, hR]; have HST := Hd hst; have HE1 := Hd he1; have HR := Hd hR; clear hst he1 hR
 go_enter Tryz.func59, Tryz.ntmps59
 go_upto_region 1 with (first
  | (with_reducible refine wpList_boxA (t := 34) (cs := #[.slice aj p.jam.length cj, .int .i64 p.warm, .int .i64 p.tail, .int .i64 p.dirt]) rfl rfl rfl ?_
     rintro xb w1 hx1 hx2 hx3; have PB := Hd hx1; have X1 := Hd hx2; clear hx1 hx2
     clear hx3)
  | (with_reducible refine wpList_boxA (t := 38) (cs := #[.int .i64 s.drive, .bool s.folder, .slice a s.units.length c, .int .i64 s.fresh]) rfl rfl rfl ?_
     rintro sb w2 hy1 hy2 hy3; have c2 := (PB.out.ext hy2).cell; have c3 := hy1.cell; have x2 := X1.out.tr hy2; clear PB X1; have X1 := Hd x2; clear x2
     clear hy3 hy2 hy1))
 by_cases h1 : e1 = 0
 {
 subst h1; have hs := fun w1 (k : Ext w w1) => (HST.out w1 k).mono fun e w' (h : StartPost w1 p s _ e w') => (h.resolve_left fun h => h.1 HE1.out).2; obtain ⟨hpe, hsh, hsf⟩ := stErr_ok HE1.out; have hul : s.units.length ≤ 3 := (by rw [shaped_len hsh]; exact (pErr_len hpe).2); have hsc := sit_code (shaped_nums hsh).1 hul; have hr2 : R = codeD s := (by rw [← HR.out]; unfold coD; rw [if_pos HE1.out]); rw [← hr2] at hsc; have hco := fun W => sitCode_any (sitD s) (sitD_len s) W; rw [hsc] at hco; have HS := Hd hs; have HUL := Hd hul; have HCO := Hd hco; clear hs hul hco; clear hsc hr2 hpe hsh hsf HST
 go_wp2_with (first
  | (go_at_call 31
     refine (HS.out _ X1.out).mono ?_; rintro e w3 ⟨mb, pb, ub, c4, rfl, hmo, hx⟩; have x2 := X1.out.tr hx; clear X1 hx HS c2 c3; have X1 := Hd x2; have HM := Hd hmo
     clear x2 hmo)
  | (go_at_call 43
     refine (situation_any _ HM.out HUL.out).mono ?_; rintro e w4 ⟨rfl, hx⟩; have x2 := X1.out.tr hx; clear X1 hx HM; have X1 := Hd x2
     clear x2)
  | (go_at_call 44
     refine (HCO.out _).mono ?_; rintro e w5 ⟨rfl, hx⟩; have x2 := X1.out.tr hx; clear X1 hx; have X1 := Hd x2
     clear x2))
 go_ret2
 exact ⟨rfl, X1.out⟩
 }
 {
 have hs := fun w1 (k : Ext w w1) => (HST.out w1 k).mono fun e w' (h : StartPost w1 p s _ e w') => (h.resolve_right fun h => h1 (HE1.out.symm.trans h.1)).2; rw [HE1.out] at hs; have f1 : (e1 != 0) = true := (by simp [h1]); have hr2 : R = 0 := (by rw [← HR.out]; unfold coD; rw [if_neg (by rw [HE1.out]; exact h1)]); have HS := Hd hs; have HR2 := Hd hr2; clear hs hr2; clear HST
 go_wp2_with (
  go_at_call 31; refine (HS.out _ X1.out).mono ?_; rintro e w3 ⟨rfl, hx⟩; have x2 := X1.out.tr hx; clear X1 hx HS c2 c3; have X1 := Hd x2
  clear x2)
 go_ret2
 exact ⟨by rw [HR2.out] <;> rfl, X1.out⟩
 }
def axP : PressD := ⟨[false], 3, 0, 5⟩
def axQ : PressD := ⟨[true], 3, 0, 5⟩
def axG : GoalD := ⟨2, [true]⟩
def axL : List (Int × Int) := [(7, 0), (4, 0), (3, 0), (5, 0), (8, 0)]
def ax0 : StD := ⟨0, false, [⟨false, false, false, false, 0⟩], 0⟩
def ax1 : StD := ⟨2, false, [⟨false, true, true, true, 0⟩], 0⟩
def ax2 : StD := ⟨2, false, [⟨false, true, true, true, 8⟩], 8⟩
def ax3 : StD := ⟨0, false, [⟨false, false, false, false, 8⟩], 0⟩
theorem ax_begin : pErr axP = 0 := by decide +kernel
theorem ax_find : fiErr axP ax0 axG = 0 := by decide +kernel
theorem ax_find2 : findL axP ax0 axG = axL := by decide +kernel
theorem ax_prog : pgErr axP ax0 axL = 0 := by decide +kernel
theorem ax_prog2 : progR axP ax0 0 axL = (ax1, 5, 0) := by kernel_rfl
theorem ax_print : prErr axP ax1 8 = 0 := by decide +kernel
theorem ax_print2 : prD ax1 8 = ax2 := by kernel_rfl
theorem ax_print3 : prW axP ax1 8 = [⟨1, 0, 2⟩, ⟨2, 5, 7⟩] := by kernel_rfl
theorem ax_break : brErr axP ax2 0 = 0 := by decide +kernel
theorem ax_break2 : brD ax2 0 = ax3 := by kernel_rfl
theorem ax_again : fiErr axP ax3 axG = 0 := by decide +kernel
theorem ax_again2 : (findL axP ax3 axG).length = 5 := by decide +kernel
theorem ax_none : fiErr axQ ax3 axG = 4 := by decide +kernel
theorem truths1 {w : World} {b : Nat} {x : Bool} {t : TypeId} (h : Blk w b #[.bool x] t) : Truths w (.slice (some ⟨b, 0, none⟩) 1 1) [x] := by
 refine ⟨by simp, some ⟨b, 0, none⟩, 1, rfl, fun h => (by cases h), fun _ => ⟨b, 0, rfl, fun i u hu => ?_⟩⟩; rw [Nat.zero_add, h.cell]
 rcases i with _ | i
 · simpa using hu
 · simp at hu
theorem AcIn.lit {w : World} {b : Nat} {l : List (Int × Int)} {t : TypeId} (h : Blk w b (acL l).toArray t) (hl : l.length ≤ 1000000) : AcIn w (.slice (some ⟨b, 0, none⟩) l.length l.length) l := by
 refine ⟨by omega, some ⟨b, 0, none⟩, l.length, rfl, fun _ => ⟨b, 0, rfl, fun i hi => ⟨?_, ?_⟩⟩⟩
 { have := acL_get l i 0 hi (by omega); rw [Nat.add_zero] at this; rw [Nat.zero_add, h.cell, List.getElem?_toArray, this]; rfl }
 · have := acL_get l i 1 hi (by omega)
   rw [Nat.zero_add, h.cell, List.getElem?_toArray, this]; rfl
theorem AcIn.cells {w : World} {a : Option Addr} {n c : Nat} {l : List (Int × Int)} (h : AcIn w (.slice a n c) l) (h0 : 0 < l.length) :
 ∃ b o, a = some ⟨b, o, none⟩ ∧ ∀ i (h : i < l.length), w.cell? ⟨b, o + i * 2, none⟩ = some (.int .i64 l[i].1) ∧ w.cell? ⟨b, o + i * 2 + 1, none⟩ = some (.int .i64 l[i].2) := by
 obtain ⟨_, a', c', h1, h2⟩ := h
 cases h1
 exact h2 h0
theorem ax_c1 {vj : Value} (W : World) (hj : Truths W vj [false]) : Calls Tryz.prog 26 #[.agg #[vj, .int .i64 3, .int .i64 0, .int .i64 5]] W fun e w' =>
 ∃ vu, e = .returned (.tuple #[.agg #[.int .i64 0, .bool false, vu, .int .i64 0], .int .i64 0]) ∧ UnIn w' vu ax0.units ∧ Ext W w' :=
 (begin_any axP vj W hj).mono fun e w' h => by
   obtain ⟨_, vu, he, hown, hx⟩ := h.resolve_left fun h => h.1 ax_begin; exact ⟨vu, he, UnIn.of_owns (us := ax0.units) hown (by decide), hx⟩
theorem ax_c2 {vj vu vg : Value} (W : World) (hj : Truths W vj [false]) (hu : UnIn W vu ax0.units) (hg : Truths W vg [true]) : Calls Tryz.prog 10 #[.agg #[vj, .int .i64 3, .int .i64 0, .int .i64 5], .agg #[.int .i64 0, .bool false, vu, .int .i64 0], .agg #[.int .i64 2, vg]] W fun e w' =>
 ∃ a c, e = .returned (.tuple #[.slice a 5 c, .int .i64 0]) ∧ AcIn w' (.slice a 5 c) axL ∧ Ext W w' :=
 (find_any axP ax0 axG vj vu vg W hj hu hg (by decide)).mono fun e w' h => by
   obtain ⟨va, he, hown, hx⟩ := h; rw [ax_find] at he; rw [ax_find2] at hown; obtain ⟨a, c, rfl⟩ := row_form hown; exact ⟨a, c, he, AcIn.of_owns hown (by decide), hx⟩
theorem ax_c3 {vj vu vl : Value} (W : World) (hj : Truths W vj [false]) (hu : UnIn W vu ax0.units) (hl : AcIn W vl axL) : Calls Tryz.prog 27 #[.agg #[vj, .int .i64 3, .int .i64 0, .int .i64 5], .agg #[.int .i64 0, .bool false, vu, .int .i64 0], vl] W fun e w' =>
 ∃ vu, e = .returned (.tuple #[.agg #[.int .i64 2, .bool false, vu, .int .i64 0], .int .i64 5, .int .i64 0]) ∧ w'.ownsRow W.heap.size 82 5 vu 1 (uL ax1.units) ∧ Ext W w' :=
 (program_any axP ax0 axL vj vu vl W hj hu (by decide) hl (by unfold axL I64; decide)).mono fun e w' h => by
   obtain ⟨_, vu, he, hown, hx⟩ := h.resolve_left fun h => h.1 ax_prog; rw [ax_prog2] at he hown; exact ⟨vu, he, hown, hx⟩
theorem ax_c4 {vj vu : Value} (W : World) (hj : Truths W vj [false]) (hu : UnIn W vu ax1.units) : Calls Tryz.prog 28 #[.agg #[vj, .int .i64 3, .int .i64 0, .int .i64 5], .agg #[.int .i64 2, .bool false, vu, .int .i64 0], .int .i64 8] W fun e w' =>
 ∃ vu g c, e = .returned (.tuple #[.agg #[.int .i64 2, .bool false, vu, .int .i64 8], .slice (some ⟨g, 0, none⟩) 2 c, .int .i64 0]) ∧ UnIn w' vu ax2.units ∧
  (∀ j u, (spL [⟨1, 0, 2⟩, ⟨2, 5, 7⟩])[j]? = some u → w'.cell? ⟨g, j, none⟩ = some u) ∧ Ext W w' :=
 (print_any axP ax1 8 vj vu W hj hu (by decide) (by unfold I64; decide)).mono fun e w' h => by
   obtain ⟨_, vu, vw, he, hown, how, hx⟩ := h.resolve_left fun h => h.1 ax_print; rw [ax_print2] at he hown; rw [ax_print3] at how; obtain ⟨g, c, rfl, hc⟩ := owns_pos how (by decide); exact ⟨vu, g, c, he, UnIn.of_owns (us := ax2.units) hown (by decide), hc, hx⟩
theorem ax_c5 {vj vu : Value} (W : World) (hj : Truths W vj [false]) (hu : UnIn W vu ax2.units) : Calls Tryz.prog 29 #[.agg #[vj, .int .i64 3, .int .i64 0, .int .i64 5], .agg #[.int .i64 2, .bool false, vu, .int .i64 8], .int .i64 0] W fun e w' =>
 ∃ vu, e = .returned (.tuple #[.agg #[.int .i64 0, .bool false, vu, .int .i64 0], .int .i64 0, .int .i64 0]) ∧ w'.ownsRow W.heap.size 82 5 vu 1 (uL ax3.units) ∧ Ext W w' :=
 (break_any axP ax2 0 vj vu W hj hu (by decide) (by unfold I64; decide)).mono fun e w' h => by
   obtain ⟨_, vu, he, hown, hx⟩ := h.resolve_left fun h => h.1 ax_break; have e0 : brD ax2 (0:Int).toNat = ax3 := ax_break2; rw [e0] at he hown; exact ⟨vu, he, hown, hx⟩
theorem ax_c6 {vj vu vg : Value} (W : World) (hj : Truths W vj [false]) (hu : UnIn W vu ax3.units) (hg : Truths W vg [true]) : Calls Tryz.prog 10 #[.agg #[vj, .int .i64 3, .int .i64 0, .int .i64 5], .agg #[.int .i64 0, .bool false, vu, .int .i64 0], .agg #[.int .i64 2, vg]] W fun e w' =>
 ∃ a c, e = .returned (.tuple #[.slice a 5 c, .int .i64 0]) ∧ Ext W w' :=
 (find_any axP ax3 axG vj vu vg W hj hu hg (by decide)).mono fun e w' h => by
   obtain ⟨va, he, hown, hx⟩ := h; rw [ax_again] at he; obtain ⟨a, c, rfl⟩ := row_form hown; rw [ax_again2] at he; exact ⟨a, c, he, hx⟩
theorem ax_c7 {vj vu vg : Value} (W : World) (hj : Truths W vj [true]) (hu : UnIn W vu ax3.units) (hg : Truths W vg [true]) : Calls Tryz.prog 10 #[.agg #[vj, .int .i64 3, .int .i64 0, .int .i64 5], .agg #[.int .i64 0, .bool false, vu, .int .i64 0], .agg #[.int .i64 2, vg]] W fun e w' =>
 ∃ va, e = .returned (.tuple #[va, .int .i64 4]) ∧ Ext W w' :=
 (find_any axQ ax3 axG vj vu vg W hj hu hg (by decide)).mono fun e w' h => by
   obtain ⟨va, he, hown, hx⟩ := h; rw [ax_none] at he; exact ⟨va, he, hx⟩
set_option maxRecDepth 100000 in
set_option maxHeartbeats 4000000 in
theorem awake_any (w : World) : Calls Tryz.prog 6 #[] w fun e w' => e = .returned (.bool true) ∧ Ext w w' := by
 go_enter Tryz.func6, Tryz.ntmps6
 -- the press
 go_upto_region 2 with (first
  | (with_reducible refine wpList_allocA (t := 34) rfl rfl Tryz.zeroValue34 ?_
     rintro xp w2 hx1 hx2 hx3; have hnb := newB w #[.bool false] 4; have jb2 := Blk.ext hnb.1 hx2; have x2 := hnb.2.1.tr hx2; have lx := Nat.le_trans hnb.2.1.size hx3; have nj : w.heap.size ≠ xp := fun e => (by have := Blk.lt hnb.1; omega); clear hnb hx2 hx3; have JB := Hd jb2; have PB := Hd hx1; have X := Hd x2; have LP := Hd lx; have NJ := Hd nj
     clear jb2 hx1 x2 lx nj)
  | (with_reducible refine wpList_storeK (ty := 34) (cells := #[.slice (some ⟨w.heap.size, 0, none⟩) 1 1, .int .i64 3, .int .i64 0, .int .i64 5]) rfl rfl PB.out ?_ ?_ ?_ ?_ ?_ ?_
     rfl; rfl; kernel_rfl; rfl; simp [Value.oneCell']; rintro w3 hb3 ho3; have jb2 := JB.out.only ho3 NJ.out; have x2 := X.out.then_only ho3 (fun k (e : k = xp) => by rw [e]; exact LP.out); have cp := hb3.cell; clear JB PB X ho3; have JB := Hd jb2; have PB := Hd hb3; have X := Hd x2
     clear jb2 hb3 x2))
 -- Begin
 go_upto_region 3 with (first
  | (go_at_call 26
     refine (ax_c1 _ (truths1 JB.out)).mono ?_; rintro e w4 ⟨vu, rfl, hu, hx⟩; obtain ⟨a, c, rfl, _⟩ := hu.form; clear cp; replace JB := Hd (JB.out.ext hx); replace PB := Hd (PB.out.ext hx); have x2 := X.out.tr hx; clear X hx; have X := Hd x2; have UB := Hd hu
     clear x2 hu)
  | (with_reducible refine wpList_allocA (t := 38) rfl rfl Tryz.zeroValue38 ?_
     rintro xs w5 hx1 hx2 hx3; have lz : w4.heap.size ≤ xs := hx3; have ls : w.heap.size ≤ xs := Nat.le_trans X.out.size hx3; clear hx3; have SB := Hd hx1; have Z := Hd hx2; have LZ := Hd lz; have LS := Hd ls
     clear hx1 hx2 lz ls)
  | (with_reducible refine wpList_storeK (ty := 38) (cells := #[.int .i64 0, .bool false, .slice a 1 c, .int .i64 0]) rfl rfl SB.out ?_ ?_ ?_ ?_ ?_ ?_
     rfl; rfl; kernel_rfl; rfl; simp [Value.oneCell']; rintro w6 hb6 ho6; have hx := Z.out.then_only ho6 (fun k (e : k = xs) => by rw [e]; exact LZ.out); replace JB := Hd (JB.out.ext hx); replace PB := Hd (PB.out.ext hx); replace UB := Hd (UB.out.ext hx); have x2 := X.out.tr hx; clear Z ho6 SB X hx LZ; have SB := Hd hb6; have X := Hd x2
     clear hb6 x2))
 -- the goal
 go_upto_region 4 with (first
  | (with_reducible refine wpList_allocA (t := 40) rfl rfl Tryz.zeroValue40 ?_
     rintro xg w8 hx1 hx2 hx3; have hnb := newB w6 #[.bool true] 4; have tb2 := Blk.ext hnb.1 hx2; have x2 := hnb.2.1.tr hx2; have lz := Nat.le_trans hnb.2.1.size hx3; have nt : w6.heap.size ≠ xg := fun e => (by have := Blk.lt hnb.1; omega); have ntj : w.heap.size ≠ w6.heap.size := fun e => (by have := JB.out.lt; omega); clear hnb hx2 hx3; have TB := Hd tb2; have GB := Hd hx1; have Z := Hd x2; have LZ := Hd lz; have NT := Hd nt; have NTJ := Hd ntj
     clear tb2 hx1 x2 lz nt ntj)
  | (with_reducible refine wpList_storeK (ty := 40) (cells := #[.int .i64 2, .slice (some ⟨w6.heap.size, 0, none⟩) 1 1]) rfl rfl GB.out ?_ ?_ ?_ ?_ ?_ ?_
     rfl; rfl; kernel_rfl; rfl; simp [Value.oneCell']; rintro w9 hb9 ho9; have hx := Z.out.then_only ho9 (fun k (e : k = xg) => by rw [e]; exact LZ.out); have tb2 := TB.out.only ho9 NT.out; replace JB := Hd (JB.out.ext hx); replace PB := Hd (PB.out.ext hx); replace UB := Hd (UB.out.ext hx); replace SB := Hd (SB.out.ext hx); have x2 := X.out.tr hx; clear TB GB X Z ho9 hx; have cp := PB.out.cell; have cs := SB.out.cell; have cg := hb9.cell; have TB := Hd tb2; have GB := Hd hb9; have X := Hd x2
     clear tb2 hb9 x2))
 -- Find
 go_upto_region 6 with (
  go_at_call 10; refine (ax_c2 _ (truths1 JB.out) UB.out (truths1 TB.out)).mono ?_; rintro e w10 ⟨af, cf, rfl, hf, hx⟩; clear cp cs cg; replace JB := Hd (JB.out.ext hx); replace PB := Hd (PB.out.ext hx); replace UB := Hd (UB.out.ext hx); replace SB := Hd (SB.out.ext hx); replace TB := Hd (TB.out.ext hx); replace GB := Hd (GB.out.ext hx); have x2 := X.out.tr hx; clear X hx; have X := Hd x2; have FB := Hd hf
  clear x2 hf)
 have hnb := newB w10 #[.int .i64 7, .int .i64 0, .int .i64 4, .int .i64 0, .int .i64 3, .int .i64 0, .int .i64 5, .int .i64 0, .int .i64 8, .int .i64 0] 72; have hlit : AcIn (w10.alloc (.cells #[.int .i64 7, .int .i64 0, .int .i64 4, .int .i64 0, .int .i64 3, .int .i64 0, .int .i64 5, .int .i64 0, .int .i64 8, .int .i64 0] 72)) (.slice (some ⟨w10.heap.size, 0, none⟩) 5 5) axL := AcIn.lit hnb.1 (by decide); have hxl := hnb.2.1; clear hnb; generalize w10.alloc (.cells #[.int .i64 7, .int .i64 0, .int .i64 4, .int .i64 0, .int .i64 3, .int .i64 0, .int .i64 5, .int .i64 0, .int .i64 8, .int .i64 0] 72) = w11 at *; replace JB := Hd (JB.out.ext hxl); replace PB := Hd (PB.out.ext hxl); replace UB := Hd (UB.out.ext hxl); replace SB := Hd (SB.out.ext hxl); replace TB := Hd (TB.out.ext hxl); replace GB := Hd (GB.out.ext hxl); replace FB := Hd (FB.out.ext hxl); have x2 := X.out.tr hxl; obtain ⟨lb, hlb⟩ : ∃ n, w10.heap.size = n := ⟨_, rfl⟩; rw [hlb] at hlit ⊢; clear hxl X hlb; have X := Hd x2; have LB := Hd hlit; clear x2 hlit
 go_upto_region 9 with (fail)
 go_loopw [8] (fun t8 wr => ∃ k : Nat, k ≤ 5 ∧ t8 = .int .i64 k ∧ Hid (Ext w11 wr)) (fun t8 _ => 5 - (intOf t8).toNat)
 case atStart => exact ⟨0, by omega, rfl, Below.refl _ _⟩
 case round =>
  obtain ⟨k, hk, rfl, HX⟩ := hrel
  by_cases hlt : k < 5
  {
  obtain ⟨b1, o1, rfl, hc⟩ := AcIn.cells (FB.out.ext HX.out) (by decide); obtain ⟨d0, d1⟩ := hc k hlt; obtain ⟨b2, o2, hv2, hc2⟩ := AcIn.cells (LB.out.ext HX.out) (by decide)
  cases hv2
  obtain ⟨e0, e1⟩ := hc2 k hlt; simp only [Nat.zero_add] at e0 e1; obtain ⟨⟨ak, ax⟩, hu⟩ : ∃ u, axL[k]'hlt = u := ⟨_, rfl⟩; rw [hu] at d0 d1 e0 e1; dsimp only at d0 d1 e0 e1; have i1 : (0:Int) ≤ (k:Int) := (by omega); have i2 : (k:Int) < 5 := (by omega); clear hu hc hc2
  go_upto_region 11 with (fail)
  go_quiet (fail)
  have xq := HX.out.tr (Ext.of_drewN wr nq); generalize wr.drewN nq = wq at *; have XQ := Hd xq; clear xq; go_wp2
  go_roundw
  case rel => exact ⟨k + 1, by omega, by go_num, XQ⟩
  case measure => simp [intOf] <;> omega
  }
  {
  have i2 : decide ((k:Int) < 5) = false := decide_eq_false (by omega); have hx := HX.out; replace JB := Hd (JB.out.ext hx); replace PB := Hd (PB.out.ext hx); replace UB := Hd (UB.out.ext hx); replace SB := Hd (SB.out.ext hx); replace TB := Hd (TB.out.ext hx); replace GB := Hd (GB.out.ext hx); replace FB := Hd (FB.out.ext hx); have x2 := X.out.tr hx; clear X HX hx LB; have X := Hd x2; clear x2; have cp := PB.out.cell; have cs := SB.out.cell
  -- Program
  go_upto_region 14 with (first
   | (go_at_call 27
      refine (ax_c3 _ (truths1 JB.out) UB.out FB.out).mono ?_; rintro e w12 ⟨vu, rfl, hown, hx⟩; obtain ⟨a2, c2, rfl⟩ := row_form hown; have hlo : ∀ b, (Value.slice a2 1 c2).ownBlock = some b → b ≠ xs := fun b hb e => (by have h1 := (hown.lt b hb).1; have h2 := SB.out.lt; omega); have jb2 := JB.out.ext hx; have pb2 := PB.out.ext hx; have sb2 := SB.out.ext hx; have tb2 := TB.out.ext hx; have gb2 := GB.out.ext hx; have x2 := X.out.tr hx; clear cp cs JB PB SB TB GB X UB FB hx; have JB := Hd jb2; have PB := Hd pb2; have SB := Hd sb2; have TB := Hd tb2; have GB := Hd gb2; have X := Hd x2; have OW := Hd hown; have HLO := Hd hlo
      clear jb2 pb2 sb2 tb2 gb2 x2 hown hlo)
   | (with_reducible refine wpList_storeK (ty := 38) (cells := #[.int .i64 2, .bool false, .slice a2 1 c2, .int .i64 0]) rfl rfl SB.out ?_ ?_ ?_ ?_ ?_ ?_
      rfl; rfl; kernel_rfl; rfl; simp [Value.oneCell']; rintro w13 hb ho; have jb2 := JB.out.only ho (fun e => absurd (blk_ty JB.out (e ▸ SB.out)) (by decide)); have pb2 := PB.out.only ho (fun e => absurd (blk_ty PB.out (e ▸ SB.out)) (by decide)); have tb2 := TB.out.only ho (fun e => absurd (blk_ty TB.out (e ▸ SB.out)) (by decide)); have gb2 := GB.out.only ho (fun e => absurd (blk_ty GB.out (e ▸ SB.out)) (by decide)); have x2 := X.out.then_only ho (fun k (e : k = xs) => by rw [e]; exact LS.out); have how := owns_only OW.out ho (fun b hb e => HLO.out b hb e); have hun : UnIn w13 (.slice a2 1 c2) ax1.units := UnIn.of_owns (us := ax1.units) how (by decide); have cp := pb2.cell; have cs := hb.cell; clear JB PB TB GB X OW HLO SB ho how; have JB := Hd jb2; have PB := Hd pb2; have TB := Hd tb2; have GB := Hd gb2; have X := Hd x2; have UB := Hd hun; have SB := Hd hb
      clear jb2 pb2 tb2 gb2 x2 hun hb))
  -- Print
  go_upto_region 15 with (first
   | (go_at_call 28
      refine (ax_c4 _ (truths1 JB.out) UB.out).mono ?_; rintro e w14 ⟨vu, gw, cw, rfl, hun, hsp, hx⟩; obtain ⟨a3, c3, rfl, _⟩ := hun.form; have f0 := hsp 0 _ rfl; have f1 := hsp 1 _ rfl; have f2 := hsp 2 _ rfl; have f3 := hsp 3 _ rfl; have f4 := hsp 4 _ rfl; have f5 := hsp 5 _ rfl; clear cp cs UB SB; replace JB := Hd (JB.out.ext hx); replace PB := Hd (PB.out.ext hx); replace TB := Hd (TB.out.ext hx); replace GB := Hd (GB.out.ext hx); have x2 := X.out.tr hx; clear X hx hsp; have X := Hd x2; have UB := Hd hun; have F0 := Hd f0; have F1 := Hd f1; have F2 := Hd f2; have F3 := Hd f3; have F4 := Hd f4; have F5 := Hd f5
      clear x2 hun f0 f1 f2 f3 f4 f5)
   | (with_reducible refine wpList_allocA (t := 38) rfl rfl Tryz.zeroValue38 ?_
      rintro xn w15 hx1 hx2 hx3; have lz : w14.heap.size ≤ xn := hx3; clear hx3; have NB := Hd hx1; have Z := Hd hx2; have LZ2 := Hd lz
      clear hx1 hx2 lz)
   | (with_reducible refine wpList_storeK (ty := 38) (cells := #[.int .i64 2, .bool false, .slice a3 1 c3, .int .i64 8]) rfl rfl NB.out ?_ ?_ ?_ ?_ ?_ ?_
      rfl; rfl; kernel_rfl; rfl; simp [Value.oneCell']; rintro w16 hb6 ho6; have hx := Z.out.then_only ho6 (fun k (e : k = xn) => by rw [e]; exact LZ2.out); replace JB := Hd (JB.out.ext hx); replace PB := Hd (PB.out.ext hx); replace TB := Hd (TB.out.ext hx); replace GB := Hd (GB.out.ext hx); replace UB := Hd (UB.out.ext hx); have x2 := X.out.tr hx; have f0 := hx.cellSome F0.out; have f1 := hx.cellSome F1.out; have f2 := hx.cellSome F2.out; have f3 := hx.cellSome F3.out; have f4 := hx.cellSome F4.out; have f5 := hx.cellSome F5.out; have cp := PB.out.cell; have cn := hb6.cell; clear Z ho6 NB X hx LZ2 F0 F1 F2 F3 F4 F5; have NB := Hd hb6; have X := Hd x2
      clear hb6 x2))
  -- the waste; Break
  go_upto_region 18 with (first
   | (go_at_call 29
      refine (ax_c5 _ (truths1 JB.out) UB.out).mono ?_; rintro e w17 ⟨vu, rfl, hown, hx⟩; obtain ⟨a4, c4, rfl⟩ := row_form hown; have hun : UnIn w17 (.slice a4 1 c4) ax3.units := UnIn.of_owns (us := ax3.units) hown (by decide); have hlo : ∀ b, (Value.slice a4 1 c4).ownBlock = some b → b ≠ w.heap.size := fun b hb e => (by have h1 := (hown.lt b hb).1; have h2 := JB.out.lt; omega); clear cp cn UB NB f0 f1 f2 f3 f4 f5; replace JB := Hd (JB.out.ext hx); replace PB := Hd (PB.out.ext hx); replace TB := Hd (TB.out.ext hx); replace GB := Hd (GB.out.ext hx); have x2 := X.out.tr hx; clear X hx; have X := Hd x2; have UB := Hd hun; have HLO := Hd hlo; clear x2 hun hlo
      clear hown)
   | (with_reducible refine wpList_allocA (t := 38) rfl rfl Tryz.zeroValue38 ?_
      rintro xt w18 hx1 hx2 hx3; have lz : w17.heap.size ≤ xt := hx3; clear hx3; have NB := Hd hx1; have Z := Hd hx2; have LZ2 := Hd lz
      clear hx1 hx2 lz)
   | (with_reducible refine wpList_storeK (ty := 38) (cells := #[.int .i64 0, .bool false, .slice a4 1 c4, .int .i64 0]) rfl rfl NB.out ?_ ?_ ?_ ?_ ?_ ?_
      rfl; rfl; kernel_rfl; rfl; simp [Value.oneCell']; rintro w19 hb6 ho6; have hx := Z.out.then_only ho6 (fun k (e : k = xt) => by rw [e]; exact LZ2.out); replace JB := Hd (JB.out.ext hx); replace PB := Hd (PB.out.ext hx); replace TB := Hd (TB.out.ext hx); replace GB := Hd (GB.out.ext hx); replace UB := Hd (UB.out.ext hx); have x2 := X.out.tr hx; have cp := PB.out.cell; have cn := hb6.cell; have cg := GB.out.cell; clear Z ho6 NB X hx LZ2; have NB := Hd hb6; have X := Hd x2
      clear hb6 x2))
  -- Find again
  go_upto_region 19 with (
   go_at_call 10; refine (ax_c6 _ (truths1 JB.out) UB.out (truths1 TB.out)).mono ?_; rintro e w20 ⟨a5, c5, rfl, hx⟩; clear cp cn cg; replace JB := Hd (JB.out.ext hx); replace PB := Hd (PB.out.ext hx); replace TB := Hd (TB.out.ext hx); replace GB := Hd (GB.out.ext hx); replace UB := Hd (UB.out.ext hx); replace NB := Hd (NB.out.ext hx); have x2 := X.out.tr hx; clear X hx; have cp := PB.out.cell; have X := Hd x2
   clear x2)
  -- jammed
  go_upto_region 20 with (
   (with_reducible refine wpList_setK (b := w.heap.size) (i := 0) (v := .bool true) rfl rfl JB.out ?_ ?_ ?_ ?_ ?_ ?_ ?_); rfl; rfl
   · simp
   kernel_rfl; rfl; simp [Value.oneCell']; rintro w21 hb ho; have hb2 : Blk w21 w.heap.size #[.bool true] 4 := hb; have pb2 := PB.out.only ho (fun e => NJ.out e.symm); have tb2 := TB.out.only ho (fun e => NTJ.out e.symm); have gb2 := GB.out.only ho (fun e => absurd (blk_ty GB.out (e ▸ JB.out)) (by decide)); have nb2 := NB.out.only ho (fun e => absurd (blk_ty NB.out (e ▸ JB.out)) (by decide)); have x2 := X.out.then_only ho (fun k (e : k = w.heap.size) => by rw [e]; exact Nat.le_refl _); have cp := pb2.cell; have cn := nb2.cell; have cg := gb2.cell; have hun := UB.out.only ho (fun b hb e => HLO.out b hb e); clear JB PB TB GB NB X UB hb ho; have JB := Hd hb2; have TB := Hd tb2; have X := Hd x2; have UB := Hd hun
   clear hb2 tb2 x2 hun)
  go_wp2_with (
   go_at_call 10; refine (ax_c7 _ (truths1 JB.out) UB.out (truths1 TB.out)).mono ?_; rintro e w22 ⟨va, rfl, hx⟩; have x2 := X.out.tr hx; clear X hx; have X := Hd x2
   clear x2)
  go_ret; exact ⟨rfl, X.out⟩
  }
end Go.Proofs.YtojobdffnnibaaaGreat
namespace Go.Proofs.YtojobdffnnibaaaGreat
set_option linter.unusedVariables false
/-- A state told by a function. -/
def stF (d : Int) (f : Nat → UnitD) (n : Nat) : StD := ⟨d, false, (List.range n).map f, 0⟩
theorem set_range (f : Nat → UnitD) (n i : Nat) (v : UnitD) : ((List.range n).map f).set i v = (List.range n).map (upd f i v) := by
 apply List.ext_getElem
 · simp
 {
 intro j h1 h2; rw [List.getElem_set, List.getElem_map, List.getElem_map, List.getElem_range]; unfold upd
 by_cases e : i = j
 · rw [if_pos e, if_pos e.symm]
 · rw [if_neg e, if_neg (fun h => e h.symm)]
 }
theorem getD_range (f : Nat → UnitD) (n i : Nat) (h : i < n) : ((List.range n).map f).getD i default = f i := by
 simp [List.getD_eq_getElem?_getD, h]
theorem act_ok {p : PressD} {s : StD} {k : Int} {i : Nat} (k1 : 1 ≤ k) (k2 : k ≤ 12) (hi : i < s.units.length) (hu : ofUnit k = false → i = 0) (ha : allowD p s k i = true) : actErr p s k i = 0 := by
 unfold actErr; rw [if_neg (by omega), if_neg, Int.toNat_natCast, if_pos ha]; rintro (h | h | ⟨h1, h2⟩); omega; omega
 · have := hu h1
   omega
theorem act_do {p : PressD} {s : StD} {k : Int} {i : Nat} (h : actErr p s k i = 0) : actD p s k i = doD s k i := by
 unfold actD; rw [if_pos h, Int.toNat_natCast]
def uZ : UnitD := ⟨false, false, false, false, 0⟩
/-- The towers behind k of them: those that are not jammed are washed and threaded, and pressed as the truths say. -/
def rpF (jam on : List Bool) (k : Nat) : Nat → UnitD := fun j => if j < k ∧ jam.getD j false = false then ⟨false, true, true, on.getD j false, 0⟩ else uZ
/-- While tower k is made ready: q actions are done. -/
def subU (q : Nat) : UnitD := ⟨false, decide (2 ≤ q), decide (1 ≤ q), decide (3 ≤ q), 0⟩
theorem upd_upd (f : Nat → UnitD) (k : Nat) (a b : UnitD) : upd (upd f k a) k b = upd f k b := by
 funext j; unfold upd; by_cases h : j = k <;> simp [h]
theorem upd_id (f : Nat → UnitD) (k : Nat) : upd f k (f k) = f := by
 funext j; unfold upd; by_cases h : j = k
 · rw [if_pos h, h]
 · rw [if_neg h]
/-- Its actions: wash, thread, press. -/
def rpK (q : Nat) : Int := if q = 0 then 4 else if q = 1 then 3 else 5
/-- The towers are pressed one after the other. -/
def onL (P : Nat → Bool) (m : Nat) : List (Int × Int) := ((List.range m).filter P).map fun (j : Nat) => ((5 : Int), (j : Int))
end Go.Proofs.YtojobdffnnibaaaGreat
namespace Go.Proofs.YtojobdffnnibaaaGreat
set_option linter.unusedVariables false
/-- A state told by its towers. -/
def gF (d : Int) (fo : Bool) (f : Nat → UnitD) (n : Nat) (fr : Int) : StD := ⟨d, fo, (List.range n).map f, fr⟩
theorem gF_len (d : Int) (fo : Bool) (f : Nat → UnitD) (n : Nat) (fr : Int) : (gF d fo f n fr).units.length = n := by simp [gF]
theorem gF_get (d : Int) (fo : Bool) (f : Nat → UnitD) (n : Nat) (fr : Int) (i : Nat) (h : i < n) : (gF d fo f n fr).units.getD i default = f i := getD_range f n i h
theorem gF_of (s : StD) : s = gF s.drive s.folder (fun j => s.units.getD j default) s.units.length s.fresh := by
 unfold gF; obtain ⟨d, fo, us, fr⟩ := s; dsimp only
 congr 1
 apply List.ext_getElem
 · simp
 · intro k h1 h2; simp [h1]
theorem gF_congr {d : Int} {fo : Bool} {f g : Nat → UnitD} {n : Nat} {fr : Int} (h : ∀ j, j < n → f j = g j) : gF d fo f n fr = gF d fo g n fr := by
 unfold gF
 congr 1
 exact List.map_congr_left fun j hj => h j (List.mem_range.1 hj)
theorem gF_unit {k : Int} (hk : k = 1 ∨ k = 2 ∨ k = 3 ∨ k = 4 ∨ k = 5 ∨ k = 6 ∨ k = 12) (d : Int) (fo : Bool) (f : Nat → UnitD) (n : Nat) (fr : Int) (i : Nat) (h : i < n) : doD (gF d fo f n fr) k i = gF d fo (upd f i (unitD k (f i))) n fr := by
 unfold doD; rw [if_neg (by omega), if_neg (by omega), if_neg (by omega), if_neg (by omega), if_neg (by omega), gF_get _ _ _ _ _ _ h]; unfold gF; dsimp only; rw [set_range]
/-- What a tower alone allows. -/
def locOk (d : Int) (jam : Bool) (k : Int) (u : UnitD) : Bool :=
 if k = 1 then d == 0 && !u.op else if k = 2 then u.op else if k = 3 then d == 1 && !u.th else if k = 4 then d == 1 && !u.th && !jam
 else if k = 5 then d != 0 && u.th && u.cl && !u.pr else if k = 6 then u.pr && d != 2 else if k = 12 then d == 0 && u.op && u.th else false
theorem loc_kind {d : Int} {jam : Bool} {k : Int} {u : UnitD} (h : locOk d jam k u = true) : k = 1 ∨ k = 2 ∨ k = 3 ∨ k = 4 ∨ k = 5 ∨ k = 6 ∨ k = 12 := by
 unfold locOk at h
 repeat' split at h
 all_goals (first | omega | cases h)
theorem loc_act {p : PressD} {d : Int} {fo : Bool} {f : Nat → UnitD} {n : Nat} {fr k : Int} {i : Nat} (hi : i < n) (h : locOk d (p.jam.getD i false) k (f i) = true) :
 actErr p (gF d fo f n fr) k i = 0 ∧ actD p (gF d fo f n fr) k i = gF d fo (upd f i (unitD k (f i))) n fr := by
 have hk := loc_kind h
 have he : actErr p (gF d fo f n fr) k i = 0 := by
  refine act_ok (by omega) (by omega) (by rw [gF_len]; exact hi) (fun h => ?_) ?_
  { exfalso; unfold ofUnit at h; simp at h; omega }
  {
  unfold allowD; rw [gF_get _ _ _ _ _ _ hi]; have hd : (gF d fo f n fr).drive = d := rfl; rw [hd]
  rcases hk with rfl | rfl | rfl | rfl | rfl | rfl | rfl
  · simpa [locOk] using h
  · simpa [locOk] using h
  · simpa [locOk] using h
  · simpa [-List.getD_eq_getElem?_getD, locOk] using h
  · simpa [locOk] using h
  · simp [locOk] at h; simp [h.1, h.2]
  · simpa [locOk] using h
  }
 exact ⟨he, by rw [act_do he, gF_unit hk _ _ _ _ _ _ hi]⟩
/-- Deeds at one tower. -/
def LocRun (d : Int) (jam : Bool) : UnitD → List Int → UnitD → Prop
 | u, [], v => u = v
 | u, k :: ks, v => locOk d jam k u = true ∧ LocRun d jam (unitD k u) ks v
theorem unit_run {p : PressD} {d : Int} {fo : Bool} {n : Nat} {fr : Int} {i : Nat} (hi : i < n) : ∀ (ks : List Int) (f : Nat → UnitD) (v : UnitD), LocRun d (p.jam.getD i false) (f i) ks v →
 Run p (gF d fo f n fr) (ks.map fun k => (k, (i : Int))) (gF d fo (upd f i v) n fr)
 | [], f, v, h => by
   have : f i = v := h; rw [List.map_nil, ← this, upd_id]; exact rfl
 | k :: ks, f, v, h => by
   obtain ⟨h1, h2⟩ := h; obtain ⟨e1, e2⟩ := loc_act (p := p) (fo := fo) (fr := fr) hi h1; rw [List.map_cons]; refine ⟨e1, ?_⟩; show Run p (actD p (gF d fo f n fr) k i) _ _; rw [e2]; have := unit_run (p := p) (fo := fo) (fr := fr) hi ks (upd f i (unitD k (f i))) v (by rw [upd_same]; exact h2); rw [upd_upd] at this; exact this
theorem phase {p : PressD} {d : Int} {fo : Bool} {n : Nat} {fr : Int} {f g : Nat → UnitD} {c : Nat} (h : ∀ j, j < n → ∃ ks, LocRun d (p.jam.getD j false) (f j) ks (g j) ∧ ks.length ≤ c) : ∀ m, m ≤ n →
 ∃ ac, Run p (gF d fo f n fr) ac (gF d fo (fun j => if j < m then g j else f j) n fr) ∧ ac.length ≤ c * m
 | 0, _ => ⟨[], by
    have : (fun j => if j < 0 then g j else f j) = f := by funext j; rw [if_neg (by omega)]
    rw [this]; exact rfl, Nat.zero_le _⟩
 | m + 1, hm => by
   obtain ⟨ac, h1, h2⟩ := phase (p := p) (d := d) (fo := fo) (fr := fr) h m (by omega); obtain ⟨ks, h3, h4⟩ := h m (by omega); have h5 := unit_run (p := p) (d := d) (fo := fo) (fr := fr) (i := m) (n := n) (by omega) ks (fun j => if j < m then g j else f j) (g m) (by rw [if_neg (by omega)]; exact h3); refine ⟨ac ++ ks.map fun k => (k, (m : Int)), ?_, ?_⟩
   {
   refine h1.append ?_
   have e : upd (fun j => if j < m then g j else f j) m (g m) = fun j => if j < m + 1 then g j else f j := by
    funext j
    unfold upd
    by_cases hj : j = m
    · rw [if_pos hj, if_pos (by omega), hj]
    {
    rw [if_neg hj]; show (if j < m then g j else f j) = _
    by_cases h : j < m
    · rw [if_pos h, if_pos (by omega)]
    · rw [if_neg h, if_neg (by omega)]
    }
   rw [← e]; exact h5
   }
   · rw [List.length_append, List.length_map, Nat.mul_succ]; omega
theorem phase_all {p : PressD} {d : Int} {fo : Bool} {n : Nat} {fr : Int} {f g : Nat → UnitD} {c : Nat} (h : ∀ j, j < n → ∃ ks, LocRun d (p.jam.getD j false) (f j) ks (g j) ∧ ks.length ≤ c) :
 ∃ ac, Run p (gF d fo f n fr) ac (gF d fo g n fr) ∧ ac.length ≤ c * n := by
 obtain ⟨ac, h1, h2⟩ := phase (p := p) (d := d) (fo := fo) (fr := fr) h n (Nat.le_refl _); rw [gF_congr (g := g) (fun j hj => if_pos hj)] at h1; exact ⟨ac, h1, h2⟩
theorem big_act {p : PressD} {s : StD} {k : Int} (hk : 7 ≤ k ∧ k ≤ 11) (h0 : 0 < s.units.length) (h : allowD p s k 0 = true) : Run p s [(k, 0)] (doD s k 0) := by
 have he : actErr p s k ((0 : Nat) : Int) = 0 := act_ok (by omega) (by omega) h0 (fun _ => rfl) h
 exact ⟨he, by
  show actD p s k ((0 : Nat) : Int) = _
  exact act_do he⟩
theorem gF_opened {d : Int} {f : Nat → UnitD} {n : Nat} {fr : Int} (h : ∀ j, j < n → (f j).op = false) : opened (gF d false f n fr) = false := by
 unfold opened gF; simp only [Bool.false_or]; rw [List.any_eq_false]; intro u hu; obtain ⟨j, hj, rfl⟩ := List.mem_map.1 hu; simp [h j (List.mem_range.1 hj)]
theorem gF_none {d : Int} {fo : Bool} {f : Nat → UnitD} {n : Nat} {fr : Int} (h : ∀ j, j < n → (f j).pr = false) : anyPr (gF d fo f n fr) = false := by
 unfold anyPr gF; dsimp only; rw [List.any_eq_false]; intro u hu; obtain ⟨j, hj, rfl⟩ := List.mem_map.1 hu; simp [h j (List.mem_range.1 hj)]
theorem gF_some {d : Int} {fo : Bool} {f : Nat → UnitD} {n : Nat} {fr : Int} (h : ∃ j, j < n ∧ (f j).pr = true) : anyPr (gF d fo f n fr) = true := by
 obtain ⟨j, hj, h⟩ := h; unfold anyPr gF; dsimp only; rw [List.any_eq_true]; exact ⟨f j, List.mem_map.2 ⟨j, List.mem_range.2 hj, rfl⟩, h⟩
theorem to_stop {p : PressD} {d : Int} {fo : Bool} {f : Nat → UnitD} {n : Nat} {fr : Int} (hn : 0 < n ∧ n ≤ 3) (hd : d = 0 ∨ d = 1 ∨ d = 2) (h0 : d = 0 → ∀ j, j < n → (f j).pr = false) (h1 : d ≠ 0 → fo = false ∧ ∀ j, j < n → (f j).op = false) :
 ∃ ac fr', Run p (gF d fo f n fr) ac (gF 0 fo (fun j => offP (f j)) n fr') ∧ ac.length ≤ 5 := by
 have hoff : ∀ j, j < n → (f j).pr = false → offP (f j) = f j := fun j _ h => by
  unfold offP; generalize f j = u at *; obtain ⟨a, b, c, d, e⟩ := u; dsimp only at h; rw [h]
 by_cases hz : d = 0
 { subst hz; refine ⟨[], fr, ?_, by simp⟩; rw [gF_congr (g := f) (fun j hj => hoff j hj (h0 rfl j hj))]; exact rfl }
 {
 obtain ⟨hf, hop⟩ := h1 hz; subst hf
 have hph : ∃ ac, Run p (gF 1 false f n 0) ac (gF 1 false (fun j => offP (f j)) n 0) ∧ ac.length ≤ 1 * n := phase_all fun j hj => by
  cases hp : (f j).pr
  · exact ⟨[], (hoff j hj hp).symm, by simp⟩
  { refine ⟨[6], ⟨by simp [locOk, hp], ?_⟩, by simp⟩; show unitD 6 (f j) = offP (f j); simp [unitD, offP] }
 have hph' : ∃ ac, Run p (gF 1 false f n fr) ac (gF 1 false (fun j => offP (f j)) n fr) ∧ ac.length ≤ 1 * n := phase_all fun j hj => by
  cases hp : (f j).pr
  · exact ⟨[], (hoff j hj hp).symm, by simp⟩
  { refine ⟨[6], ⟨by simp [locOk, hp], ?_⟩, by simp⟩; show unitD 6 (f j) = offP (f j); simp [unitD, offP] }
 have hst : ∀ fr, Run p (gF 1 false (fun j => offP (f j)) n fr) [(9, 0)] (gF 0 false (fun j => offP (f j)) n 0) := fun fr => by
  have := big_act (p := p) (s := gF 1 false (fun j => offP (f j)) n fr) (k := 9) (by omega) (by rw [gF_len]; exact hn.1) (by
   have hnp : anyPr (gF 1 false (fun j => offP (f j)) n fr) = false := gF_none fun j _ => rfl; unfold allowD; rw [hnp]
   simp [gF])
  exact this
 rcases hd with rfl | rfl | rfl
 · exact absurd rfl hz
 · obtain ⟨ac, r1, l1⟩ := hph'
   exact ⟨ac ++ [(9, 0)], 0, r1.append (hst fr), by rw [List.length_append, List.length_singleton]; omega⟩
 {
 obtain ⟨ac, r1, l1⟩ := hph
 have hcr : Run p (gF 2 false f n fr) [(7, 0)] (gF 1 false f n 0) := by
  have := big_act (p := p) (s := gF 2 false f n fr) (k := 7) (by omega) (by rw [gF_len]; exact hn.1) (by
   have hno : opened (gF 2 false f n fr) = false := gF_opened hop; unfold allowD; rw [hno]
   simp [gF])
  exact this
 refine ⟨[(7, 0)] ++ (ac ++ [(9, 0)]), 0, hcr.append (r1.append (hst 0)), ?_⟩; rw [List.length_append, List.length_append, List.length_singleton, List.length_singleton]; omega
 }
 }
/-- The towers that are pressed at last. -/
def cutU (A : Bool) (u : UnitD) : UnitD := { u with op := false, th := if A && !u.cl then false else u.th }
def onU (A : Bool) (u : UnitD) : UnitD := if A then ⟨u.op, true, true, true, if u.cl then u.ink else 0⟩ else u
theorem from_stop {p : PressD} {fo : Bool} {f : Nat → UnitD} {n : Nat} {fr : Int} {A : Nat → Bool} {d : Int} (hn : 0 < n ∧ n ≤ 3) (hp : ∀ j, j < n → (f j).pr = false) (hA : ∀ j, j < n → A j = true → (f j).cl = true ∨ p.jam.getD j false = false) (hd : d = 1 ∨ d = 2) (h2 : d = 2 → ∃ j, j < n ∧ A j = true) :
 ∃ ac fr', Run p (gF 0 fo f n fr) ac (gF d false (fun j => onU (A j) (cutU (A j) (f j))) n fr') ∧ ac.length ≤ 21 := by
 have hcut : ∃ ac, Run p (gF 0 fo f n fr) ac (gF 0 fo (fun j => cutU (A j) (f j)) n fr) ∧ ac.length ≤ 3 * n := phase_all fun j hj => by
  have hpj := hp j hj; generalize f j = u at *; generalize A j = a; obtain ⟨op, th, cl, pr, ink⟩ := u; dsimp only at hpj; subst hpj
  cases op <;> cases th <;> cases cl <;> cases a
  all_goals first
   | exact ⟨[], rfl, by simp⟩
   | exact ⟨[2], ⟨rfl, rfl⟩, by simp⟩
   | exact ⟨[12, 2], ⟨rfl, rfl, rfl⟩, by simp⟩
   | exact ⟨[1, 12, 2], ⟨rfl, rfl, rfl, rfl⟩, by simp⟩
 have hlock : ∃ ac, Run p (gF 0 fo (fun j => cutU (A j) (f j)) n fr) ac (gF 0 false (fun j => cutU (A j) (f j)) n fr) ∧ ac.length ≤ 1 := by
  cases fo
  · exact ⟨[], rfl, by simp⟩
  · refine ⟨[(11, 0)], ?_, by simp⟩
    exact big_act (p := p) (s := gF 0 true (fun j => cutU (A j) (f j)) n fr) (k := 11) (by omega) (by rw [gF_len]; exact hn.1) rfl
 have hcr : Run p (gF 0 false (fun j => cutU (A j) (f j)) n fr) [(7, 0)] (gF 1 false (fun j => cutU (A j) (f j)) n 0) :=
  big_act (p := p) (s := gF 0 false (fun j => cutU (A j) (f j)) n fr) (k := 7) (by omega) (by rw [gF_len]; exact hn.1) (by
   have hno : opened (gF 0 false (fun j => cutU (A j) (f j)) n fr) = false := gF_opened fun j _ => rfl; unfold allowD; rw [hno]
   simp [gF])
 have hon : ∃ ac, Run p (gF 1 false (fun j => cutU (A j) (f j)) n 0) ac (gF 1 false (fun j => onU (A j) (cutU (A j) (f j))) n 0) ∧ ac.length ≤ 3 * n := phase_all fun j hj => by
  have hpj := hp j hj; have hAj := hA j hj; generalize f j = u at *; generalize A j = a at *; generalize p.jam.getD j false = jm at *; obtain ⟨op, th, cl, pr, ink⟩ := u; dsimp only at hpj hAj; subst hpj
  cases a
  · exact ⟨[], rfl, by simp⟩
  {
  cases cl
  { have hjm : jm = false := (by have := hAj rfl; simpa using this); subst hjm; exact ⟨[4, 3, 5], ⟨by cases th <;> rfl, by cases th <;> rfl, by cases th <;> rfl, by cases th <;> rfl⟩, by simp⟩ }
  {
  cases th
  · exact ⟨[3, 5], ⟨rfl, rfl, rfl⟩, by simp⟩
  · exact ⟨[5], ⟨rfl, rfl⟩, by simp⟩
  }
  }
 obtain ⟨a1, r1, l1⟩ := hcut; obtain ⟨a2, r2, l2⟩ := hlock; obtain ⟨a3, r3, l3⟩ := hon; have r4 := r1.append (r2.append (hcr.append r3))
 have l4 : (a1 ++ (a2 ++ ([(7, 0)] ++ a3))).length ≤ 20 := by
  simp only [List.length_append, List.length_singleton]; omega
 rcases hd with rfl | rfl
 · exact ⟨_, 0, r4, by omega⟩
 {
 obtain ⟨j, hj, hAj⟩ := h2 rfl
 have hrun : Run p (gF 1 false (fun j => onU (A j) (cutU (A j) (f j))) n 0) [(8, 0)] (gF 2 false (fun j => onU (A j) (cutU (A j) (f j))) n 0) :=
  big_act (p := p) (s := gF 1 false (fun j => onU (A j) (cutU (A j) (f j))) n 0) (k := 8) (by omega) (by rw [gF_len]; exact hn.1) (by
   have hso : anyPr (gF 1 false (fun j => onU (A j) (cutU (A j) (f j))) n 0) = true := gF_some ⟨j, hj, by unfold onU; rw [if_pos hAj]⟩; unfold allowD; rw [hso]
   simp [gF])
 exact ⟨_, 0, r4.append hrun, by rw [List.length_append, List.length_singleton]; omega⟩
 }
end Go.Proofs.YtojobdffnnibaaaGreat
namespace Go.Proofs.YtojobdffnnibaaaGreat
set_option linter.unusedVariables false
/-- A tower that is pressed is clean. -/
def PrCl (s : StD) : Prop := ∀ u ∈ s.units, u.pr = true → u.cl = true
theorem act_ok' {p : PressD} {s : StD} {k x : Int} (h : actErr p s k x = 0) : allowD p s k x.toNat = true ∧ actD p s k x = doD s k x.toNat := by
 refine ⟨?_, by unfold actD; rw [if_pos h]⟩; unfold actErr at h
 split at h
 · simp at h
 split at h
 · simp at h
 split at h
 · assumption
 · simp at h
theorem getD_mem' {us : List UnitD} {i : Nat} (h : i < us.length) : us.getD i default ∈ us := by
 rw [List.getD_eq_getElem?_getD, List.getElem?_eq_getElem h]; exact List.getElem_mem h
theorem act_prcl {p : PressD} {s : StD} {k x : Int} (h : PrCl s) (he : actErr p s k x = 0) : PrCl (actD p s k x) := by
 obtain ⟨ha, hd⟩ := act_ok' he; obtain ⟨k1, k2, x1, x2⟩ := err_unit he; rw [hd]; unfold doD
 repeat' split
 all_goals (try exact h)
 intro u hu hp; dsimp only at hu
 rcases mem_set' hu with rfl | hu
 {
 have h0 := h _ (getD_mem' x2); unfold allowD at ha; generalize s.units.getD x.toNat default = v at *; obtain ⟨op, th, cl, pr, ink⟩ := v; have hk : k = 1 ∨ k = 2 ∨ k = 3 ∨ k = 4 ∨ k = 5 ∨ k = 6 ∨ k = 12 := by omega
 rcases hk with rfl | rfl | rfl | rfl | rfl | rfl | rfl
 all_goals simp [unitD] at hp ⊢
 all_goals (try exact h0 hp)
 simp at ha; exact ha.1.2
 }
 · exact h u hu hp
theorem act_clean {p : PressD} {s : StD} {k x : Int} (he : actErr p s k x = 0) (j : Nat) (h : ((actD p s k x).units.getD j default).cl = true) : (s.units.getD j default).cl = true ∨ p.jam.getD j false = false := by
 obtain ⟨ha, hd⟩ := act_ok' he; obtain ⟨k1, k2, x1, x2⟩ := err_unit he; rw [hd] at h; unfold doD at h
 repeat' split at h
 all_goals (try exact .inl h)
 dsimp only at h
 by_cases hj : j = x.toNat
 {
 subst hj; rw [List.getD_eq_getElem?_getD, List.getElem?_set_self x2, Option.getD_some] at h; unfold allowD at ha; generalize s.units.getD x.toNat default = v at *; obtain ⟨op, th, cl, pr, ink⟩ := v; have hk : k = 1 ∨ k = 2 ∨ k = 3 ∨ k = 4 ∨ k = 5 ∨ k = 6 ∨ k = 12 := by omega
 rcases hk with rfl | rfl | rfl | rfl | rfl | rfl | rfl
 all_goals simp [unitD, -List.getD_eq_getElem?_getD] at h ha ⊢
 all_goals (try exact .inl h)
 exact .inr ha.2
 }
 · rw [List.getD_eq_getElem?_getD, List.getElem?_set_ne (fun e => hj e.symm), ← List.getD_eq_getElem?_getD] at h
   exact .inl h
theorem run_keeps {p : PressD} : ∀ {ac : List (Int × Int)} {s t : StD}, Good p s → PrCl s → Run p s ac t → Good p t ∧ PrCl t ∧ t.units.length = s.units.length ∧ ∀ j, (t.units.getD j default).cl = true → (s.units.getD j default).cl = true ∨ p.jam.getD j false = false
 | [], s, t, g, c, h => by
   rw [← show s = t from h]; exact ⟨g, c, rfl, fun j h => .inl h⟩
 | a :: ac, s, t, g, c, h => by
   obtain ⟨h1, h2⟩ := h; have g1 : Good p (actD p s a.1 a.2) := (by rw [(act_ok' h1).2]; exact act_good g h1); obtain ⟨r1, r2, r3, r4⟩ := run_keeps g1 (act_prcl c h1) h2; refine ⟨r1, r2, r3.trans (actD_units _ _ _ _), fun j hj => ?_⟩
   rcases r4 j hj with h | h
   · exact act_clean h1 j h
   · exact .inr h
theorem run_good {p : PressD} : ∀ {ac : List (Int × Int)} {s t : StD}, Good p s → Run p s ac t → Good p t
 | [], s, t, g, h => by rw [← show s = t from h]; exact g
 | a :: ac, s, t, g, h => run_good (by rw [(act_ok' h.1).2]; exact act_good g h.1) h.2
theorem reach_short {p : PressD} {s t : StD} {ac : List (Int × Int)} {gl : GoalD} (g : Good p s) (c : PrCl s) (hr : Run p s ac t) (hf : fulD gl t = true) :
 ∃ bc r, Run p s bc r ∧ fulD gl r = true ∧ bc.length ≤ 26 := by
 obtain ⟨gt, ct, hl, hcl⟩ := run_keeps g c hr; have hsm := g.small; obtain ⟨n, hn⟩ : ∃ n, s.units.length = n := ⟨_, rfl⟩; rw [hn] at hl hsm; obtain ⟨f, hfd⟩ : ∃ f : Nat → UnitD, f = fun j => s.units.getD j default := ⟨_, rfl⟩
 have hs : s = gF s.drive s.folder f n s.fresh := by
  have := gF_of s; rw [hn, ← hfd] at this; exact this
 have hfm : ∀ j, j < n → f j ∈ s.units := fun j hj => (by rw [hfd]; exact getD_mem' (by omega)); have hd := g.dr
 obtain ⟨a1, fr1, r1, l1⟩ := to_stop (p := p) (d := s.drive) (fo := s.folder) (f := f) (n := n) (fr := s.fresh) ⟨hsm.2, hsm.1⟩ (by omega) (fun h0 j hj => by
  cases hp : (f j).pr
  rfl
  · exact absurd h0 (g.web _ (hfm j hj) hp).2) (fun h0 => ⟨(g.shut h0).1, fun j hj => (g.shut h0).2 _ (hfm j hj)⟩)
 rw [← hs] at r1; have hfu := hf; unfold fulD at hf; simp only [Bool.and_eq_true, beq_iff_eq] at hf; obtain ⟨f1, f2⟩ := hf; have hdt := gt.dr; have htm : ∀ j, j < n → t.units.getD j default ∈ t.units := fun j hj => getD_mem' (by omega)
 have hmap : t.units.map (·.pr) = (List.range n).map fun j => (t.units.getD j default).pr := by
  apply List.ext_getElem
  · simp [hl]
  { intro k h1 h2; have : k < t.units.length := (by simpa using h1); simp [this] }
 by_cases h0 : t.drive = 0
 {
 refine ⟨a1, _, r1, ?_, by omega⟩; unfold fulD; simp only [Bool.and_eq_true, beq_iff_eq]; refine ⟨by rw [← f1, h0]; rfl, ?_⟩; rw [← f2, hmap]; unfold gF; dsimp only; rw [List.map_map]; refine List.map_congr_left fun j hj => ?_; have hjn := List.mem_range.1 hj
 cases hp : (t.units.getD j default).pr
 rfl
 · exact absurd h0 (gt.web _ (htm j hjn) hp).2
 }
 {
 obtain ⟨a2, fr2, r2, l2⟩ := from_stop (p := p) (fo := s.folder) (f := fun j => offP (f j)) (n := n) (fr := fr1) (A := fun j => (t.units.getD j default).pr) (d := t.drive) ⟨hsm.2, hsm.1⟩ (fun j _ => rfl) (fun j hj hA => by
  have h1 := ct _ (htm j hj) hA; rw [hfd]
  exact hcl j h1) (by omega) (fun h2 => by
  obtain ⟨u, hu, hp⟩ := gt.some_ h2; obtain ⟨j, hj, rfl⟩ := List.mem_iff_getElem.1 hu
  exact ⟨j, by omega, by simpa [hj] using hp⟩)
 refine ⟨a1 ++ a2, _, r1.append r2, ?_, by rw [List.length_append]; omega⟩; unfold fulD; simp only [Bool.and_eq_true, beq_iff_eq]; refine ⟨by rw [← f1]; rfl, ?_⟩; rw [← f2, hmap]; unfold gF; dsimp only; rw [List.map_map]; refine List.map_congr_left fun j hj => ?_; dsimp only [Function.comp]; unfold onU
 cases hp : (t.units.getD j default).pr <;> rfl
 }
theorem run_take {p : PressD} : ∀ {ac : List (Int × Int)} {s t : StD} (n : Nat), Run p s ac t → ∃ r, Run p s (ac.take n) r
 | _, s, t, 0, h => ⟨s, by rw [List.take_zero]; exact rfl⟩
 | [], s, t, n + 1, h => ⟨s, rfl⟩
 | a :: ac, s, t, n + 1, h => by
   obtain ⟨r, hr⟩ := run_take n h.2; exact ⟨r, h.1, hr⟩
theorem run_i64 {p : PressD} : ∀ {ac : List (Int × Int)} {s t : StD}, Run p s ac t → ∀ a ∈ ac, I64 a.1
 | b :: ac, s, t, h, a, hm => by
   rcases List.mem_cons.1 hm with rfl | hm
   · obtain ⟨h1, h2, _⟩ := err_unit h.1
     unfold I64; omega
   · exact run_i64 h.2 a hm
theorem find_facts {p : PressD} {s : StD} {gl : GoalD} (g : Good p s) (c : PrCl s) (ha : aimedD s gl = true) :
 (fiErr p s gl = 4 ∧ ∀ ac t, Run p s ac t → fulD gl t = false) ∨
 (fiErr p s gl = 0 ∧ (∃ ac t, Run p s ac t ∧ fulD gl t = true) ∧ (findL p s gl).length ≤ 26 ∧ (∀ a ∈ findL p s gl, I64 a.1) ∧ vfErr p s gl (findL p s gl) = 0 ∧ ∀ n, n < (findL p s gl).length → vfErr p s gl ((findL p s gl).take n) = 7) := by
 have hs := (good_iff p s).2 g; have hsm := g.small; have hk := seek_all (p := p) gl g.dr (by omega); have hge : goErr p s gl = 0 := by unfold goErr; rw [if_neg (by rw [hs]; simp), if_pos ha]
 by_cases hpos : (seekD p s gl).2 < 0
 · exact .inl ⟨by unfold fiErr; rw [if_neg (by rw [hge]; simp), if_pos hpos], hk.none_ hpos⟩
 {
 obtain ⟨t, hrun, hful, hmin⟩ := hk.some_ (by omega); have hfe : fiErr p s gl = 0 := (by unfold fiErr; rw [if_neg (by rw [hge]; simp), if_neg hpos]); have hfl : findL p s gl = findD p s gl := (by unfold findL; rw [if_pos hfe]); obtain ⟨bc, r, hb, hfb, hlb⟩ := reach_short g c hrun hful; have hlen := hmin bc r hb hfb; refine .inr ⟨hfe, ⟨_, t, hrun, hful⟩, by rw [hfl]; omega, by rw [hfl]; exact fun a h => run_i64 hrun a h, ?_, fun n hn => ?_⟩
 { rw [hfl]; unfold vfErr; rw [if_neg (by rw [hge]; simp), if_neg (by omega), hrun.prog 0, if_pos ⟨rfl, hful⟩] }
 { rw [hfl] at hn ⊢; obtain ⟨r2, hr2⟩ := run_take n hrun; have hlt : ((findD p s gl).take n).length = n := (by rw [List.length_take]; omega); unfold vfErr; rw [if_neg (by rw [hge]; simp), if_neg (by rw [hlt]; omega), hr2.prog 0, if_neg]; rintro ⟨_, hf2⟩; have := hmin _ r2 hr2 hf2; omega }
 }
end Go.Proofs.YtojobdffnnibaaaGreat
namespace Go.Proofs.YtojobdffnnibaaaGreat
set_option linter.unusedVariables false
theorem bitsN_inj : ∀ (l l' : List Bool), l.length = l'.length → bitsN l = bitsN l' → l = l'
 | [], [], _, _ => rfl
 | [], b :: l, h, _ => by simp at h
 | b :: l, [], h, _ => by simp at h
 | b :: l, b' :: l', h, e => by
   rw [bitsN, bitsN] at e; have h1 : l.length = l'.length := (by simpa using h); have h2 : bitsN l = bitsN l' := (by cases b <;> cases b' <;> simp at e <;> omega); rw [bitsN_inj l l' h1 h2]; rw [h2] at e; have h3 : b = b' := (by cases b <;> cases b' <;> simp at e <;> rfl); rw [h3]
theorem code_ss {n : Nat} {s t : StD} (hs : Fit n s) (ht : Fit n t) (h : codeD s = codeD t) : SS s t := by
 have h1 := hs.dr; have h2 := ht.dr; unfold codeD at h; obtain ⟨a, ha⟩ : ∃ a, bitsN (s.folder :: unitsB s.units) = a := ⟨_, rfl⟩; obtain ⟨b, hb⟩ : ∃ b, bitsN (t.folder :: unitsB t.units) = b := ⟨_, rfl⟩; rw [ha, hb] at h; have hd : s.drive = t.drive := (by omega); have hab : a = b := (by omega); rw [← ha, ← hb] at hab; have hl := bitsN_inj _ _ (by rw [List.length_cons, List.length_cons, unitsB_four, unitsB_four, hs.len, ht.len]) hab; injection hl with h3 h4; refine ⟨hd, h3, unitsB_inj s.units t.units [] [] (hs.len.trans ht.len.symm) (by rw [h4])⟩
theorem ss_code {s t : StD} (h : SS s t) : codeD s = codeD t := by
 unfold codeD; rw [h.dr, h.fo, unitsB_eq h.un]
/-- The tower that a number writes. -/
def decU (m : Nat) : UnitD := ⟨m % 2 == 1, m / 2 % 2 == 1, m / 4 % 2 == 1, m / 8 % 2 == 1, 0⟩
def decD (n c : Nat) : StD := ⟨((c % 3 : Nat) : Int), c / 3 % 2 == 1, (List.range n).map fun j => decU (c / 6 / 16 ^ j), 0⟩
def decOk (n c : Nat) : Bool := (c / 6 / 16 ^ n == 0) && safeD (decD n c)
theorem decD_fit (n c : Nat) : Fit n (decD n c) := ⟨by unfold decD; dsimp only; omega, by simp [decD]⟩
def nibU (u : UnitD) : Nat := u.op.toNat + 2 * u.th.toNat + 4 * u.cl.toNat + 8 * u.pr.toNat
theorem nibU_lt (u : UnitD) : nibU u < 16 := by
 obtain ⟨a, b, c, d, e⟩ := u
 cases a <;> cases b <;> cases c <;> cases d <;> simp [nibU]
theorem dec_nib (u : UnitD) (m : Nat) (h : m % 16 = nibU u) : flagsU (decU m) = flagsU u := by
 have h1 : m % 2 = nibU u % 2 := (by omega); have h2 : m / 2 % 2 = nibU u / 2 % 2 := (by omega); have h3 : m / 4 % 2 = nibU u / 4 % 2 := (by omega); have h4 : m / 8 % 2 = nibU u / 8 % 2 := (by omega); unfold decU flagsU; dsimp only; rw [h1, h2, h3, h4]; obtain ⟨a, b, c, d, e⟩ := u
 cases a <;> cases b <;> cases c <;> cases d <;> simp [nibU]
theorem cN_nib (us : List UnitD) : ∀ m, m ≤ us.length → ∀ j (h : j < m), cN us m / 16 ^ j % 16 = nibU (us.getD j default)
 | 0, _, j, h => by omega
 | m + 1, hm, j, h => by
   have e := cN_succ us m (by omega); have hg : us.getD m default = us[m] := (by rw [List.getD_eq_getElem?_getD, List.getElem?_eq_getElem (by omega)]; rfl); have e2 : cN us (m + 1) = cN us m + 16 ^ m * nibU (us.getD m default) := (by rw [hg]; exact e); rw [e2]; have hlt := cN_lt us m (by omega); have hn := nibU_lt (us.getD m default)
   by_cases hj : j = m
   { subst hj; rw [Nat.add_mul_div_left _ _ (Nat.pow_pos (by decide)), Nat.div_eq_of_lt hlt, Nat.zero_add]; exact Nat.mod_eq_of_lt hn }
   {
   have ih := cN_nib us m (by omega) j (by omega); obtain ⟨q, hq⟩ : ∃ q, m = j + 1 + q := ⟨m - j - 1, by omega⟩
   have e3 : 16 ^ m * nibU (us.getD m default) = 16 ^ j * (16 * (16 ^ q * nibU (us.getD m default))) := by
    rw [hq, Nat.pow_add, Nat.pow_succ]; simp only [Nat.mul_assoc]
   rw [e3, Nat.add_mul_div_left _ _ (Nat.pow_pos (by decide)), Nat.add_mul_mod_self_left]; exact ih
   }
theorem dec_code {n : Nat} {t : StD} (ht : Fit n t) (hn : n ≤ 3) : ∃ c : Nat, codeD t = c ∧ SS (decD n c) t ∧ c / 6 / 16 ^ n = 0 ∧ c < 24576 := by
 have hd := ht.dr; have hl := ht.len; obtain ⟨d, hdd⟩ : ∃ d : Nat, t.drive = d := ⟨t.drive.toNat, by omega⟩; obtain ⟨N, hN⟩ : ∃ N, cN t.units t.units.length = N := ⟨_, rfl⟩; have hlt := cN_lt t.units t.units.length (Nat.le_refl _); rw [hN, hl] at hlt; have hf : t.folder.toNat < 2 := (by cases t.folder <;> decide); have hc : codeD t = ((d + 3 * (2 * N + t.folder.toNat) : Nat) : Int) := (by rw [codeD_eq, hN, hdd]; omega); have hc6 : (d + 3 * (2 * N + t.folder.toNat)) / 6 = N := (by omega); have hc3 : (d + 3 * (2 * N + t.folder.toNat)) % 3 = d := (by omega); have hc2 : (d + 3 * (2 * N + t.folder.toNat)) / 3 % 2 = t.folder.toNat := by omega
 have hun : (List.range n).map (fun j => flagsU (decU (N / 16 ^ j))) = t.units.map flagsU := by
  obtain ⟨d0, fo, us, fr⟩ := t; dsimp only at hl hN ⊢
  have key : ∀ j (h : j < us.length), N / 16 ^ j % 16 = nibU us[j] := fun j h => by
   have := cN_nib us us.length (Nat.le_refl _) j h; rw [hN, List.getD_eq_getElem?_getD, List.getElem?_eq_getElem h] at this; exact this
  apply List.ext_getElem
  · simp [hl]
  { intro k h1 h2; have hk : k < us.length := (by simpa using h2); simp only [List.getElem_map, List.getElem_range]; exact dec_nib _ _ (key k hk) }
 have hp : 16 ^ n ≤ 4096 := by
  have : n = 0 ∨ n = 1 ∨ n = 2 ∨ n = 3 := by omega
  rcases this with rfl | rfl | rfl | rfl <;> decide
 refine ⟨d + 3 * (2 * N + t.folder.toNat), hc, ⟨?_, ?_, ?_⟩, ?_, by omega⟩
 · unfold decD; dsimp only; rw [hc3, hdd]
 · unfold decD; dsimp only; rw [hc2]; cases t.folder <;> rfl
 · unfold decD; dsimp only; rw [hc6, List.map_map]; exact hun
 · rw [hc6]; exact Nat.div_eq_of_lt hlt
/-- All situations that can be reached, and their codes. -/
def closedL (p : PressD) (s : StD) : List StepD := (searchD p (fun _ => false) 40000 0 [⟨s, 0, 0, -1⟩]).1
def codesD (p : PressD) (s : StD) : List Int := (closedL p s).map fun t => codeD t.at_
structure ClosedF (p : PressD) (s : StD) : Prop where
 run : ∀ x ∈ closedL p s, ∃ ac, Run p s ac x.at_
 has : ∃ x ∈ closedL p s, x.at_ = s
 all : ∀ ac t, Run p s ac t → ∃ x ∈ closedL p s, SS x.at_ t
 next : ∀ x ∈ closedL p s, ∀ k u, actErr p x.at_ k u = 0 → ∃ y ∈ closedL p s, SS y.at_ (actD p x.at_ k u)
 nodup : (codesD p s).Nodup
 fit : ∀ x ∈ closedL p s, Fit s.units.length x.at_
theorem closed_all {p : PressD} {s : StD} (hd : 0 ≤ s.drive ∧ s.drive ≤ 2) (hl : s.units.length ≤ 3) : ClosedF p s := by
 have b0 : Bfs p s.units.length s 0 [⟨s, 0, 0, -1⟩] (fun _ => 0) := by
  refine ⟨by simp, fun _ => ⟨rfl, rfl⟩, fun j h => ?_, rfl, fun j h h0 => ?_, fun j k _ _ => Nat.le_refl _, fun j _ _ => Nat.zero_le _, fun j h hj => by omega⟩
  · obtain rfl : j = 0 := by simpa using h
    exact ⟨hd, rfl⟩
  · have : j = 0 := by simpa using h
    omega
 have hap : Apart [(⟨s, 0, 0, -1⟩ : StepD)] := (by unfold Apart; simp); have hok := searchD_ok p (fun _ => false) 40000 0 _ (back_one s 0 0) hap; obtain ⟨dep, hs⟩ := search_bfs (fun _ => false) 40000 0 _ _ b0 hap (fun j _ h => by omega) (Nat.zero_le _) (by omega); obtain ⟨r, hr⟩ : ∃ r, searchD p (fun _ => false) 40000 0 [⟨s, 0, 0, -1⟩] = r := ⟨_, rfl⟩; have hcl : closedL p s = r.1 := (by unfold closedL; rw [hr]); rw [hr] at hs hok
 have b : Bfs p s.units.length s r.1.length r.1 dep := by
  rcases hs with ⟨_, b, _⟩ | ⟨m, _, hm, h, _⟩
  · exact b
  · cases h
 have hfit : ∀ x ∈ r.1, Fit s.units.length x.at_ := fun x hx => by
  obtain ⟨j, hj, rfl⟩ := List.mem_iff_getElem.1 hx; exact b.fit j hj
 refine ⟨fun x hx => ?_, ?_, fun ac t hrun => ?_, fun x hx k u he => ?_, ?_, by rw [hcl]; exact hfit⟩
 { rw [hcl] at hx; obtain ⟨j, hj, rfl⟩ := List.mem_iff_getElem.1 hx; exact ⟨_, (back_run b (j + 1) j hj (by omega)).1⟩ }
 · rw [hcl]
   exact ⟨r.1[0]'b.pos, List.getElem_mem _, (b.first b.pos).1⟩
 { obtain ⟨j', hj', ss, _⟩ := follow b hl ac 0 b.pos s t (by rw [(b.first b.pos).1]; exact SS.refl s) ⟨hd, rfl⟩ hrun (fun m hm _ => hm); rw [hcl]; exact ⟨_, List.getElem_mem hj', ss⟩ }
 { rw [hcl] at hx ⊢; obtain ⟨j, hj, rfl⟩ := List.mem_iff_getElem.1 hx; obtain ⟨k1, k2, x1, x2⟩ := err_unit he; obtain ⟨v, rfl⟩ : ∃ v : Nat, u = v := ⟨u.toNat, by omega⟩; have f1 := b.fit j hj; obtain ⟨j1, hj1, e1, _⟩ := b.closed j hj hj k v k1 k2 (by rw [← f1.len]; simpa using x2) he; have f2 := b.fit j1 hj1; have f3 : Fit s.units.length (actD p r.1[j].at_ k v) := f1.act _ _; exact ⟨_, List.getElem_mem hj1, sit_ss e1 f2.dr f3.dr (f2.len.trans f3.len.symm) (by rw [f2.len]; exact hl)⟩ }
 { unfold codesD; rw [hcl]; have ha := hok.apart; unfold Apart at ha; rw [List.nodup_iff_pairwise_ne] at ha ⊢; rw [List.pairwise_map] at ha ⊢; refine List.Pairwise.imp_of_mem (fun {x y} hx hy h e => h ?_) ha; exact (code_ss (hfit x hx) (hfit y hy) e).sit }
theorem ClosedF.len {p : PressD} {s : StD} (h : ClosedF p s) (hl : s.units.length ≤ 3) : (codesD p s).length ≤ 24576 := by
 have h2 := nodup_lt 24576 ((codesD p s).map Int.toNat) ?_ ?_
 · simpa using h2
 { have h1 := h.nodup; rw [List.nodup_iff_pairwise_ne] at h1 ⊢; rw [List.pairwise_map]; refine List.Pairwise.imp_of_mem (fun {x y} hx hy hne e => hne ?_) h1; obtain ⟨a, ha, rfl⟩ := List.mem_map.1 hx; obtain ⟨b, hb, rfl⟩ := List.mem_map.1 hy; obtain ⟨c, hc, _⟩ := dec_code (h.fit a ha) hl; obtain ⟨c', hc', _⟩ := dec_code (h.fit b hb) hl; rw [hc, hc'] at e ⊢; omega }
 { intro x hx; obtain ⟨y, hy, rfl⟩ := List.mem_map.1 hx; obtain ⟨a, ha, rfl⟩ := List.mem_map.1 hy; obtain ⟨c, hc, _, _, hlt⟩ := dec_code (h.fit a ha) hl; rw [hc]; omega }
/-- A code holds with some codes: it is a situation's, not the goal's, and no action leads out. -/
def refOk (p : PressD) (g : GoalD) (n : Nat) (codes : List Int) (c : Int) : Bool :=
 decide (0 ≤ c) && (decOk n c.toNat && (!fulD g (decD n c.toNat) && (kindsD n).all fun a => actErr p (decD n c.toNat) a.1 a.2 != 0 || codes.contains (codeD (actD p (decD n c.toNat) a.1 a.2))))
/-- What Refute answers. -/
def refD (p : PressD) (s : StD) (g : GoalD) (codes : List Int) : Int :=
 if goErr p s g ≠ 0 then goErr p s g else if 30000 < codes.length then 2 else if codes.contains (codeD s) = false then 7 else if codes.all (refOk p g s.units.length codes) then 0 else 7
theorem safe_ss {s t : StD} (h : SS s t) : safeD s = safeD t := by
 unfold safeD; rw [h.dr, h.opened, h.anyPr, map_any h.un (fun u => u.pr && (!u.th || t.drive == 0)) (fun f => f.2.2.2 && (!f.2.1 || t.drive == 0)) (fun _ => rfl)]
theorem good_safe {p : PressD} {s : StD} (g : Good p s) : safeD s = true := by
 have h := (good_iff p s).2 g; exact (stErr_ok h).2.2
theorem refute_facts {p : PressD} {s : StD} {gl : GoalD} (g : Good p s) (ha : aimedD s gl = true) {codes : List Int} (hp : codes.Perm (codesD p s)) :
 ((∀ ac t, Run p s ac t → fulD gl t = false) → refD p s gl codes = 0) ∧ ((∃ ac t, Run p s ac t ∧ fulD gl t = true) → refD p s gl codes = 7) ∧
 (codes.filter (fun c => c != codeD s)).length + 1 = codes.length ∧ refD p s gl (codes.filter fun c => c != codeD s) = 7 := by
 have hsm := g.small; have hs := (good_iff p s).2 g; have hge : goErr p s gl = 0 := (by unfold goErr; rw [if_neg (by rw [hs]; simp), if_pos ha]); have F := closed_all (p := p) g.dr hsm.1; have hlen : codes.length ≤ 24576 := by rw [hp.length_eq]; exact F.len hsm.1
 have hmem : ∀ c, c ∈ codes ↔ ∃ x ∈ closedL p s, codeD x.at_ = c := fun c => by
  rw [hp.mem_iff]; unfold codesD; rw [List.mem_map]
 have hin : codeD s ∈ codes := by
  obtain ⟨x, hx, e⟩ := F.has; exact (hmem _).2 ⟨x, hx, by rw [e]⟩
 have hc0 : codes.contains (codeD s) = true := by simpa using hin
 have hr : refD p s gl codes = if codes.all (refOk p gl s.units.length codes) then 0 else 7 := by
  unfold refD; rw [if_neg (by rw [hge]; simp), if_neg (by omega), if_neg (by rw [hc0]; simp)]
 refine ⟨fun hno => ?_, fun ⟨ac, t, hrun, hful⟩ => ?_, ?_, ?_⟩
 {
 rw [hr, if_pos]; rw [List.all_eq_true]; intro c hc; obtain ⟨x, hx, rfl⟩ := (hmem c).1 hc; obtain ⟨ac, hrun⟩ := F.run x hx; have gx := run_good g hrun; obtain ⟨m, hm, ss, hz, _⟩ := dec_code (F.fit x hx) hsm.1; unfold refOk; rw [hm, Int.toNat_natCast]
 have h1 : decOk s.units.length m = true := by
  unfold decOk; rw [hz, safe_ss ss, good_safe gx]; rfl
 have h2 : fulD gl (decD s.units.length m) = false := (by rw [ss.ful]; exact hno _ _ hrun); rw [h1, h2]; simp only [Bool.not_false, Bool.true_and, Bool.and_eq_true, decide_eq_true_eq]; refine ⟨by omega, ?_⟩; rw [List.all_eq_true]; intro a hka
 by_cases he : actErr p (decD s.units.length m) a.1 a.2 = 0
 { have he2 : actErr p x.at_ a.1 a.2 = 0 := (by rw [← ss.err]; exact he); obtain ⟨y, hy, sy⟩ := F.next x hx a.1 a.2 he2; have : codeD (actD p (decD s.units.length m) a.1 a.2) ∈ codes := (hmem _).2 ⟨y, hy, ss_code (sy.trans (ss.act a.1 a.2).symm)⟩; simp [this] }
 · simp [he]
 }
 { rw [hr, if_neg]; intro hall; rw [List.all_eq_true] at hall; obtain ⟨x, hx, sx⟩ := F.all ac t hrun; have h1 := hall _ ((hmem _).2 ⟨x, hx, rfl⟩); obtain ⟨m, hm, ss, _⟩ := dec_code (F.fit x hx) hsm.1; unfold refOk at h1; rw [hm, Int.toNat_natCast, (ss.trans sx).ful, hful] at h1; simp at h1 }
 { have hnd : codes.Nodup := hp.nodup_iff.2 F.nodup; have e : codes.filter (fun c => c != codeD s) = codes.erase (codeD s) := (hnd.erase_eq_filter _).symm; rw [e, List.length_erase_of_mem hin]; have := List.length_pos_of_mem hin; omega }
 {
 unfold refD; rw [if_neg (by rw [hge]; simp), if_neg, if_pos]
 · simp
 · have := List.length_filter_le (fun c => c != codeD s) codes
   omega
 }
end Go.Proofs.YtojobdffnnibaaaGreat