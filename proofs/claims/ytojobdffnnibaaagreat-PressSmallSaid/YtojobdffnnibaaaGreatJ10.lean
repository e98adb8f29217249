/- press.Verify. The search goes by layers: what it finds is right, as short as any program, and what it does not find no program reaches. In plain words. Programs and the search: found ones lead there, are shortest; where none is found, none leads there. -/
import Derived.Test.YtojobdffnnibaaaGreatPProg
import Derived.Test.YtojobdffnnibaaaGreatJ8
import Derived.Test.YtojobdffnnibaaaGreatJ1
namespace Go.Proofs.YtojobdffnnibaaaGreat
open Go.RowKit
set_option linter.unusedVariables false
set_option linter.unusedSimpArgs false
/-- What Verify answers. -/
def vfErr (p : PressD) (s : StD) (g : GoalD) (l : List (Int × Int)) : Int :=
 if goErr p s g ≠ 0 then goErr p s g else if 200 < l.length then 2 else if (progR p s 0 l).2.2 = 0 ∧ fulD g (progR p s 0 l).1 = true then 0 else 7
set_option maxRecDepth 100000 in
set_option maxHeartbeats 4000000 in
theorem verify_any (p : PressD) (s : StD) (g : GoalD) (l : List (Int × Int)) (vj vu vg vl : Value) (w : World) (hj : Truths w vj p.jam) (hu : UnIn w vu s.units) (hg : Truths w vg g.pressed) (hl : s.units.length ≤ 1000000) (hv : AcIn w vl l) (hk : ∀ a ∈ l, I64 a.1) :
 Calls Tryz.prog 13 #[pV vj p, sV vu s, gV vg g, vl] w fun e w' => e = .returned (.int .i64 (vfErr p s g l)) ∧ Ext w w' := by
 have hst := fun w1 (k : Ext w w1) => start_any p s vj vu w1 (Sl.ext hj k) (hu.ext k) hl; have haim := fun W mb pb ub c B vj0 (k : Ext w W) (h : MOw B W mb pb ub c p s vj0) => aimed_any W h hl (Sl.ext hg k); have hful := fun W mb pb ub c B vj0 t (k : Ext w W) (h : MOw B W mb pb ub c p t vj0) (hl : t.units.length ≤ 1000000) => fulfils_any W h hl (Sl.ext hg k); obtain ⟨a, c, rfl, Hu⟩ := hu.form; obtain ⟨_, aj, cj, hvj, _⟩ := id hj; rw [List.length_map] at hvj; subst hvj; obtain ⟨_, ag, cg, hvg, _⟩ := id hg; rw [List.length_map] at hvg; subst hvg; have hlm := hv.1; obtain ⟨al, cl, rfl, HV⟩ := hv.form; obtain ⟨E, hE⟩ : ∃ E, vfErr p s g l = E := ⟨_, rfl⟩; rw [hE]; have HK := Hd hk; have HAI := Hd haim; have HFU := Hd hful; clear hk haim hful; clear hu hl hv Hu hg; unfold pV sV gV at *; obtain ⟨e1, he1⟩ : ∃ e, stErr p s = e := ⟨_, rfl⟩
 by_cases h1 : e1 = 0
 {
 subst h1; have hs := fun w1 (k : Ext w w1) => (hst w1 k).mono fun e w' (h : StartPost w1 p s _ e w') => (h.resolve_left fun h => h.1 he1).2; obtain ⟨hpe, hsh, hsf⟩ := stErr_ok he1; have huj := shaped_len hsh; have hul : s.units.length ≤ 3 := (by rw [huj]; exact (pErr_len hpe).2); obtain ⟨ba, hba⟩ : ∃ b, aimedD s g = b := ⟨_, rfl⟩; rw [hba] at HAI; have hgo : goErr p s g = if ba then 0 else 1 := (by unfold goErr; rw [if_neg (by rw [he1]; simp), hba]); have hve : E = if goErr p s g ≠ 0 then goErr p s g else if 200 < l.length then 2 else if (progR p s 0 l).2.2 = 0 ∧ fulD g (progR p s 0 l).1 = true then 0 else 7 := (by rw [← hE]; rfl); rw [hgo] at hve; have HS := Hd hs; have HUL := Hd hul; have HUJ := Hd huj; have HVE := Hd hve; clear hs hul huj hve; clear hst he1 hpe hsh hsf hba hE hgo
 go_enter Tryz.func13, Tryz.ntmps13
 go_upto_region 1 with (first
  | (with_reducible refine wpList_boxA (t := 34) (cs := #[.slice aj p.jam.length cj, .int .i64 p.warm, .int .i64 p.tail, .int .i64 p.dirt]) rfl rfl rfl ?_
     rintro xb w1 hx1 hx2 hx3; have PB := Hd hx1; have X1 := Hd hx2; clear hx1 hx2
     clear hx3)
  | (with_reducible refine wpList_boxA (t := 38) (cs := #[.int .i64 s.drive, .bool s.folder, .slice a s.units.length c, .int .i64 s.fresh]) rfl rfl rfl ?_
     rintro sb w2 hy1 hy2 hy3; have pb2 := PB.out.ext hy2; have x2 := X1.out.tr hy2; clear PB X1; have SB := Hd hy1; have PB := Hd pb2; have X1 := Hd x2; clear hy1 pb2 x2
     clear hy3 hy2)
  | (with_reducible refine wpList_boxA (t := 40) (cs := #[.int .i64 g.drive, .slice ag g.pressed.length cg]) rfl rfl rfl ?_
     rintro gb w2 hy1 hy2 hy3; have c2 := (PB.out.ext hy2).cell; have c3 := (SB.out.ext hy2).cell; have x2 := X1.out.tr hy2; clear PB X1 SB; have GB := Hd hy1; have X1 := Hd x2; clear hy1 x2
     clear hy3 hy2))
 go_upto_region 3 with (
  have hgd := HS.out; go_at_call 31; refine (hgd _ X1.out).mono ?_; rintro e wB ⟨mb, pb, ub, c4, rfl, hmo, hx3⟩; have gb2 := GB.out.ext hx3; have lb := GB.out.lt; have lx := X1.out.size; have x2 := X1.out.tr hx3; have hmo2 := hmo; clear c2 c3 GB X1 hgd hx3 HS hmo; have kgb := gb2.cell; have GB := Hd gb2; have X1 := Hd x2; have HM := Hd hmo2; have LX := Hd lx; have LB := Hd lb
  clear gb2 x2 hmo2 lx lb)
 cases ba
 {
 have hfe : E = 1 := HVE.out; have HFE := Hd hfe; clear hfe
 go_wp2_with (
  have hgd := HAI.out; go_at_call 32; refine (hgd _ _ _ _ _ _ _ X1.out HM.out).mono ?_; rintro e w4 ⟨rfl, hx4⟩; have x2 := X1.out.tr hx4; clear hgd X1 HAI kgb; have X1 := Hd x2
  clear x2)
 go_ret; exact ⟨by rw [HFE.out] <;> rfl, X1.out⟩
 }
 {
 have hve2 : E = if 200 < l.length then 2 else if (progR p s 0 l).2.2 = 0 ∧ fulD g (progR p s 0 l).1 = true then 0 else 7 := HVE.out; clear HVE; have HVE := Hd hve2; clear hve2
 by_cases h2 : 200 < l.length
 {
 have hp2 : E = 2 := (by rw [HVE.out, if_pos h2]); have i1 : (200:Int) < (l.length:Int) := (by omega); have HP2 := Hd hp2; clear hp2
 go_wp2_with (
  have hgd := HAI.out; go_at_call 32; refine (hgd _ _ _ _ _ _ _ X1.out HM.out).mono ?_; rintro e w4 ⟨rfl, hx4⟩; have x2 := X1.out.tr hx4; clear hgd X1 HAI kgb; have X1 := Hd x2
  clear x2)
 go_ret; exact ⟨by rw [HP2.out] <;> rfl, X1.out⟩
 }
 {
 have hp2 : E = if (progR p s 0 l).2.2 = 0 ∧ fulD g (progR p s 0 l).1 = true then 0 else 7 := (by rw [HVE.out, if_neg h2]); have i1 : decide ((200:Int) < (l.length:Int)) = false := decide_eq_false (by omega); have i1' : decide (200 < l.length) = false := decide_eq_false (by omega); have hll : l.length ≤ 200 := (by omega); have HP2 := Hd hp2; have HLL := Hd hll; clear hp2 hll; clear h2 HVE
 go_upto_region 9 with (
  have hgd := HAI.out; go_at_call 32; refine (hgd _ _ _ _ _ _ _ X1.out HM.out).mono ?_; rintro e w4 ⟨rfl, hx4⟩; have gb2 := GB.out.ext hx4; have hm2 := HM.out.ext hx4; have x2 := X1.out.tr hx4; clear hgd X1 HAI kgb GB HM; have X1 := Hd x2; have GB := Hd gb2; have HM := Hd hm2
  clear x2 gb2 hm2)
 go_loopw [34] (fun t34 wr => ∃ (k : Nat) (t : StD), k ≤ l.length ∧ t34 = .int .i64 k ∧ t.units.length = s.units.length ∧ Hid (progR p t k (l.drop k) = progR p s 0 l) ∧ Hid (MOw w2.heap.size wr mb pb ub c4 p t (.slice aj p.jam.length cj)) ∧ Hid (Blk wr gb #[.int .i64 g.drive, .slice ag g.pressed.length cg] 40) ∧ Hid (Ext w wr)) (fun t34 _ => l.length - (intOf t34).toNat)
 case atStart => exact ⟨0, s, Nat.zero_le _, rfl, rfl, rfl, HM, GB, X1⟩
 case round =>
  clear i1 i1'; obtain ⟨k, t, hk, rfl, htu, HPR, HMT, GB2, X2⟩ := hrel
  by_cases hlt : k < l.length
  {
  obtain ⟨b1, o1, rfl, hc1⟩ := HV.out (by omega); obtain ⟨d1, d2⟩ := hc1 k hlt; have hpr := HPR.out; rw [List.drop_eq_getElem_cons hlt] at hpr; have hki := HK.out l[k] (List.getElem_mem hlt); obtain ⟨⟨ak, ax⟩, hax⟩ : ∃ x, l[k] = x := ⟨_, rfl⟩; rw [hax] at d1 d2 hpr hki; dsimp only at d1 d2 hki; have e1 := X2.out.cellSome d1; have e2 := X2.out.cellSome d2; have hact := fun W (h : MOw w2.heap.size W mb pb ub c4 p t (.slice aj p.jam.length cj)) => act_any ak ax h (by rw [htu]; exact HUL.out) (by rw [htu]; exact HUJ.out) hki; have hau := actD_units p t ak ax; obtain ⟨er, her⟩ : ∃ x, actErr p t ak ax = x := ⟨_, rfl⟩; unfold ActPost at hact; rw [her] at hact; have i1 : (0:Int) ≤ (k:Int) := (by omega); have i2 : (k:Int) < (l.length:Int) := (by omega); clear hc1 d1 d2 hax hki; have HPN := Hd hpr; have HACT := Hd hact; have HER := Hd her; have HAU := Hd hau; clear hpr hact her hau; have wx := X2.out.size; have wrr := GB2.out.lt; have wm := HMT.out.bm.lt; have wp := HMT.out.bp.lt; have wu : ub < wr.heap.size := (by obtain ⟨cs, h, _⟩ := HMT.out.bu; exact h.lt); have wb : w2.heap.size ≤ wr.heap.size := (by have := HMT.out.lm; omega); have WX := Hd wx; have WR := Hd wrr; have WM := Hd wm; have WP := Hd wp; have WU := Hd wu; have WB := Hd wb; clear wx wrr wm wp wu wb
  by_cases her0 : er = 0
  {
  subst her0; have hnx := HPN.out; rw [progR_ok (by exact HER.out)] at hnx; dsimp only at hnx; have hut : (actD p t ak ax).units.length = s.units.length := (by rw [HAU.out]; exact htu); have HNX := Hd hnx; clear hnx
  go_wp2_with (first
   | (with_reducible refine wpList_allocA (t := 72) rfl rfl Tryz.zeroValue72 ?_
      rintro zb w4 hx1 hx2 hx3; have x2 := X2.out.tr hx2; have gb2 := GB2.out.ext hx2; have hm2 := HMT.out.ext hx2; have lz : wr.heap.size ≤ zb := hx3; have f1 := hx2.cellSome e1; have f2 := hx2.cellSome e2; clear e1 e2 hx2 hx3 X2 GB2 HMT; have ZB := Hd hx1; have X2 := Hd x2; have GB2 := Hd gb2; have HMT := Hd hm2; have LZ := Hd lz
      clear hx1 x2 gb2 hm2 lz)
   | (with_reducible refine wpList_storeK (ty := 72) (cells := #[.int .i64 ak, .int .i64 ax]) rfl rfl ZB.out ?_ ?_ ?_ ?_ ?_ ?_
      rfl; rfl; kernel_rfl; rfl; simp [Value.oneCell']; rintro w5 hb5 ho5; have hlt0 := LZ.out; have x2 := X2.out.then_only ho5 (fun b (e : b = zb) => by rw [e]; exact Nat.le_trans (WX.out) hlt0); have gb2 := GB2.out.only ho5 (fun (e : gb = zb) => by have := WR.out; omega); have hm2 := HMT.out.only ho5 (fun (e : mb = zb) => by have := WM.out; omega) (fun (e : pb = zb) => by have := WP.out; omega) (fun (e : ub = zb) => by have := WU.out; omega) (fun b hb (e : b = zb) => by have := WB.out; omega); have cz := hb5.cell; clear X2 GB2 HMT ZB ho5 f1 f2 hlt0; have X2 := Hd x2; have GB2 := Hd gb2; have HMT := Hd hm2; have ZB := Hd hb5
      clear x2 gb2 hm2 hb5)
   | (have hgd := HACT.out
      go_at_call 40; refine (hgd _ HMT.out).mono ?_; rintro e w6 ⟨rfl, hm6, ho6⟩; have x2 := X2.out.then_only ho6 (fun b e => by rcases e with e | e <;> (have := hm6.lm; have := hm6.lu; have := LX.out; omega)); have gb2 := GB2.out.only ho6 (fun e => by rcases e with e | e <;> (have := hm6.lm; have := hm6.lu; have := LB.out; omega)); clear hgd HACT X2 GB2 HMT cz ho6; have X2 := Hd x2; have GB2 := Hd gb2; have HMT := Hd hm6
      clear x2 gb2 hm6)
   | fail)
  go_roundw
  case rel => exact ⟨k + 1, actD p t ak ax, by omega, by go_num, hut, HNX, HMT, GB2, X2⟩
  case measure => simp [intOf] <;> omega
  }
  {
  have f1' : (er != 0) = true := (by simp [her0]); have hne : actErr p t ak ax ≠ 0 := (by rw [HER.out]; exact her0); have hnx := HPN.out; rw [progR_no hne] at hnx; rw [HER.out] at hnx; have h7 : E = 7 := (by rw [HP2.out, ← hnx, if_neg (by dsimp only; intro h; exact her0 h.1)]); have H7 := Hd h7; clear h7; clear hnx
  go_wp2_with (first
   | (with_reducible refine wpList_allocA (t := 72) rfl rfl Tryz.zeroValue72 ?_
      rintro zb w4 hx1 hx2 hx3; have x2 := X2.out.tr hx2; have gb2 := GB2.out.ext hx2; have hm2 := HMT.out.ext hx2; have lz : wr.heap.size ≤ zb := hx3; have f1 := hx2.cellSome e1; have f2 := hx2.cellSome e2; clear e1 e2 hx2 hx3 X2 GB2 HMT; have ZB := Hd hx1; have X2 := Hd x2; have GB2 := Hd gb2; have HMT := Hd hm2; have LZ := Hd lz
      clear hx1 x2 gb2 hm2 lz)
   | (with_reducible refine wpList_storeK (ty := 72) (cells := #[.int .i64 ak, .int .i64 ax]) rfl rfl ZB.out ?_ ?_ ?_ ?_ ?_ ?_
      rfl; rfl; kernel_rfl; rfl; simp [Value.oneCell']; rintro w5 hb5 ho5; have hlt0 := LZ.out; have x2 := X2.out.then_only ho5 (fun b (e : b = zb) => by rw [e]; exact Nat.le_trans (WX.out) hlt0); have gb2 := GB2.out.only ho5 (fun (e : gb = zb) => by have := WR.out; omega); have hm2 := HMT.out.only ho5 (fun (e : mb = zb) => by have := WM.out; omega) (fun (e : pb = zb) => by have := WP.out; omega) (fun (e : ub = zb) => by have := WU.out; omega) (fun b hb (e : b = zb) => by have := WB.out; omega); have cz := hb5.cell; clear X2 GB2 HMT ZB ho5 f1 f2 hlt0; have X2 := Hd x2; have GB2 := Hd gb2; have HMT := Hd hm2; have ZB := Hd hb5
      clear x2 gb2 hm2 hb5)
   | (have hgd := HACT.out
      go_at_call 40; refine (hgd _ HMT.out).mono ?_; rintro e w6 ⟨rfl, hm6, ho6⟩; have x2 := X2.out.then_only ho6 (fun b e => by rcases e with e | e <;> (have := hm6.lm; have := hm6.lu; have := LX.out; omega)); have gb2 := GB2.out.only ho6 (fun e => by rcases e with e | e <;> (have := hm6.lm; have := hm6.lu; have := LB.out; omega)); clear hgd HACT X2 GB2 HMT cz ho6; have X2 := Hd x2; have GB2 := Hd gb2; have HMT := Hd hm6
      clear x2 gb2 hm6)
   | fail)
  go_ret; exact ⟨by rw [H7.out] <;> rfl, X2.out⟩
  }
  }
  {
  have i2 : decide ((k:Int) < (l.length:Int)) = false := decide_eq_false (by omega); have hnx := HPR.out; rw [List.drop_eq_nil_of_le (by omega), progR_nil] at hnx; obtain rfl : k = l.length := (by omega); have d := GB2.out.cell; have hfl := fun W (k : Ext wr W) => HFU.out W mb pb ub c4 w2.heap.size _ t (X2.out.tr k) (HMT.out.ext k) (by rw [htu]; have := HUL.out; omega); obtain ⟨bf, hbf⟩ : ∃ b, fulD g t = b := ⟨_, rfl⟩; rw [hbf] at hfl
  have h7 : E = if bf then 0 else 7 := by
   rw [HP2.out, ← hnx, hbf]
   cases bf <;> simp
  clear hnx hbf; have H7 := Hd h7; have HFL := Hd hfl; clear h7 hfl
  cases bf
  all_goals
   go_wp2_with (
    have hgd := HFL.out; go_at_call 35; refine (hgd _ (Below.refl _ _)).mono ?_; rintro e w9 ⟨rfl, hx⟩; have x2 := X2.out.tr hx; clear hgd X2; have X2 := Hd x2
    clear x2)
   go_ret; exact ⟨by rw [H7.out] <;> rfl, X2.out⟩
  }
 }
 }
 }
 {
 have hpe : E = e1 := (by rw [← hE]; unfold vfErr goErr; rw [he1, if_pos h1, if_pos h1]); have hs := fun w1 (k : Ext w w1) => (hst w1 k).mono fun e w' (h : StartPost w1 p s _ e w') => (h.resolve_right fun h => h1 (he1 ▸ h.1)).2; rw [he1] at hs; have f1 : (e1 != 0) = true := (by simp [h1]); have f2 : (e1 == 0) = false := (by simp [h1]); have HPE := Hd hpe; have H1 := Hd h1; have HS := Hd hs; clear hpe h1 hs; clear he1 hst hE
 go_enter Tryz.func13, Tryz.ntmps13
 go_upto_region 1 with (first
  | (with_reducible refine wpList_boxA (t := 34) (cs := #[.slice aj p.jam.length cj, .int .i64 p.warm, .int .i64 p.tail, .int .i64 p.dirt]) rfl rfl rfl ?_
     rintro xb w1 hx1 hx2 hx3; have PB := Hd hx1; have X1 := Hd hx2; clear hx1 hx2
     clear hx3)
  | (with_reducible refine wpList_boxA (t := 38) (cs := #[.int .i64 s.drive, .bool s.folder, .slice a s.units.length c, .int .i64 s.fresh]) rfl rfl rfl ?_
     rintro sb w2 hy1 hy2 hy3; have pb2 := PB.out.ext hy2; have x2 := X1.out.tr hy2; clear PB X1; have SB := Hd hy1; have PB := Hd pb2; have X1 := Hd x2; clear hy1 pb2 x2
     clear hy3 hy2)
  | (with_reducible refine wpList_boxA (t := 40) (cs := #[.int .i64 g.drive, .slice ag g.pressed.length cg]) rfl rfl rfl ?_
     rintro gb w2 hy1 hy2 hy3; have c2 := (PB.out.ext hy2).cell; have c3 := (SB.out.ext hy2).cell; have x2 := X1.out.tr hy2; clear PB X1 SB; have GB := Hd hy1; have X1 := Hd x2; clear hy1 x2
     clear hy3 hy2))
 go_wp2_with (
  have hgd := HS.out; go_at_call 31; refine (hgd _ X1.out).mono ?_; rintro e w3 ⟨rfl, hx3⟩; have x2 := X1.out.tr hx3; clear c2 c3 X1 hgd hx3 HS; have X1 := Hd x2
  clear x2)
 go_ret; exact ⟨by rw [HPE.out] <;> rfl, X1.out⟩
 }
end Go.Proofs.YtojobdffnnibaaaGreat
namespace Go.Proofs.YtojobdffnnibaaaGreat
set_option linter.unusedVariables false
def flagsU (u : UnitD) : Bool × Bool × Bool × Bool := (u.op, u.th, u.cl, u.pr)
/-- Two states of one situation. -/
structure SS (s t : StD) : Prop where
 dr : s.drive = t.drive
 fo : s.folder = t.folder
 un : s.units.map flagsU = t.units.map flagsU
theorem SS.refl (s : StD) : SS s s := ⟨rfl, rfl, rfl⟩
theorem SS.symm {s t : StD} (h : SS s t) : SS t s := ⟨h.dr.symm, h.fo.symm, h.un.symm⟩
theorem SS.trans {s t r : StD} (h : SS s t) (k : SS t r) : SS s r := ⟨h.dr.trans k.dr, h.fo.trans k.fo, h.un.trans k.un⟩
theorem SS.len {s t : StD} (h : SS s t) : s.units.length = t.units.length := by
 have := congrArg List.length h.un
 simpa using this
theorem unitsB_eq {us vs : List UnitD} (h : us.map flagsU = vs.map flagsU) : unitsB us = unitsB vs := by
 have e : ∀ l : List UnitD, unitsB l = (l.map flagsU).flatMap fun f => [f.1, f.2.1, f.2.2.1, f.2.2.2] := fun l => by
  unfold unitsB; rw [List.flatMap_map]; rfl
 rw [e, e, h]
theorem SS.sit {s t : StD} (h : SS s t) : sitD s = sitD t := by
 unfold sitD; rw [h.dr, h.fo, unitsB_eq h.un]
theorem unitsB_inj : ∀ (us vs : List UnitD) (a b : List Bool), us.length = vs.length → unitsB us ++ a = unitsB vs ++ b → us.map flagsU = vs.map flagsU
 | [], [], _, _, _, _ => rfl
 | [], v :: vs, _, _, h, _ => by simp at h
 | u :: us, [], _, _, h, _ => by simp at h
 | u :: us, v :: vs, a, b, h, e => by
   unfold unitsB at e; simp only [List.flatMap_cons, List.cons_append, List.nil_append, List.cons.injEq] at e; obtain ⟨h1, h2, h3, h4, e⟩ := e; rw [List.map_cons, List.map_cons]; have := unitsB_inj us vs a b (by simpa using h) e; rw [this]; unfold flagsU; rw [h1, h2, h3, h4]
theorem sit_ss {s t : StD} (h : sitD s = sitD t) (hs : 0 ≤ s.drive ∧ s.drive ≤ 2) (ht : 0 ≤ t.drive ∧ t.drive ≤ 2) (hl : s.units.length = t.units.length) (h3 : s.units.length ≤ 3) : SS s t := by
 have e : ∀ r : StD, r.units.length ≤ 3 → sitD r = [r.drive == 1, r.drive == 2, r.folder] ++ (unitsB r.units ++ List.replicate (12 - 4 * r.units.length) false) := fun r hr => by
  have hb : ∀ us : List UnitD, (unitsB us).length = 4 * us.length := fun us => by
   induction us with
   | nil => rfl
   | cons u us ih =>
     have : unitsB (u :: us) = [u.op, u.th, u.cl, u.pr] ++ unitsB us := rfl; rw [this, List.length_append, ih]; simp; omega
  unfold sitD; rw [List.append_assoc, List.take_append, List.take_append]; have h1 : (15 - [r.drive == 1, r.drive == 2, r.folder].length) = 12 := rfl; rw [h1, List.take_of_length_le (by simp), List.take_of_length_le (by rw [hb]; omega), List.take_replicate, hb, Nat.min_eq_left (by omega)]
 rw [e s h3, e t (by omega)] at h; simp only [List.cons_append, List.nil_append, List.cons.injEq] at h; obtain ⟨h1, h2, h4, h5⟩ := h; refine ⟨?_, h4, unitsB_inj _ _ _ _ hl h5⟩; have a1 : s.drive = 1 ↔ t.drive = 1 := (by rw [← beq_iff_eq, ← beq_iff_eq (a := t.drive), h1]); have a2 : s.drive = 2 ↔ t.drive = 2 := (by rw [← beq_iff_eq, ← beq_iff_eq (a := t.drive), h2]); omega
theorem map_any {us vs : List UnitD} (h : us.map flagsU = vs.map flagsU) (f : UnitD → Bool) (g : Bool × Bool × Bool × Bool → Bool) (hf : ∀ u, f u = g (flagsU u)) : us.any f = vs.any f := by
 have e : ∀ l : List UnitD, l.any f = (l.map flagsU).any g := fun l => by
  rw [List.any_map]; congr 1; funext u; exact hf u
 rw [e, e, h]
theorem map_filter_len {us vs : List UnitD} (h : us.map flagsU = vs.map flagsU) (f : UnitD → Bool) (g : Bool × Bool × Bool × Bool → Bool) (hf : ∀ u, f u = g (flagsU u)) : (us.filter f).length = (vs.filter f).length := by
 have e : ∀ l : List UnitD, (l.filter f).length = ((l.map flagsU).filter g).length := fun l => by
  rw [List.filter_map, List.length_map]
  congr 2
  funext u; exact hf u
 rw [e, e, h]
theorem SS.getD {s t : StD} (h : SS s t) (i : Nat) : flagsU (s.units.getD i default) = flagsU (t.units.getD i default) := by
 have e : ∀ l : List UnitD, flagsU (l.getD i default) = (l.map flagsU).getD i (flagsU default) := fun l => by
  simp only [List.getD_eq_getElem?_getD, List.getElem?_map]
  cases l[i]? <;> rfl
 rw [e, e, h.un]
theorem SS.opened {s t : StD} (h : SS s t) : opened s = opened t := by
 unfold Go.Proofs.YtojobdffnnibaaaGreat.opened; rw [h.fo, map_any h.un (·.op) (·.1) (fun _ => rfl)]
theorem SS.anyPr {s t : StD} (h : SS s t) : anyPr s = anyPr t := map_any h.un (·.pr) (·.2.2.2) (fun _ => rfl)
theorem SS.nPr {s t : StD} (h : SS s t) : nPr s = nPr t := map_filter_len h.un (·.pr) (·.2.2.2) (fun _ => rfl)
theorem SS.allow {p : PressD} {s t : StD} (h : SS s t) (k : Int) (i : Nat) : allowD p s k i = allowD p t k i := by
 have hg := h.getD i; unfold allowD; rw [h.dr, h.fo, h.opened, h.anyPr, h.nPr]; obtain ⟨u, hu⟩ : ∃ u, s.units.getD i default = u := ⟨_, rfl⟩; obtain ⟨v, hv⟩ : ∃ v, t.units.getD i default = v := ⟨_, rfl⟩; rw [hu, hv] at hg ⊢; unfold flagsU at hg; simp only [Prod.mk.injEq] at hg; obtain ⟨h1, h2, h3, h4⟩ := hg; dsimp only; rw [h1, h2, h3, h4]
theorem SS.err {p : PressD} {s t : StD} (h : SS s t) (k x : Int) : actErr p s k x = actErr p t k x := by
 unfold actErr; rw [h.len, h.allow]
theorem flags_unit (k : Int) {u v : UnitD} (h : flagsU u = flagsU v) : flagsU (unitD k u) = flagsU (unitD k v) := by
 unfold flagsU at h; simp only [Prod.mk.injEq] at h; obtain ⟨h1, h2, h3, h4⟩ := h; unfold unitD flagsU
 repeat' split
 all_goals simp [h1, h2, h3, h4]
theorem SS.do_ {s t : StD} (h : SS s t) (k : Int) (i : Nat) : SS (doD s k i) (doD t k i) := by
 unfold doD
 repeat' split
 · exact ⟨rfl, h.fo, h.un⟩
 · exact ⟨rfl, h.fo, h.un⟩
 · exact ⟨rfl, h.fo, h.un⟩
 · exact ⟨h.dr, rfl, h.un⟩
 · exact ⟨h.dr, rfl, h.un⟩
 { refine ⟨h.dr, h.fo, ?_⟩; dsimp only; rw [List.map_set, List.map_set, h.un, flags_unit k (h.getD i)] }
theorem SS.act {p : PressD} {s t : StD} (h : SS s t) (k x : Int) : SS (actD p s k x) (actD p t k x) := by
 unfold actD; rw [h.err]
 split
 · exact h.do_ k _
 · exact h
theorem SS.ful {s t : StD} (h : SS s t) (g : GoalD) : fulD g s = fulD g t := by
 unfold fulD; have e : ∀ l : List UnitD, l.map (·.pr) = (l.map flagsU).map (·.2.2.2) := fun l => (by rw [List.map_map]; rfl); rw [h.dr, e, e, h.un]
/-- A state with which the search can go on. -/
structure Fit (n : Nat) (s : StD) : Prop where
 dr : 0 ≤ s.drive ∧ s.drive ≤ 2
 len : s.units.length = n
theorem Fit.act {p : PressD} {n : Nat} {s : StD} (h : Fit n s) (k x : Int) : Fit n (actD p s k x) := by
 refine ⟨?_, by rw [actD_units]; exact h.len⟩; have := h.dr; unfold actD
 split
 {
 unfold doD
 repeat' split
 all_goals (dsimp only; omega)
 }
 · exact this
/-- What the search has at a list, all ahead of number i gone through. -/
structure Bfs (p : PressD) (n : Nat) (s0 : StD) (i : Nat) (l : List StepD) (dep : Nat → Nat) : Prop where
 pos : 0 < l.length
 first : ∀ h : 0 < l.length, l[0].at_ = s0 ∧ l[0].from_ = -1
 fit : ∀ j (h : j < l.length), Fit n l[j].at_
 dep0 : dep 0 = 0
 from_ : ∀ j (h : j < l.length), 0 < j → ∃ f : Nat, l[j].from_ = f ∧ ∃ hf : f < j, f < l.length ∧ dep j = dep f + 1 ∧ actErr p (l[f]'(by omega)).at_ l[j].kind l[j].unit = 0 ∧ l[j].at_ = actD p (l[f]'(by omega)).at_ l[j].kind l[j].unit
 mono : ∀ j k, j ≤ k → k < l.length → dep j ≤ dep k
 top : ∀ j, j < l.length → i < l.length → dep j ≤ dep i + 1
 closed : ∀ j (h : j < l.length), j < i → ∀ k (u : Nat), 1 ≤ k → k ≤ 12 → u < n → actErr p l[j].at_ k u = 0 → ∃ j' , ∃ h' : j' < l.length, sitD l[j'].at_ = sitD (actD p l[j].at_ k u) ∧ dep j' ≤ dep j + 1
/-- While number i is gone through: some actions are done. -/
structure BfsA (p : PressD) (n : Nat) (s0 : StD) (i : Nat) (l : List StepD) (dep : Nat → Nat) (done : List (Int × Nat)) : Prop extends Bfs p n s0 i l dep where
 lt : i < l.length
 now : ∀ a ∈ done, actErr p l[i].at_ a.1 a.2 = 0 → ∃ j' , ∃ h' : j' < l.length, sitD l[j'].at_ = sitD (actD p l[i].at_ a.1 a.2) ∧ dep j' ≤ dep i + 1
theorem BfsA.add {p : PressD} {n : Nat} {s0 : StD} {i : Nat} {l : List StepD} {dep : Nat → Nat} {done : List (Int × Nat)} (b : BfsA p n s0 i l dep done) (a : Int × Nat) {s : StD} (hs : (l[i]'b.lt).at_ = s) :
 ∃ dep', ∃ b' : BfsA p n s0 i (addStep p i s l a) dep' (done ++ [a]), ((addStep p i s l a)[i]'b'.lt).at_ = s := by
 have hlt := b.lt; unfold addStep
 by_cases he : actErr p s a.1 a.2 = 0
 {
 rw [if_pos he]; dsimp only
 by_cases hk : (l.any fun t => sitD t.at_ == sitD (actD p s a.1 a.2)) = true
 {
 rw [if_pos hk]; refine ⟨dep, ⟨b.toBfs, hlt, fun c hc hce => ?_⟩, hs⟩
 rcases List.mem_append.1 hc with hc | hc
 · exact b.now c hc hce
 { rw [List.mem_singleton.1 hc, hs]; obtain ⟨t, ht, e⟩ := List.any_eq_true.1 hk; obtain ⟨j', hj', rfl⟩ := List.mem_iff_getElem.1 ht; exact ⟨j', hj', by simpa using e, b.top j' hj' hlt⟩ }
 }
 {
 rw [if_neg hk]; obtain ⟨x, hx⟩ : ∃ x : StepD, (⟨actD p s a.1 a.2, a.1, a.2, i⟩ : StepD) = x := ⟨_, rfl⟩; rw [hx]; have hxa : x.at_ = actD p s a.1 a.2 ∧ x.kind = a.1 ∧ x.unit = a.2 ∧ x.from_ = i := (by rw [← hx]; exact ⟨rfl, rfl, rfl, rfl⟩); clear hx; have hlen : (l ++ [x]).length = l.length + 1 := (by simp); have gl : ∀ j (h : j < l.length), (l ++ [x])[j]'(by rw [hlen]; omega) = l[j] := fun j h => List.getElem_append_left h; have gr : (l ++ [x])[l.length]'(by rw [hlen]; omega) = x := (by rw [List.getElem_append_right (Nat.le_refl _)]; simp); obtain ⟨dep', hd'⟩ : ∃ dep' : Nat → Nat, dep' = fun j => if j = l.length then dep i + 1 else dep j := ⟨_, rfl⟩; have dl : ∀ j, j < l.length → dep' j = dep j := fun j h => (by rw [hd']; simp only; rw [if_neg (by omega)]); have dr : dep' l.length = dep i + 1 := (by rw [hd']; simp); clear hd'; have hfs : Fit n s := (by rw [← hs]; exact b.fit i hlt); refine ⟨dep', ⟨⟨by rw [hlen]; omega, fun h => ?_, fun j h => ?_, ?_, fun j h h0 => ?_, fun j k hjk hk => ?_, fun j hj hi => ?_, fun j h hji k u k1 k2 hu he' => ?_⟩, by rw [hlen]; omega, fun c hc hce => ?_⟩, ?_⟩
 · rw [gl 0 b.pos]; exact b.first b.pos
 {
 by_cases hj : j < l.length
 · rw [gl j hj]; exact b.fit j hj
 · obtain rfl : j = l.length := by rw [hlen] at h; omega
   rw [gr, hxa.1]; exact hfs.act _ _
 }
 · rw [dl 0 b.pos]; exact b.dep0
 {
 by_cases hj : j < l.length
 {
 obtain ⟨f, h1, hf, hfl, h2, h3, h4⟩ := b.from_ j hj h0; refine ⟨f, by rw [gl j hj]; exact h1, hf, by rw [hlen]; omega, by rw [dl j hj, dl f hfl]; exact h2, ?_, ?_⟩
 · rw [gl f hfl, gl j hj]; exact h3
 · rw [gl f hfl, gl j hj]; exact h4
 }
 {
 obtain rfl : j = l.length := (by rw [hlen] at h; omega); refine ⟨i, by rw [gr]; exact hxa.2.2.2, hlt, by rw [hlen]; omega, by rw [dr, dl i hlt], ?_, ?_⟩
 · rw [gr, gl i hlt, hs, hxa.2.1, hxa.2.2.1]; exact he
 · rw [gr, gl i hlt, hs, hxa.2.1, hxa.2.2.1]; exact hxa.1
 }
 }
 {
 by_cases hkl : k < l.length
 · rw [dl j (by omega), dl k hkl]; exact b.mono j k hjk hkl
 {
 obtain rfl : k = l.length := by rw [hlen] at hk; omega
 by_cases hjl : j < l.length
 · rw [dl j hjl, dr]; exact b.top j hjl hlt
 · obtain rfl : j = l.length := by omega
   exact Nat.le_refl _
 }
 }
 {
 rw [dl i hlt]
 by_cases hjl : j < l.length
 · rw [dl j hjl]; exact b.top j hjl hlt
 · obtain rfl : j = l.length := by rw [hlen] at hj; omega
   rw [dr]; exact Nat.le_refl _
 }
 { have hjl : j < l.length := (by omega); rw [gl j hjl] at he' ⊢; obtain ⟨j', hj', e1, e2⟩ := b.closed j hjl hji k u k1 k2 hu he'; exact ⟨j', by rw [hlen]; omega, by rw [gl j' hj']; exact e1, by rw [dl j' hj', dl j hjl]; exact e2⟩ }
 {
 rw [gl i hlt] at hce ⊢
 rcases List.mem_append.1 hc with hc | hc
 · obtain ⟨j', hj', e1, e2⟩ := b.now c hc hce
   exact ⟨j', by rw [hlen]; omega, by rw [gl j' hj']; exact e1, by rw [dl j' hj', dl i hlt]; exact e2⟩
 · rw [List.mem_singleton.1 hc, hs]
   exact ⟨l.length, by rw [hlen]; omega, by rw [gr, hxa.1], by rw [dr, dl i hlt]; exact Nat.le_refl _⟩
 }
 · rw [gl i hlt]; exact hs
 }
 }
 {
 rw [if_neg he]; refine ⟨dep, ⟨b.toBfs, hlt, fun c hc hce => ?_⟩, hs⟩
 rcases List.mem_append.1 hc with hc | hc
 · exact b.now c hc hce
 · rw [List.mem_singleton.1 hc, hs] at hce
   exact absurd hce he
 }
theorem BfsA.fold {p : PressD} {n : Nat} {s0 : StD} {i : Nat} {s : StD} : ∀ (ks : List (Int × Nat)) {l : List StepD} {dep : Nat → Nat} {done : List (Int × Nat)} (b : BfsA p n s0 i l dep done) (hs : (l[i]'b.lt).at_ = s),
 ∃ dep', ∃ b' : BfsA p n s0 i (ks.foldl (addStep p i s) l) dep' (done ++ ks), ((ks.foldl (addStep p i s) l)[i]'b'.lt).at_ = s := by
 intro ks
 induction ks with
 | nil => intro l dep done b hs; exact ⟨dep, by rw [List.append_nil]; exact b, hs⟩
 | cons a ks ih =>
   intro l dep done b hs; obtain ⟨dep1, b1, hs1⟩ := b.add a hs; obtain ⟨dep2, b2, hs2⟩ := ih b1 hs1; rw [List.append_assoc] at b2; exact ⟨dep2, b2, hs2⟩
theorem kinds_mem {n : Nat} {k : Int} {u : Nat} (k1 : 1 ≤ k) (k2 : k ≤ 12) (hu : u < n) : (k, u) ∈ kindsD n := by
 unfold kindsD; rw [List.mem_flatMap]; refine ⟨(k - 1).toNat, List.mem_range.2 (by omega), List.mem_map.2 ⟨u, List.mem_range.2 hu, ?_⟩⟩; rw [Prod.mk.injEq]; exact ⟨by omega, rfl⟩
theorem Bfs.expand {p : PressD} {n : Nat} {s0 : StD} {i : Nat} {l : List StepD} {dep : Nat → Nat} (b : Bfs p n s0 i l dep) (hi : i < l.length) :
 ∃ dep', Bfs p n s0 (i + 1) (expandD p i l[i].at_ l) dep' := by
 have b0 : BfsA p n s0 i l dep [] := ⟨b, hi, fun a ha => by cases ha⟩; unfold expandD; rw [(b.fit i hi).len]; obtain ⟨dep', b', hs⟩ := b0.fold (kindsD n) rfl; rw [List.nil_append] at b'; refine ⟨dep', ⟨b'.pos, b'.first, b'.fit, b'.dep0, b'.from_, b'.mono, fun j hj hi1 => ?_, fun j h hji k u k1 k2 hu he => ?_⟩⟩
 { have h1 := b'.top j hj b'.lt; have h2 := b'.mono i (i + 1) (by omega) hi1; omega }
 {
 by_cases hj : j < i
 · exact b'.closed j h hj k u k1 k2 hu he
 · obtain rfl : j = i := by omega
   exact b'.now (k, u) (kinds_mem k1 k2 hu) he
 }
theorem add_pre (p : PressD) (i : Nat) (s : StD) (l : List StepD) (a : Int × Nat) : l.length ≤ (addStep p i s l a).length ∧ ∀ j (h : j < l.length) (h' : j < (addStep p i s l a).length), (addStep p i s l a)[j] = l[j] := by
 unfold addStep
 split
 {
 dsimp only
 split
 · exact ⟨Nat.le_refl _, fun j h h' => rfl⟩
 · exact ⟨by simp, fun j h h' => List.getElem_append_left h⟩
 }
 · exact ⟨Nat.le_refl _, fun j h h' => rfl⟩
theorem fold_pre (p : PressD) (i : Nat) (s : StD) : ∀ (ks : List (Int × Nat)) (l : List StepD), l.length ≤ (ks.foldl (addStep p i s) l).length ∧ ∀ j (h : j < l.length) (h' : j < (ks.foldl (addStep p i s) l).length), (ks.foldl (addStep p i s) l)[j] = l[j]
 | [], l => ⟨Nat.le_refl _, fun j h h' => rfl⟩
 | a :: ks, l => by
   obtain ⟨h1, h2⟩ := add_pre p i s l a; obtain ⟨h3, h4⟩ := fold_pre p i s ks (addStep p i s l a); exact ⟨Nat.le_trans h1 h3, fun j h h' => (h4 j (Nat.lt_of_lt_of_le h h1) h').trans (h2 j h _)⟩
theorem expand_pre (p : PressD) (i : Nat) (s : StD) (l : List StepD) : l.length ≤ (expandD p i s l).length ∧ ∀ j (h : j < l.length) (h' : j < (expandD p i s l).length), (expandD p i s l)[j] = l[j] := fold_pre p i s _ l
theorem search_bfs {p : PressD} {n : Nat} {s0 : StD} (done : StD → Bool) : ∀ (f i : Nat) (l : List StepD) (dep : Nat → Nat), Bfs p n s0 i l dep → Apart l → (∀ j (h : j < l.length), j < i → done l[j].at_ = false) → i ≤ l.length → 32768 < f + i →
 ∃ dep', ((searchD p done f i l).2 = -1 ∧ Bfs p n s0 (searchD p done f i l).1.length (searchD p done f i l).1 dep' ∧ ∀ j (h : j < (searchD p done f i l).1.length), done (searchD p done f i l).1[j].at_ = false) ∨
  ∃ m : Nat, (searchD p done f i l).2 = m ∧ ∃ hm : m < (searchD p done f i l).1.length, done (searchD p done f i l).1[m].at_ = true ∧ Bfs p n s0 m (searchD p done f i l).1 dep' ∧ ∀ j (h : j < (searchD p done f i l).1.length), j < m → done (searchD p done f i l).1[j].at_ = false
 | 0, i, l, dep, b, ha, hd, hi, hf => by have := ha.len; omega
 | f + 1, i, l, dep, b, ha, hd, hi, hf => by
   by_cases hil : i < l.length
   {
   cases hdn : done l[i].at_
   {
   have e : searchD p done (f + 1) i l = searchD p done f (i + 1) (expandD p i l[i].at_ l) := by
    conv => lhs; unfold searchD
    rw [List.getElem?_eq_getElem hil]; dsimp only; rw [if_neg (by simp [hdn])]
   obtain ⟨dep', b'⟩ := b.expand hil; have hle : l.length ≤ (expandD p i l[i].at_ l).length := (expand_pre p i l[i].at_ l).1; have hpre := (expand_pre p i l[i].at_ l).2; rw [e]; refine search_bfs done f (i + 1) _ dep' b' (foldl_apart _ ha) (fun j h hji => ?_) (by omega) (by omega); have hjl : j < l.length := (by omega); rw [hpre j hjl h]
   by_cases hj : j < i
   · exact hd j hjl hj
   · obtain rfl : j = i := by omega
     exact hdn
   }
   {
   have e : searchD p done (f + 1) i l = (l, (i:Int)) := by
    unfold searchD; rw [List.getElem?_eq_getElem hil]; dsimp only; rw [if_pos hdn]
   rw [e]; exact ⟨dep, .inr ⟨i, rfl, hil, hdn, b, hd⟩⟩
   }
   }
   {
   have e : searchD p done (f + 1) i l = (l, -1) := by
    unfold searchD; rw [List.getElem?_eq_none (by omega)]
   rw [e]; obtain rfl : i = l.length := (by omega); exact ⟨dep, .inl ⟨rfl, b, fun j h => hd j h h⟩⟩
   }
end Go.Proofs.YtojobdffnnibaaaGreat
namespace Go.Proofs.YtojobdffnnibaaaGreat
set_option linter.unusedVariables false
/-- Actions, one after the other, all allowed. -/
def Run (p : PressD) : StD → List (Int × Int) → StD → Prop
 | s, [], t => s = t
 | s, a :: ac, t => actErr p s a.1 a.2 = 0 ∧ Run p (actD p s a.1 a.2) ac t
theorem Run.append {p : PressD} : ∀ {ac bs : List (Int × Int)} {s t r : StD}, Run p s ac t → Run p t bs r → Run p s (ac ++ bs) r
 | [], bs, s, t, r, h, k => by rw [show s = t from h]; exact k
 | a :: ac, bs, s, t, r, h, k => ⟨h.1, Run.append h.2 k⟩
theorem Run.prog {p : PressD} : ∀ {ac : List (Int × Int)} {s t : StD} (i : Nat), Run p s ac t → progR p s i ac = (t, i + ac.length, 0)
 | [], s, t, i, h => by rw [show s = t from h]; rfl
 | a :: ac, s, t, i, h => by
   rw [progR_ok h.1, Run.prog (i + 1) h.2, List.length_cons]
   congr 2; omega
theorem prog_run {p : PressD} : ∀ {ac : List (Int × Int)} {s : StD} {i : Nat}, (progR p s i ac).2.2 = 0 → Run p s ac (progR p s i ac).1
 | [], s, i, h => rfl
 | a :: ac, s, i, h => by
   by_cases he : actErr p s a.1 a.2 = 0
   · rw [progR_ok he] at h ⊢
     exact ⟨he, prog_run h⟩
   · rw [progR_no he] at h
     exact absurd h he
theorem err_unit {p : PressD} {s : StD} {k x : Int} (h : actErr p s k x = 0) : 1 ≤ k ∧ k ≤ 12 ∧ 0 ≤ x ∧ x.toNat < s.units.length := by
 unfold actErr at h
 split at h
 · simp at h
 {
 rename_i h1
 split at h
 · simp at h
 omega
 }
theorem follow {p : PressD} {n : Nat} {s0 : StD} {i : Nat} {l : List StepD} {dep : Nat → Nat} (b : Bfs p n s0 i l dep) (hn : n ≤ 3) : ∀ (ac : List (Int × Int)) (j : Nat) (hj : j < l.length) (s t : StD), SS l[j].at_ s → Fit n s → Run p s ac t →
 (∀ m, m < l.length → dep m < dep j + ac.length → m < i) → ∃ j', ∃ h' : j' < l.length, SS l[j'].at_ t ∧ dep j' ≤ dep j + ac.length
 | [], j, hj, s, t, hs, hf, hr, hc => ⟨j, hj, (show s = t from hr) ▸ hs, Nat.le_refl _⟩
 | a :: ac, j, hj, s, t, hs, hf, hr, hc => by
   have hji := hc j hj (by rw [List.length_cons]; omega); obtain ⟨he, hr⟩ := hr; obtain ⟨k1, k2, x1, x2⟩ := err_unit he; obtain ⟨u, hu⟩ : ∃ u : Nat, a.2 = u := ⟨a.2.toNat, by omega⟩; rw [hu] at he hr x2; have he2 : actErr p l[j].at_ a.1 u = 0 := (by rw [hs.err]; exact he); obtain ⟨j1, hj1, e1, e2⟩ := b.closed j hj hji a.1 u k1 k2 (by rw [← hf.len]; simpa using x2) he2; have f1 := b.fit j1 hj1; have f2 : Fit n (actD p l[j].at_ a.1 u) := (b.fit j hj).act _ _; have s1 : SS l[j1].at_ (actD p l[j].at_ a.1 u) := sit_ss e1 f1.dr f2.dr (f1.len.trans f2.len.symm) (by rw [f1.len]; exact hn); obtain ⟨j2, hj2, s2, d2⟩ := follow b hn ac j1 hj1 _ t (s1.trans (hs.act _ _)) (hf.act _ _) hr (fun m hm hd => hc m hm (by rw [List.length_cons]; omega)); exact ⟨j2, hj2, s2, by rw [List.length_cons]; omega⟩
theorem back_run {p : PressD} {n : Nat} {s0 : StD} {i : Nat} {l : List StepD} {dep : Nat → Nat} (b : Bfs p n s0 i l dep) : ∀ (f j : Nat) (hj : j < l.length), j < f → Run p s0 (backD l f j).reverse l[j].at_ ∧ (backD l f j).length = dep j
 | 0, j, hj, hf => by omega
 | f + 1, j, hj, hf => by
   by_cases h0 : j = 0
   {
   subst h0; obtain ⟨h1, h2⟩ := b.first hj
   have e : backD l (f + 1) ((0:Nat):Int) = [] := backD_stop (by simpa using hj) (by simp [h2]); rw [e, h1]; exact ⟨rfl, by rw [b.dep0]; rfl⟩
   }
   {
   obtain ⟨q, hq, hqj, hql, hd, he, ha⟩ := b.from_ j hj (by omega)
   have e : backD l (f + 1) (j:Int) = (l[j].kind, l[j].unit) :: backD l f q := by
    have := backD_step (l := l) (f := f) (i := (j:Int)) (by simpa using hj) (by simp [hq])
    simpa [hq] using this
   obtain ⟨r1, r2⟩ := back_run b f q hql (by omega); rw [e, List.reverse_cons]; refine ⟨r1.append ⟨he, ha.symm⟩, ?_⟩; rw [List.length_cons, r2, hd]
   }
/-- The search for a goal. -/
structure Seek (p : PressD) (s : StD) (g : GoalD) : Prop where
 none_ : (seekD p s g).2 < 0 → ∀ ac t, Run p s ac t → fulD g t = false
 some_ : 0 ≤ (seekD p s g).2 → ∃ t, Run p s (findD p s g) t ∧ fulD g t = true ∧ ∀ ac r, Run p s ac r → fulD g r = true → (findD p s g).length ≤ ac.length
theorem seek_all {p : PressD} {s : StD} (g : GoalD) (hd : 0 ≤ s.drive ∧ s.drive ≤ 2) (hl : s.units.length ≤ 3) : Seek p s g := by
 have b0 : Bfs p s.units.length s 0 [⟨s, 0, 0, -1⟩] (fun _ => 0) := by
  refine ⟨by simp, fun _ => ⟨rfl, rfl⟩, fun j h => ?_, rfl, fun j h h0 => ?_, fun j k _ _ => Nat.le_refl _, fun j _ _ => Nat.zero_le _, fun j h hj => by omega⟩
  · obtain rfl : j = 0 := by simpa using h
    exact ⟨hd, rfl⟩
  · have : j = 0 := by simpa using h
    omega
 have hap : Apart [(⟨s, 0, 0, -1⟩ : StepD)] := (by unfold Apart; simp); obtain ⟨dep, hs⟩ := search_bfs (fulD g) 40000 0 _ _ b0 hap (fun j _ h => by omega) (Nat.zero_le _) (by omega); have e : seekD p s g = searchD p (fulD g) 40000 0 [⟨s, 0, 0, -1⟩] := rfl; rw [← e] at hs; obtain ⟨r, hr⟩ : ∃ r, seekD p s g = r := ⟨_, rfl⟩; have hok := seek_ok p s g; have hfd : findD p s g = (backD r.1 40000 r.2).reverse := (by unfold findD; rw [hr]); rw [hr] at hs hok; refine ⟨fun h ac t hrun => ?_, fun h => ?_⟩
 {
 rw [hr] at h
 rcases hs with ⟨_, b, hno⟩ | ⟨m, hm, _⟩
 { obtain ⟨j', hj', ss, _⟩ := follow b hl ac 0 b.pos s t (by rw [(b.first b.pos).1]; exact SS.refl s) ⟨hd, rfl⟩ hrun (fun m hm _ => hm); have := hno j' hj'; rw [ss.ful] at this; exact this }
 omega
 }
 {
 rw [hr] at h
 rcases hs with ⟨h1, _⟩ | ⟨m, hm, hml, hdn, b, hno⟩
 omega
 {
 have hlen := hok.apart.len; obtain ⟨r1, r2⟩ := back_run b 40000 m hml (by omega); rw [hm] at hfd; rw [hfd]; refine ⟨_, r1, hdn, fun ac t hrun hful => ?_⟩; rw [List.length_reverse, r2]; apply Classical.byContradiction; intro hlt; have hlt : ac.length < dep m := by omega
 obtain ⟨j', hj', ss, hdj⟩ := follow b hl ac 0 b.pos s t (by rw [(b.first b.pos).1]; exact SS.refl s) ⟨hd, rfl⟩ hrun (fun q hq hdq => by
  rw [b.dep0] at hdq; apply Classical.byContradiction; intro hqm; have := b.mono m q (by omega) hq
  omega)
 rw [b.dep0] at hdj
 have hjm : j' < m := by
  apply Classical.byContradiction; intro hqm; have := b.mono m j' (by omega) hj'; omega
 have := hno j' hj' hjm; rw [ss.ful, hful] at this
 cases this
 }
 }
end Go.Proofs.YtojobdffnnibaaaGreat