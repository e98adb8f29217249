/- A press at work: any, open, shaped, safe. -/
import Derived.Test.YtojobdffnnibaaaGreatJ3
namespace Go.Proofs.YtojobdffnnibaaaGreat
open Go.RowKit
set_option linter.unusedVariables false
set_option linter.unusedSimpArgs false
/-- A press at work in memory. -/
structure MSt (w : World) (mb pb : Nat) (p : PressD) (s : StD) (vj vu : Value) : Prop where
 bm : Blk w mb #[.pointer (some ⟨pb, 0, none⟩), .int .i64 s.drive, .bool s.folder, vu, .int .i64 s.fresh] 139
 bp : Blk w pb #[vj, .int .i64 p.warm, .int .i64 p.tail, .int .i64 p.dirt] 34
 un : UnIn w vu s.units
 jm : Truths w vj p.jam
theorem MSt.ext {w w' : World} {mb pb : Nat} {p : PressD} {s : StD} {vj vu : Value} (h : MSt w mb pb p s vj vu) (k : Ext w w') : MSt w' mb pb p s vj vu :=
 ⟨h.bm.ext k, h.bp.ext k, h.un.ext k, Sl.ext h.jm k⟩
theorem mAny (mb : Nat) (us : List UnitD) (vu : Value) (fid : Nat) (caps : Array Value) (p : UnitD → Bool) (w : World) (hm : w.cell? ⟨mb, 3, none⟩ = some vu) (ha : UnIn w vu us) (hid : ∀ (a : Array Value) (w : World), (callFunc fid a).run Tryz.prog w = .ok (.enter fid a) w)
 (hf : ∀ u ∈ us, ∀ w1, Ext w w1 → Calls Tryz.prog fid (#[uV u] ++ caps) w1 fun e w2 => e = .returned (.bool (p u)) ∧ Ext w1 w2) :
 Calls Tryz.prog 81 #[.pointer (some ⟨mb, 0, none⟩), .func (.func fid) #[] caps] w fun e w' => e = .returned (.bool (us.any p)) ∧ Ext w w' := by
 have hc := containsFunc_any us vu fid caps p w ha hid hf; obtain ⟨a, c, rfl, _⟩ := ha.form; have HC := Hd hc; clear hc; clear ha hf hid
 go_enter Tryz.func81, Tryz.ntmps81
 go_wp2_with (go_at_call 122; refine HC.out.mono ?_; rintro e w2 ⟨rfl, hw2⟩; have HW := Hd hw2; clear hw2)
 go_ret; exact ⟨rfl, HW.out⟩
theorem mOpen (mb pb : Nat) (p : PressD) (s : StD) (vj vu : Value) (w : World) (h : MSt w mb pb p s vj vu) :
 Calls Tryz.prog 83 #[.pointer (some ⟨mb, 0, none⟩)] w fun e w' => e = .returned (.bool (opened s)) ∧ Ext w w' := by
 have c0 := h.bm.cell; have hc := mAny mb s.units vu 123 #[] (·.op) w (h.bm.cell 3) h.un (fun a w => by kernel_rfl) (fun u _ w1 _ => uOpen u w1); obtain ⟨a, c, rfl, _⟩ := h.un.form; obtain ⟨f, hf⟩ : ∃ f, s.folder = f := ⟨_, rfl⟩; have ho : opened s = (f || s.units.any (·.op)) := (by unfold opened; rw [hf]); rw [hf] at c0; have HC := Hd hc; have HO := Hd ho; clear hc ho; clear h hf
 go_enter Tryz.func83, Tryz.ntmps83
 cases f
 {
 go_wp2_with (go_at_call 81; refine HC.out.mono ?_; rintro e w2 ⟨rfl, hw2⟩; have HW := Hd hw2; clear hw2)
 go_ret; exact ⟨by rw [HO.out]; rfl, HW.out⟩
 }
 { go_wp2; go_ret; exact ⟨by rw [HO.out]; rfl, Below.refl _ _⟩ }
theorem mSafe (mb pb : Nat) (p : PressD) (s : StD) (vj vu : Value) (w : World) (h : MSt w mb pb p s vj vu) :
 Calls Tryz.prog 70 #[.pointer (some ⟨mb, 0, none⟩)] w fun e w' => e = .returned (.bool (safeD s)) ∧ Ext w w' := by
 have ho := fun w1 (k : Ext w w1) => mOpen mb pb p s vj vu w1 (h.ext k); have hp := fun w1 (k : Ext w w1) => mAny mb s.units vu 85 #[] (·.pr) w1 ((h.ext k).bm.cell 3) (h.ext k).un (fun a w => by kernel_rfl) (fun u _ w1 _ => uPressed u w1)
 have hs := fun (xb : Nat) w1 (k : Ext w w1) (hx : w1.cell? ⟨xb, 0, none⟩ = some (.pointer (some ⟨mb, 0, none⟩))) => mAny mb s.units vu 84 #[.pointer (some ⟨xb, 0, none⟩)] (fun u => u.pr && (!u.th || s.drive == 0)) w1 ((h.ext k).bm.cell 3) (h.ext k).un (fun a w => by kernel_rfl)
  (fun u _ w2 k2 => uSafe u w2 xb mb s.drive (k2.cellSome hx) ((h.ext (k.tr k2)).bm.cell 1))
 obtain ⟨a, c, hvu, _⟩ := h.un.form; obtain ⟨bo, hbo⟩ : ∃ b, opened s = b := ⟨_, rfl⟩; obtain ⟨bp, hbp⟩ : ∃ b, s.units.any (·.pr) = b := ⟨_, rfl⟩; obtain ⟨bs, hbs⟩ : ∃ b, (s.units.any fun u => u.pr && (!u.th || s.drive == 0)) = b := ⟨_, rfl⟩; obtain ⟨dr, hdr⟩ : ∃ d, s.drive = d := ⟨_, rfl⟩; have hd : safeD s = (!(dr != 0 && bo) && !bs && (dr != 2 || bp)) := (by unfold safeD anyPr; rw [hbo, hbs, hbp, hdr]); rw [hbo] at ho; rw [hbp] at hp; rw [hbs] at hs; have hm := h.bm; rw [hdr] at hm; have HOP := Hd ho; have HPR := Hd hp; have HSF := Hd hs; have HD := Hd hd; have HM := Hd hm; clear ho hp hs hd hm; clear h hbo hbp hbs hdr
 go_enter Tryz.func70, Tryz.ntmps70
 go_upto_region 1 with (
  (with_reducible refine wpList_box1 (t := 83) (v := .pointer (some ⟨mb, 0, none⟩)) rfl rfl rfl rfl ?_); rintro xb w1 hx1 hx2 hx3; have c1 : w1.cell? ⟨xb, 0, none⟩ = some (.pointer (some ⟨mb, 0, none⟩)) := hx1.cell 0; have c2 : w1.cell? ⟨mb, 1, none⟩ = some (.int .i64 dr) := (HM.out.ext hx2).cell 1; have XB := Hd hx1; have X1 := Hd hx2; clear hx1 hx2
  clear hx3)
 have e3 : ∀ b : Bool, (b && false) = false := fun b => (by cases b <;> rfl); clear e3
 by_cases d0 : dr = 0
 {
 have HE : Hid (safeD s = !bs) := (by rw [HD.out, d0]; cases bs <;> rfl); have f0 : (dr != 0) = false := (by simp [d0]); have f2 : (dr != 2) = true := (by simp [d0]); clear d0 HD
 cases bs
 all_goals
  go_wp2_with (first
   | (have hgd := HOP.out
      go_at_call 83; refine (hgd _ X1.out).mono ?_; rintro e w2 ⟨rfl, hw2⟩; clear HOP; have x2 := Hd (X1.out.tr hw2); have xb2 := Hd (XB.out.ext hw2); have d1 : w2.cell? ⟨xb, 0, none⟩ = some (.pointer (some ⟨mb, 0, none⟩)) := xb2.out.cell 0; have d2 : w2.cell? ⟨mb, 1, none⟩ = some (.int .i64 dr) := (HM.out.ext x2.out).cell 1; clear X1 XB c1 c2 hw2 hgd; have X1 := x2; have XB := xb2; have c1 := d1; have c2 := d2
      clear x2 xb2 d1 d2)
   | (have hgd := HSF.out
      go_at_call 81; refine (hgd xb _ X1.out c1).mono ?_; rintro e w2 ⟨rfl, hw2⟩; clear HSF; have x2 := Hd (X1.out.tr hw2); have xb2 := Hd (XB.out.ext hw2); have d1 : w2.cell? ⟨xb, 0, none⟩ = some (.pointer (some ⟨mb, 0, none⟩)) := xb2.out.cell 0; have d2 : w2.cell? ⟨mb, 1, none⟩ = some (.int .i64 dr) := (HM.out.ext x2.out).cell 1; clear X1 XB c1 c2 hw2 hgd; have X1 := x2; have XB := xb2; have c1 := d1; have c2 := d2
      clear x2 xb2 d1 d2)
   | (have hgd := HPR.out
      go_at_call 81; refine (hgd _ X1.out).mono ?_; rintro e w2 ⟨rfl, hw2⟩; clear HPR; have x2 := Hd (X1.out.tr hw2); have xb2 := Hd (XB.out.ext hw2); have d1 : w2.cell? ⟨xb, 0, none⟩ = some (.pointer (some ⟨mb, 0, none⟩)) := xb2.out.cell 0; have d2 : w2.cell? ⟨mb, 1, none⟩ = some (.int .i64 dr) := (HM.out.ext x2.out).cell 1; clear X1 XB c1 c2 hw2 hgd; have X1 := x2; have XB := xb2; have c1 := d1; have c2 := d2
      clear x2 xb2 d1 d2))
  go_ret; exact ⟨by rw [HE.out]; rfl, X1.out⟩
 }
 {
 have f0 : (dr != 0) = true := by simp [d0]
 cases bo
 {
 by_cases d2 : dr = 2
 {
 have HE : Hid (safeD s = (!bs && bp)) := (by rw [HD.out, d2]; cases bs <;> cases bp <;> rfl); have f2 : (dr != 2) = false := (by simp [d2]); clear d0 d2 HD
 cases bs
 {
 cases bp
 all_goals
  go_wp2_with (first
   | (have hgd := HOP.out
      go_at_call 83; refine (hgd _ X1.out).mono ?_; rintro e w2 ⟨rfl, hw2⟩; clear HOP; have x2 := Hd (X1.out.tr hw2); have xb2 := Hd (XB.out.ext hw2); have d1 : w2.cell? ⟨xb, 0, none⟩ = some (.pointer (some ⟨mb, 0, none⟩)) := xb2.out.cell 0; have d2 : w2.cell? ⟨mb, 1, none⟩ = some (.int .i64 dr) := (HM.out.ext x2.out).cell 1; clear X1 XB c1 c2 hw2 hgd; have X1 := x2; have XB := xb2; have c1 := d1; have c2 := d2
      clear x2 xb2 d1 d2)
   | (have hgd := HSF.out
      go_at_call 81; refine (hgd xb _ X1.out c1).mono ?_; rintro e w2 ⟨rfl, hw2⟩; clear HSF; have x2 := Hd (X1.out.tr hw2); have xb2 := Hd (XB.out.ext hw2); have d1 : w2.cell? ⟨xb, 0, none⟩ = some (.pointer (some ⟨mb, 0, none⟩)) := xb2.out.cell 0; have d2 : w2.cell? ⟨mb, 1, none⟩ = some (.int .i64 dr) := (HM.out.ext x2.out).cell 1; clear X1 XB c1 c2 hw2 hgd; have X1 := x2; have XB := xb2; have c1 := d1; have c2 := d2
      clear x2 xb2 d1 d2)
   | (have hgd := HPR.out
      go_at_call 81; refine (hgd _ X1.out).mono ?_; rintro e w2 ⟨rfl, hw2⟩; clear HPR; have x2 := Hd (X1.out.tr hw2); have xb2 := Hd (XB.out.ext hw2); have d1 : w2.cell? ⟨xb, 0, none⟩ = some (.pointer (some ⟨mb, 0, none⟩)) := xb2.out.cell 0; have d2 : w2.cell? ⟨mb, 1, none⟩ = some (.int .i64 dr) := (HM.out.ext x2.out).cell 1; clear X1 XB c1 c2 hw2 hgd; have X1 := x2; have XB := xb2; have c1 := d1; have c2 := d2
      clear x2 xb2 d1 d2))
  go_ret; exact ⟨by rw [HE.out]; rfl, X1.out⟩
 }
 {
 go_wp2_with (first
  | (have hgd := HOP.out
     go_at_call 83; refine (hgd _ X1.out).mono ?_; rintro e w2 ⟨rfl, hw2⟩; clear HOP; have x2 := Hd (X1.out.tr hw2); have xb2 := Hd (XB.out.ext hw2); have d1 : w2.cell? ⟨xb, 0, none⟩ = some (.pointer (some ⟨mb, 0, none⟩)) := xb2.out.cell 0; have d2 : w2.cell? ⟨mb, 1, none⟩ = some (.int .i64 dr) := (HM.out.ext x2.out).cell 1; clear X1 XB c1 c2 hw2 hgd; have X1 := x2; have XB := xb2; have c1 := d1; have c2 := d2
     clear x2 xb2 d1 d2)
  | (have hgd := HSF.out
     go_at_call 81; refine (hgd xb _ X1.out c1).mono ?_; rintro e w2 ⟨rfl, hw2⟩; clear HSF; have x2 := Hd (X1.out.tr hw2); have xb2 := Hd (XB.out.ext hw2); have d1 : w2.cell? ⟨xb, 0, none⟩ = some (.pointer (some ⟨mb, 0, none⟩)) := xb2.out.cell 0; have d2 : w2.cell? ⟨mb, 1, none⟩ = some (.int .i64 dr) := (HM.out.ext x2.out).cell 1; clear X1 XB c1 c2 hw2 hgd; have X1 := x2; have XB := xb2; have c1 := d1; have c2 := d2
     clear x2 xb2 d1 d2)
  | (have hgd := HPR.out
     go_at_call 81; refine (hgd _ X1.out).mono ?_; rintro e w2 ⟨rfl, hw2⟩; clear HPR; have x2 := Hd (X1.out.tr hw2); have xb2 := Hd (XB.out.ext hw2); have d1 : w2.cell? ⟨xb, 0, none⟩ = some (.pointer (some ⟨mb, 0, none⟩)) := xb2.out.cell 0; have d2 : w2.cell? ⟨mb, 1, none⟩ = some (.int .i64 dr) := (HM.out.ext x2.out).cell 1; clear X1 XB c1 c2 hw2 hgd; have X1 := x2; have XB := xb2; have c1 := d1; have c2 := d2
     clear x2 xb2 d1 d2))
 go_ret; exact ⟨by rw [HE.out]; rfl, X1.out⟩
 }
 }
 {
 have HE : Hid (safeD s = !bs) := (by rw [HD.out, show (dr != 2) = true by simp [d2], f0]; cases bs <;> rfl); have f2 : (dr != 2) = true := (by simp [d2]); clear d0 d2 HD
 cases bs
 all_goals
  go_wp2_with (first
   | (have hgd := HOP.out
      go_at_call 83; refine (hgd _ X1.out).mono ?_; rintro e w2 ⟨rfl, hw2⟩; clear HOP; have x2 := Hd (X1.out.tr hw2); have xb2 := Hd (XB.out.ext hw2); have d1 : w2.cell? ⟨xb, 0, none⟩ = some (.pointer (some ⟨mb, 0, none⟩)) := xb2.out.cell 0; have d2 : w2.cell? ⟨mb, 1, none⟩ = some (.int .i64 dr) := (HM.out.ext x2.out).cell 1; clear X1 XB c1 c2 hw2 hgd; have X1 := x2; have XB := xb2; have c1 := d1; have c2 := d2
      clear x2 xb2 d1 d2)
   | (have hgd := HSF.out
      go_at_call 81; refine (hgd xb _ X1.out c1).mono ?_; rintro e w2 ⟨rfl, hw2⟩; clear HSF; have x2 := Hd (X1.out.tr hw2); have xb2 := Hd (XB.out.ext hw2); have d1 : w2.cell? ⟨xb, 0, none⟩ = some (.pointer (some ⟨mb, 0, none⟩)) := xb2.out.cell 0; have d2 : w2.cell? ⟨mb, 1, none⟩ = some (.int .i64 dr) := (HM.out.ext x2.out).cell 1; clear X1 XB c1 c2 hw2 hgd; have X1 := x2; have XB := xb2; have c1 := d1; have c2 := d2
      clear x2 xb2 d1 d2)
   | (have hgd := HPR.out
      go_at_call 81; refine (hgd _ X1.out).mono ?_; rintro e w2 ⟨rfl, hw2⟩; clear HPR; have x2 := Hd (X1.out.tr hw2); have xb2 := Hd (XB.out.ext hw2); have d1 : w2.cell? ⟨xb, 0, none⟩ = some (.pointer (some ⟨mb, 0, none⟩)) := xb2.out.cell 0; have d2 : w2.cell? ⟨mb, 1, none⟩ = some (.int .i64 dr) := (HM.out.ext x2.out).cell 1; clear X1 XB c1 c2 hw2 hgd; have X1 := x2; have XB := xb2; have c1 := d1; have c2 := d2
      clear x2 xb2 d1 d2))
  go_ret; exact ⟨by rw [HE.out]; rfl, X1.out⟩
 }
 }
 {
 have HE : Hid (safeD s = false) := (by rw [HD.out, f0]; rfl); clear d0 HD
 go_wp2_with (first
  | (have hgd := HOP.out
     go_at_call 83; refine (hgd _ X1.out).mono ?_; rintro e w2 ⟨rfl, hw2⟩; clear HOP; have x2 := Hd (X1.out.tr hw2); have xb2 := Hd (XB.out.ext hw2); have d1 : w2.cell? ⟨xb, 0, none⟩ = some (.pointer (some ⟨mb, 0, none⟩)) := xb2.out.cell 0; have d2 : w2.cell? ⟨mb, 1, none⟩ = some (.int .i64 dr) := (HM.out.ext x2.out).cell 1; clear X1 XB c1 c2 hw2 hgd; have X1 := x2; have XB := xb2; have c1 := d1; have c2 := d2
     clear x2 xb2 d1 d2)
  | (have hgd := HSF.out
     go_at_call 81; refine (hgd xb _ X1.out c1).mono ?_; rintro e w2 ⟨rfl, hw2⟩; clear HSF; have x2 := Hd (X1.out.tr hw2); have xb2 := Hd (XB.out.ext hw2); have d1 : w2.cell? ⟨xb, 0, none⟩ = some (.pointer (some ⟨mb, 0, none⟩)) := xb2.out.cell 0; have d2 : w2.cell? ⟨mb, 1, none⟩ = some (.int .i64 dr) := (HM.out.ext x2.out).cell 1; clear X1 XB c1 c2 hw2 hgd; have X1 := x2; have XB := xb2; have c1 := d1; have c2 := d2
     clear x2 xb2 d1 d2)
  | (have hgd := HPR.out
     go_at_call 81; refine (hgd _ X1.out).mono ?_; rintro e w2 ⟨rfl, hw2⟩; clear HPR; have x2 := Hd (X1.out.tr hw2); have xb2 := Hd (XB.out.ext hw2); have d1 : w2.cell? ⟨xb, 0, none⟩ = some (.pointer (some ⟨mb, 0, none⟩)) := xb2.out.cell 0; have d2 : w2.cell? ⟨mb, 1, none⟩ = some (.int .i64 dr) := (HM.out.ext x2.out).cell 1; clear X1 XB c1 c2 hw2 hgd; have X1 := x2; have XB := xb2; have c1 := d1; have c2 := d2
     clear x2 xb2 d1 d2))
 go_ret; exact ⟨by rw [HE.out]; rfl, X1.out⟩
 }
 }
set_option maxRecDepth 100000 in
set_option maxHeartbeats 2000000 in
theorem mShaped (mb pb : Nat) (p : PressD) (s : StD) (vj vu : Value) (w : World) (h : MSt w mb pb p s vj vu) :
 Calls Tryz.prog 69 #[.pointer (some ⟨mb, 0, none⟩)] w fun e w' => e = .returned (.bool (shapedD p s)) ∧ Ext w w' := by
 have hi := fun w1 (k : Ext w w1) => mAny mb s.units vu 82 #[] (fun u => !inB u.ink 0 1000000) w1 ((h.ext k).bm.cell 3) (h.ext k).un (fun a w => by kernel_rfl) (fun u _ w1 _ => uInk u w1); obtain ⟨a, c, rfl, _⟩ := h.un.form; obtain ⟨_, aj, cj, hvj, _⟩ := h.jm; rw [List.length_map] at hvj; subst hvj; obtain ⟨b4, hb4⟩ : ∃ b, (s.units.any fun u => !inB u.ink 0 1000000) = b := ⟨_, rfl⟩; obtain ⟨dr, hdr⟩ : ∃ d, s.drive = d := ⟨_, rfl⟩; obtain ⟨fr, hfr⟩ : ∃ d, s.fresh = d := ⟨_, rfl⟩
 have hd : shapedD p s = ((s.units.length == p.jam.length) && inB dr 0 2 && inB fr 0 1000000 && !(dr != 2 && fr != 0) && !b4) := by
  rw [← hb4, ← hdr, ← hfr]; unfold shapedD okInk inB; rw [List.all_eq_not_any_not]
 rw [hb4] at hi; have hm := h.bm; have hp := h.bp; rw [hdr, hfr] at hm; have c0 := hm.cell; have c1 := hp.cell; have HI := Hd hi; have HD := Hd hd; have HBM := Hd hm; have HBP := Hd hp; clear hi hd hm hp; clear h hb4 hdr hfr
 go_enter Tryz.func69, Tryz.ntmps69
 go_upto_region 1 with (fail)
 have x0 : Ext w w.drew := Ext.of_drewN w 1; have d0 : ∀ i, w.drew.cell? ⟨mb, i, none⟩ = _ := (Blk.ext HBM.out x0).cell; have d1 : ∀ i, w.drew.cell? ⟨pb, i, none⟩ = _ := (Blk.ext HBP.out x0).cell; clear c0 c1; have c0 := d0; have c1 := d1; clear d0 d1; refine wp_region_K (fun wx => (∀ i, wx.cell? ⟨mb, i, none⟩ = (#[.pointer (some ⟨pb, 0, none⟩), .int .i64 dr, .bool s.folder, .slice a s.units.length c, .int .i64 fr] : Array Value)[i]?) ∧ (∀ i, wx.cell? ⟨pb, i, none⟩ = (#[.slice aj p.jam.length cj, .int .i64 p.warm, .int .i64 p.tail, .int .i64 p.dirt] : Array Value)[i]?)) 49 (by kernel_rfl) ⟨c0, c1⟩ (fun kh => ?_); have X0 := Hd x0; clear x0; generalize w.drew = wA at *
 by_cases h1 : s.units.length = p.jam.length
 {
 have e1 : ((s.units.length:Int) != (p.jam.length:Int)) = false := (by simp [h1]); have e1n : (s.units.length != p.jam.length) = false := (by simp [h1]); have e0 : (s.units.length == p.jam.length) = true := (by simp [h1]); have E0 := Hd e0; clear e0; refine kX 0 kh ?_; simp only [kS]; refine kX 1 kh ?_; simp only [kS]; refine kX 2 kh ?_; simp only [kS]; refine kX 3 kh ?_; simp only [kS]; refine kX 4 kh ?_; simp only [kS]; refine kX 5 kh ?_; simp only [kS]; refine kX 6 kh ?_; simp only [kS]; refine kX 7 kh ?_; simp only [kS]; refine kX 8 kh ?_; simp only [kS]; refine kX 9 kh ?_; simp only [kS]; refine kX 10 kh ?_; simp only [kS]; refine kX 11 kh ?_; simp only [kS]; refine kX 12 kh ?_; simp only [kS]; refine kX 13 kh ?_; simp only [kS]; refine kX 14 kh ?_; simp only [kS]; refine kX 15 kh ?_; simp only [kS]; refine kX 16 kh ?_; simp only [kS]; refine kX 17 kh ?_; simp only [kS]; refine kX 18 kh ?_; simp only [kS]; refine kX 19 kh ?_; simp only [kS]; refine kX 20 kh ?_; simp only [kS]
 by_cases h2 : inB dr 0 2 = true
 {
 skip; refine rK [21] ?_; refine xK 21 (fun K hK => ?_) ?_
 {
 refine cK #[.int .i64 dr, .int .i64 0, .int .i64 2] Tryz.func66 (in_any dr 0 2 wA) ?_; rintro e wy ⟨rfl, rfl⟩; refine ⟨_, rfl, ?_⟩; rw [h2]; refine kG hK ⟨c0, c1⟩ fun kh => ?_; (try simp only [kS]); refine kX 22 kh ?_; simp only [kS]; refine kX 23 kh ?_; simp only [kS]; refine kX 24 kh ?_; simp only [kS]; refine kX 25 kh ?_; simp only [kS]; refine kX 26 kh ?_; simp only [kS]; refine kX 27 kh ?_; simp only [kS]; refine kX 28 kh ?_; simp only [kS]; refine kX 29 kh ?_; simp only [kS]
 by_cases h3 : inB fr 0 1000000 = true
 {
 skip; refine rK [30] ?_; refine xK 30 (fun K hK => ?_) ?_
 {
 refine cK #[.int .i64 fr, .int .i64 0, .int .i64 1000000] Tryz.func66 (in_any fr 0 1000000 wA) ?_; rintro e wy ⟨rfl, rfl⟩; refine ⟨_, rfl, ?_⟩; rw [h3]; refine kG hK ⟨c0, c1⟩ fun kh => ?_; (try simp only [kS]); refine kX 31 kh ?_; simp only [kS]; refine kX 32 kh ?_; simp only [kS]; refine kX 33 kh ?_; simp only [kS]; refine kX 34 kh ?_; simp only [kS]; refine kX 35 kh ?_; simp only [kS]; refine kX 36 kh ?_; simp only [kS]; refine kX 37 kh ?_; simp only [kS]; refine kX 38 kh ?_; simp only [kS]; refine kX 39 kh ?_; simp only [kS]
 by_cases h4 : dr = 2
 {
 have f1 : (dr != 2) = false := (by simp [h4]); have he : shapedD p s = !b4 := (by rw [HD.out, E0.out, h2, h3, f1]; rfl); have HE := Hd he; clear he; clear HD h1 h2 h3 h4; refine kX 40 kh ?_; simp only [kS]; refine kV (i := 41) kh ?_; simp only [kS]; refine kV (i := 42) kh ?_; simp only [kS]; refine kV (i := 43) kh ?_; simp only [kS]; refine kV (i := 44) kh ?_; simp only [kS]; refine kV (i := 45) kh ?_; simp only [kS]; refine kV (i := 46) kh ?_; simp only [kS]; refine kX 47 kh ?_; simp only [kS]; refine rK [48] ?_; refine xK 48 (fun K hK => ?_) ?_
 {
 go_simp; refine kG hK ⟨c0, c1⟩ fun kh => ?_; (try simp only [kS]); refine dK ?_ _
 go_wp2_with (go_at_call 81; refine (HI.out _ X0.out).mono ?_; rintro e w2 ⟨rfl, hw2⟩; have X2 := Hd (X0.out.tr hw2); clear hw2)
 go_ret; exact ⟨ret_bool (by rw [HE.out]), X2.out⟩
 }
 exact nK
 }
 {
 have f1 : (dr != 2) = true := (by simp [h4]); refine kX 40 kh ?_; simp only [kS]; refine kX 41 kh ?_; simp only [kS]; refine kX 42 kh ?_; simp only [kS]; refine kX 43 kh ?_; simp only [kS]; refine kX 44 kh ?_; simp only [kS]; refine kX 45 kh ?_; simp only [kS]; refine kX 46 kh ?_; simp only [kS]
 by_cases h5 : fr = 0
 {
 have f2 : (fr != 0) = false := (by simp [h5]); have he : shapedD p s = !b4 := (by rw [HD.out, E0.out, h2, h3, f1, f2]; rfl); have HE := Hd he; clear he; clear HD h1 h2 h3 h4 h5; refine kX 47 kh ?_; simp only [kS]; refine rK [48] ?_; refine xK 48 (fun K hK => ?_) ?_
 {
 go_simp; refine kG hK ⟨c0, c1⟩ fun kh => ?_; (try simp only [kS]); refine dK ?_ _
 go_wp2_with (go_at_call 81; refine (HI.out _ X0.out).mono ?_; rintro e w2 ⟨rfl, hw2⟩; have X2 := Hd (X0.out.tr hw2); clear hw2)
 go_ret; exact ⟨ret_bool (by rw [HE.out]), X2.out⟩
 }
 exact nK
 }
 {
 have f2 : (fr != 0) = true := (by simp [h5]); have he : shapedD p s = false := (by rw [HD.out, f1, f2]; simp); have HE := Hd he; clear he; clear HD h1 h2 h3 h4 h5; refine kX 47 kh ?_; simp only [kS]; refine rK [48] ?_; refine xK 48 (fun K hK => ?_) ?_
 { go_simp; refine kG hK ⟨c0, c1⟩ fun kh => ?_; (try simp only [kS]); refine dK ?_ _; go_wp2; go_ret; exact ⟨ret_bool (by rw [HE.out]), X0.out⟩ }
 exact nK
 }
 }
 }
 exact nK
 }
 {
 have h3' : inB fr 0 1000000 = false := (by simpa using h3); have he : shapedD p s = false := (by rw [HD.out, h3']; simp); have HE := Hd he; clear he; clear HD h1 h3; refine rK [30] ?_; refine xK 30 (fun K hK => ?_) ?_
 {
 refine cK #[.int .i64 fr, .int .i64 0, .int .i64 1000000] Tryz.func66 (in_any fr 0 1000000 wA) ?_; rintro e wy ⟨rfl, rfl⟩; refine ⟨_, rfl, ?_⟩; rw [h3']; refine kG hK ⟨c0, c1⟩ fun kh => ?_; (try simp only [kS]); refine kX 31 kh ?_; simp only [kS]; refine kX 32 kh ?_; simp only [kS]; refine kX 33 kh ?_; simp only [kS]; refine kV (i := 34) kh ?_; simp only [kS]; refine kV (i := 35) kh ?_; simp only [kS]; refine kV (i := 36) kh ?_; simp only [kS]; refine kV (i := 37) kh ?_; simp only [kS]; refine kV (i := 38) kh ?_; simp only [kS]; refine kV (i := 39) kh ?_; simp only [kS]; refine kV (i := 40) kh ?_; simp only [kS]; refine kV (i := 41) kh ?_; simp only [kS]; refine kV (i := 42) kh ?_; simp only [kS]; refine kV (i := 43) kh ?_; simp only [kS]; refine kV (i := 44) kh ?_; simp only [kS]; refine kV (i := 45) kh ?_; simp only [kS]; refine kV (i := 46) kh ?_; simp only [kS]; refine kV (i := 47) kh ?_; simp only [kS]; refine rK [48] ?_; refine xK 48 (fun K hK => ?_) ?_
 { go_simp; refine kG hK ⟨c0, c1⟩ fun kh => ?_; (try simp only [kS]); refine dK ?_ _; go_wp2; go_ret; exact ⟨ret_bool (by rw [HE.out]), X0.out⟩ }
 exact nK
 }
 exact nK
 }
 }
 exact nK
 }
 {
 have h2' : inB dr 0 2 = false := (by simpa using h2); have he : shapedD p s = false := (by rw [HD.out, h2']; simp); have HE := Hd he; clear he; clear HD h1 h2; refine rK [21] ?_; refine xK 21 (fun K hK => ?_) ?_
 {
 refine cK #[.int .i64 dr, .int .i64 0, .int .i64 2] Tryz.func66 (in_any dr 0 2 wA) ?_; rintro e wy ⟨rfl, rfl⟩; refine ⟨_, rfl, ?_⟩; rw [h2']; refine kG hK ⟨c0, c1⟩ fun kh => ?_; (try simp only [kS]); refine kX 22 kh ?_; simp only [kS]; refine kX 23 kh ?_; simp only [kS]; refine kX 24 kh ?_; simp only [kS]; refine kV (i := 25) kh ?_; simp only [kS]; refine kV (i := 26) kh ?_; simp only [kS]; refine kV (i := 27) kh ?_; simp only [kS]; refine kV (i := 28) kh ?_; simp only [kS]; refine kV (i := 29) kh ?_; simp only [kS]; refine kV (i := 30) kh ?_; simp only [kS]; refine kV (i := 31) kh ?_; simp only [kS]; refine kX 32 kh ?_; simp only [kS]; refine kX 33 kh ?_; simp only [kS]; refine kV (i := 34) kh ?_; simp only [kS]; refine kV (i := 35) kh ?_; simp only [kS]; refine kV (i := 36) kh ?_; simp only [kS]; refine kV (i := 37) kh ?_; simp only [kS]; refine kV (i := 38) kh ?_; simp only [kS]; refine kV (i := 39) kh ?_; simp only [kS]; refine kV (i := 40) kh ?_; simp only [kS]; refine kV (i := 41) kh ?_; simp only [kS]; refine kV (i := 42) kh ?_; simp only [kS]; refine kV (i := 43) kh ?_; simp only [kS]; refine kV (i := 44) kh ?_; simp only [kS]; refine kV (i := 45) kh ?_; simp only [kS]; refine kV (i := 46) kh ?_; simp only [kS]; refine kV (i := 47) kh ?_; simp only [kS]; refine rK [48] ?_; refine xK 48 (fun K hK => ?_) ?_
 { go_simp; refine kG hK ⟨c0, c1⟩ fun kh => ?_; (try simp only [kS]); refine dK ?_ _; go_wp2; go_ret; exact ⟨ret_bool (by rw [HE.out]), X0.out⟩ }
 exact nK
 }
 exact nK
 }
 }
 {
 have e1 : ((s.units.length:Int) != (p.jam.length:Int)) = true := (by simp; omega); have e1n : (s.units.length != p.jam.length) = true := (by simp [h1]); have he : shapedD p s = false := (by rw [HD.out, show (s.units.length == p.jam.length) = false from beq_eq_false_iff_ne.2 h1]; rfl); have HE := Hd he; clear he; clear HD h1; refine kX 0 kh ?_; simp only [kS]; refine kX 1 kh ?_; simp only [kS]; refine kX 2 kh ?_; simp only [kS]; refine kX 3 kh ?_; simp only [kS]; refine kX 4 kh ?_; simp only [kS]; refine kX 5 kh ?_; simp only [kS]; refine kX 6 kh ?_; simp only [kS]; refine kX 7 kh ?_; simp only [kS]; refine kX 8 kh ?_; simp only [kS]; refine kX 9 kh ?_; simp only [kS]; refine kX 10 kh ?_; simp only [kS]; refine kX 11 kh ?_; simp only [kS]; refine kX 12 kh ?_; simp only [kS]; refine kX 13 kh ?_; simp only [kS]; refine kX 14 kh ?_; simp only [kS]; refine kX 15 kh ?_; simp only [kS]; refine kV (i := 16) kh ?_; simp only [kS]; refine kV (i := 17) kh ?_; simp only [kS]; refine kV (i := 18) kh ?_; simp only [kS]; refine kV (i := 19) kh ?_; simp only [kS]; refine kV (i := 20) kh ?_; simp only [kS]; refine kV (i := 21) kh ?_; simp only [kS]; refine kV (i := 22) kh ?_; simp only [kS]; refine kX 23 kh ?_; simp only [kS]; refine kX 24 kh ?_; simp only [kS]; refine kV (i := 25) kh ?_; simp only [kS]; refine kV (i := 26) kh ?_; simp only [kS]; refine kV (i := 27) kh ?_; simp only [kS]; refine kV (i := 28) kh ?_; simp only [kS]; refine kV (i := 29) kh ?_; simp only [kS]; refine kV (i := 30) kh ?_; simp only [kS]; refine kV (i := 31) kh ?_; simp only [kS]; refine kX 32 kh ?_; simp only [kS]; refine kX 33 kh ?_; simp only [kS]; refine kV (i := 34) kh ?_; simp only [kS]; refine kV (i := 35) kh ?_; simp only [kS]; refine kV (i := 36) kh ?_; simp only [kS]; refine kV (i := 37) kh ?_; simp only [kS]; refine kV (i := 38) kh ?_; simp only [kS]; refine kV (i := 39) kh ?_; simp only [kS]; refine kV (i := 40) kh ?_; simp only [kS]; refine kV (i := 41) kh ?_; simp only [kS]; refine kV (i := 42) kh ?_; simp only [kS]; refine kV (i := 43) kh ?_; simp only [kS]; refine kV (i := 44) kh ?_; simp only [kS]; refine kV (i := 45) kh ?_; simp only [kS]; refine kV (i := 46) kh ?_; simp only [kS]; refine kV (i := 47) kh ?_; simp only [kS]; refine rK [48] ?_; refine xK 48 (fun K hK => ?_) ?_
 { go_simp; refine kG hK ⟨c0, c1⟩ fun kh => ?_; (try simp only [kS]); refine dK ?_ _; go_wp2; go_ret; exact ⟨ret_bool (by rw [HE.out]), X0.out⟩ }
 exact nK
 }
end Go.Proofs.YtojobdffnnibaaaGreat