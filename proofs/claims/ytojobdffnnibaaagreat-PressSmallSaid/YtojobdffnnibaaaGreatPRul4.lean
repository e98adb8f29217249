/- What the rule of Wash tests. -/
import Derived.Test.YtojobdffnnibaaaGreatJ6
import Derived.Test.YtojobdffnnibaaaGreatJ4
import Derived.BigQuiet
import Derived.LaidEqlPtr
namespace Go.Proofs.YtojobdffnnibaaaGreat
open Go.RowKit
set_option linter.unusedVariables false
set_option linter.unusedSimpArgs false
theorem uPtr : Tryz.prog.underlying 143 = some (.pointer 82) := by kernel_rfl
theorem isU (ub i j xb : Nat) (w : World) (hx : w.cell? ⟨xb, 0, none⟩ = some (.pointer (some ⟨ub, i * 5, none⟩))) (hb : ∃ cs, Blk w ub cs 82) :
 Calls Tryz.prog 96 #[.pointer (some ⟨ub, j * 5, none⟩), .pointer (some ⟨xb, 0, none⟩)] w fun e w' => e = .returned (.bool (decide (j = i))) ∧ Ext w w' := by
 obtain ⟨cs, hb⟩ := hb; obtain ⟨inf, hinf, hp⟩ := Option.map_eq_some_iff.1 tUnits.info; simp only [Prod.mk.injEq] at hp; have hsz : inf.size ≠ 0 := by rw [hp.2.1]; decide
 by_cases h : j = i
 {
 subst h; have q0 := run_eql_ptr_same w (⟨ub, j * 5, none⟩ : Addr) uPtr hinf; clear hb hinf hp hsz
 go_enter Tryz.func96, Tryz.ntmps96
 go_wp2; go_ret; exact ⟨ret_bool (by simp), Below.refl _ _⟩
 }
 {
 have q0 := run_eql_ptr_other w (a := (⟨ub, j * 5, none⟩ : Addr)) (b := ⟨ub, i * 5, none⟩) uPtr hinf hsz (fun e => by
  have e2 : j * 5 = i * 5 := congrArg Addr.off e
  omega) hb hb
 clear hb hinf hp hsz
 go_enter Tryz.func96, Tryz.ntmps96
 go_wp2; go_ret; exact ⟨ret_bool (by simp [h]), Below.refl _ _⟩
 }
set_option maxRecDepth 100000 in
set_option maxHeartbeats 2000000 in
theorem idxP (ub n i xb B : Nat) (va : Value) (w : World) (hv : w.ownsRow B 143 1 va n (ptrL ub n)) (hx : w.cell? ⟨xb, 0, none⟩ = some (.pointer (some ⟨ub, i * 5, none⟩))) (hi : i < n) (hn : n ≤ 1000000) (hb : ∃ cs, Blk w ub cs 82) :
 Calls Tryz.prog 95 #[va, .func (.func 96) #[] #[.pointer (some ⟨xb, 0, none⟩)]] w fun e w' => e = .returned (.int .i64 i) ∧ Ext w w' := by
 obtain ⟨g, c, rfl, hc⟩ := owns_pos hv (by omega); have HC := Hd hc; have HXX := Hd hx; have HN := Hd hn; have HBU := Hd hb; clear hc hx hn hb; clear hv
 go_enter Tryz.func95, Tryz.ntmps95
 go_wp2
 go_loopw [8] (fun t8 wr => ∃ k : Nat, k ≤ i ∧ t8 = .int .i64 k ∧ Hid (Ext w wr)) (fun t8 _ => n - (intOf t8).toNat)
 case atStart => exact ⟨0, by omega, rfl, Below.refl _ _⟩
 case round =>
  obtain ⟨k, hk, rfl, HX⟩ := hrel; have hkb : k < 1000000 := (by have := HN.out; omega); have hlt : k < n := (by omega); have c9 := HX.out.cellSome (HC.out k (.pointer (some ⟨ub, k * 5, none⟩)) (by unfold ptrL; simp [hlt])); have i1 : (0:Int) ≤ (k:Int) := (by omega); have i2 : (k:Int) < (n:Int) := (by omega); have hcl := isU ub i k xb wr (HX.out.cellSome HXX.out) (by obtain ⟨cs, h⟩ := HBU.out; exact ⟨cs, h.ext HX.out⟩)
  by_cases hki : k = i
  {
  subst hki; have e : decide (k = k) = true := (by simp); rw [e] at hcl; have HCL := Hd hcl; clear hcl; clear e
  go_wp2_with (go_at_call 96; refine HCL.out.mono ?_; rintro e w2 ⟨rfl, hw2⟩; have HW := Hd (HX.out.tr hw2); clear hw2)
  go_ret; exact ⟨rfl, HW.out⟩
  }
  {
  have e : decide (k = i) = false := (by simp [hki]); rw [e] at hcl; have HCL := Hd hcl; clear hcl; clear e
  go_wp2_with (go_at_call 96; refine HCL.out.mono ?_; rintro e w2 ⟨rfl, hw2⟩; have HW := Hd (HX.out.tr hw2); clear hw2)
  go_roundw
  case rel => exact ⟨k + 1, by omega, by go_num, HW⟩
  case measure => simp [intOf] <;> omega
  }
section
variable {B : Nat} {w : World} {mb pb ub c : Nat} {p : PressD} {s : StD} {vj : Value} {i : Nat}
set_option maxRecDepth 100000 in
set_option maxHeartbeats 2000000 in
theorem ok4 (h : MOw B w mb pb ub c p s vj) (hi : i < s.units.length) (hl : s.units.length ≤ 1000000) (hj : s.units.length = p.jam.length) : OkC 94 (allowD p s 4 i) w mb ub i := by
 have ha : allowD p s 4 i = (s.drive == 1 && !s.units[i].th && !p.jam.getD i false) := (by unfold allowD; simp [hi]); have hpt := fun w1 (k : Ext w w1) => pointers_any w1 (h.ext k) hl; have hjm := h.jm; obtain ⟨_, aj, cj, hvj, _, hcj⟩ := hjm; rw [List.length_map] at hvj hcj; subst hvj; obtain ⟨jb, jo, hja, hjc⟩ := hcj (by omega); subst hja; have c7 := hjc i (.bool (p.jam.getD i false)) (by simp [List.getD, show i < p.jam.length by omega]); obtain ⟨xt, hxt⟩ : ∃ x, s.units[i].th = x := ⟨_, rfl⟩; obtain ⟨xj, hxj⟩ : ∃ x, p.jam.getD i false = x := ⟨_, rfl⟩; have c8 := (h.at hi).2.1; rw [hxt] at c8 ha; rw [hxj] at c7 ha; have hm := h.bm; have hp := h.bp; have hbu := h.bu; have HA := Hd ha; have HPT := Hd hpt; have HM := Hd hm; have HP := Hd hp; have HL := Hd hl; have HBU := Hd hbu; clear ha hpt hm hp hl hbu; clear hxt hxj hjc hcj h
 go_enter Tryz.func94, Tryz.ntmps94
 go_upto_region 1 with (
  (with_reducible refine wpList_box1 (t := 143) (v := .pointer (some ⟨ub, i * 5, none⟩)) rfl rfl rfl rfl ?_); rintro xb w1 hx1 hx2 hx3; have c1 := hx1.cell 0; have XB := Hd hx1; have X1 := Hd hx2; clear hx1 hx2
  clear hx3)
 have c7' := c7; have c8' := c8; have d7 := X1.out.cellSome c7; have d8 := X1.out.cellSome c8; have d := (HM.out.ext X1.out).cell; have dp := (HP.out.ext X1.out).cell; clear c7 c8
 by_cases h1 : s.drive = 1
 {
 have q1 : (s.drive == 1) = true := by simp [h1]
 cases xt
 {
 have xd : Ext w1 w1.drew := (Below.refl _ w1).drew; have x2 := X1.out.tr xd; have c1' := xd.cellSome c1; have hxi := fun w2 B2 va (hv : w2.ownsRow B2 143 1 va s.units.length (ptrL ub s.units.length)) (hx : w2.cell? ⟨xb, 0, none⟩ = some (.pointer (some ⟨ub, i * 5, none⟩))) (hb : ∃ cs, Blk w2 ub cs 82) => idxP ub s.units.length i xb B2 va w2 hv hx hi HL.out hb; clear d d7 d8 dp c1 XB X1; refine wp_region_K (fun wx => ((∀ j, wx.cell? ⟨mb, j, none⟩ = (#[.pointer (some ⟨pb, 0, none⟩), .int .i64 s.drive, .bool s.folder, .slice (some ⟨ub, 0, none⟩) s.units.length c, .int .i64 s.fresh] : Array Value)[j]?) ∧ (∀ j, wx.cell? ⟨pb, j, none⟩ = (#[.slice (some ⟨jb, jo, none⟩) p.jam.length cj, .int .i64 p.warm, .int .i64 p.tail, .int .i64 p.dirt] : Array Value)[j]?)) ∧ wx.cell? ⟨xb, 0, none⟩ = some (.pointer (some ⟨ub, i * 5, none⟩)) ∧ wx.cell? ⟨ub, i * 5 + 1, none⟩ = some (.bool false) ∧ wx.cell? ⟨jb, jo + i, none⟩ = some (.bool xj)) 29 (by kernel_rfl) ⟨⟨(HM.out.ext x2).cell, (HP.out.ext x2).cell⟩, c1', x2.cellSome c8', x2.cellSome c7'⟩ (fun kh => ?_); generalize w1.drew = wA at *; have X1 := Hd x2; have HXI := Hd hxi; clear x2 hxi; clear xd c1'; refine kX 0 kh ?_; simp only [kS]; refine kX 1 kh ?_; simp only [kS]; refine kX 2 kh ?_; simp only [kS]; refine kX 3 kh ?_; simp only [kS]; refine kX 4 kh ?_; simp only [kS]; refine kX 5 kh ?_; simp only [kS]; refine kX 6 kh ?_; simp only [kS]; refine kX 7 kh ?_; simp only [kS]; refine kX 8 kh ?_; simp only [kS]; refine kX 9 kh ?_; simp only [kS]; refine kX 10 kh ?_; simp only [kS]; refine kX 11 kh ?_; simp only [kS]; refine kX 12 kh ?_; simp only [kS]; refine kX 13 kh ?_; simp only [kS]; refine kX 14 kh ?_; simp only [kS]; refine kX 15 kh ?_; simp only [kS]; refine kX 16 kh ?_; simp only [kS]; refine kX 17 kh ?_; simp only [kS]; refine kX 18 kh ?_; simp only [kS]; refine kX 19 kh ?_; simp only [kS]; refine kX 20 kh ?_; simp only [kS]; refine kX 21 kh ?_; simp only [kS]; refine kX 23 kh ?_; simp only [kS]; refine rK [22] ?_; refine xK 22 (fun K hK => ?_) ?_
 {
 refine step_call (vs := #[.pointer (some ⟨mb, 0, none⟩)]) (by kernel_rfl) rfl rfl Tryz.func67 (by kernel_rfl) (by kernel_rfl) (HPT.out _ X1.out) ?_; rintro e wy ⟨v, rfl, ho, hx⟩; refine ⟨_, rfl, ?_⟩; obtain ⟨a5, c5, rfl⟩ := row_form ho; have hh := kh; obtain ⟨_, hh1, _⟩ := hh; have x2 := X1.out.tr hx; have c1' := hx.cellSome hh1; clear hh1; refine kG hK ⟨⟨(HM.out.ext x2).cell, (HP.out.ext x2).cell⟩, c1', x2.cellSome c8', x2.cellSome c7'⟩ fun kh => ?_; (try simp only [kS]); clear X1 hx; have X1 := Hd x2; have HO := Hd ho; clear x2 ho; have i1 : (0:Int) ≤ (i:Int) := (by omega); have i2 : (i:Int) < (p.jam.length:Int) := (by omega); refine rK [24] ?_; refine xK 24 (fun K hK => ?_) ?_
 {
 refine step_call (vs := #[.slice a5 s.units.length c5, .func (.func 96) #[] #[.pointer (some ⟨xb, 0, none⟩)]]) (by kernel_rfl) rfl rfl Tryz.func95 (by kernel_rfl) (by kernel_rfl) (HXI.out _ _ _ HO.out c1' (by obtain ⟨cs, hb, _⟩ := HBU.out; exact ⟨cs, hb.ext X1.out⟩)) ?_; rintro e wz ⟨rfl, hx⟩; refine ⟨_, rfl, ?_⟩; have x2 := X1.out.tr hx; have c2' := hx.cellSome c1'; refine kG hK ⟨⟨(HM.out.ext x2).cell, (HP.out.ext x2).cell⟩, c2', x2.cellSome c8', x2.cellSome c7'⟩ fun kh => ?_; (try simp only [kS]); clear X1 hx c1' c2'; have X1 := Hd x2; clear x2; refine kX 25 kh ?_; simp only [kS]; refine kX 26 kh ?_; simp only [kS]; refine kX 27 kh ?_; simp only [kS]; refine kX 28 kh ?_; simp only [kS]; refine rK [29] ?_; refine xK 29 (fun K hK => ?_) ?_
 { go_simp; refine kH hK rfl ?_; (try clear kh); (try simp only [kS]); refine dK ?_ _; go_wp2; go_ret; exact ⟨ret_bool (by rw [HA.out]; simp [h1]), X1.out⟩ }
 exact nK
 }
 exact nK
 }
 exact nK
 }
 {
 go_quiet (fail)
 have xq := X1.out.tr (Ext.of_drewN w1 nq); generalize w1.drewN nq = wq at *; go_wp2; go_ret; exact ⟨ret_bool (by rw [HA.out]; simp), xq⟩
 }
 }
 {
 have q1 : (s.drive == 1) = false := by simp [h1]
 go_quiet (fail)
 have xq := X1.out.tr (Ext.of_drewN w1 nq); generalize w1.drewN nq = wq at *; go_wp2; go_ret; exact ⟨ret_bool (by rw [HA.out]; simp [h1]), xq⟩
 }
end
end Go.Proofs.YtojobdffnnibaaaGreat