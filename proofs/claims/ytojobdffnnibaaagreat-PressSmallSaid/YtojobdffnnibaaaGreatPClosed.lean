/- press.Closed. -/
import Derived.Test.YtojobdffnnibaaaGreatPSort
import Derived.Test.YtojobdffnnibaaaGreatJ11
namespace Go.Proofs.YtojobdffnnibaaaGreat
open Go.RowKit
set_option linter.unusedVariables false
set_option linter.unusedSimpArgs false
theorem tNums : SliceT Tryz.prog 31 3 (.int .i64 0) 1 8 := ⟨by kernel_rfl, by kernel_rfl, rfl, by decide, by decide⟩
theorem closed1_any (v : Value) (w : World) : Calls Tryz.prog 42 #[v] w fun e w' => e = .returned (.bool false) ∧ Ext w w' := by
 go_enter Tryz.func42, Tryz.ntmps42
 go_wp2; go_ret; exact ⟨rfl, Below.refl _ _⟩
/-- The codes, in order. -/
def codesS (p : PressD) (s : StD) : List Int := (codesD p s).mergeSort fun x y => decide (x ≤ y)
theorem codesS_perm (p : PressD) (s : StD) : (codesS p s).Perm (codesD p s) := List.mergeSort_perm _ _
/-- What Closed does. -/
def ClosedPost (w : World) (p : PressD) (s : StD) (e : Ending) (w' : World) : Prop :=
 (stErr p s ≠ 0 ∧ e = .returned (.tuple #[.slice none 0 0, .int .i64 (stErr p s)]) ∧ Ext w w') ∨
 (stErr p s = 0 ∧ ∃ v, e = .returned (.tuple #[v, .int .i64 0]) ∧ w'.ownsRow w.heap.size 3 1 v (codesS p s).length ((codesS p s).map (Value.int .i64)) ∧ Ext w w')
set_option maxRecDepth 100000 in
set_option maxHeartbeats 4000000 in
theorem closed_any (p : PressD) (s : StD) (vj vu : Value) (w : World) (hj : Truths w vj p.jam) (hu : UnIn w vu s.units) (hl : s.units.length ≤ 1000000) :
 Calls Tryz.prog 16 #[pV vj p, sV vu s] w (ClosedPost w p s) := by
 have hst := fun w1 (k : Ext w w1) => start_any p s vj vu w1 (Sl.ext hj k) (hu.ext k) hl; obtain ⟨a, c, rfl, Hu⟩ := hu.form; obtain ⟨_, aj, cj, hvj, _⟩ := id hj; rw [List.length_map] at hvj; subst hvj; clear hu hl Hu; unfold pV sV at *; obtain ⟨e1, he1⟩ : ∃ e, stErr p s = e := ⟨_, rfl⟩; have HST := Hd hst; have HE1 := Hd he1; clear hst he1
 go_enter Tryz.func16, Tryz.ntmps16
 go_upto_region 1 with (first
  | (with_reducible refine wpList_boxA (t := 34) (cs := #[.slice aj p.jam.length cj, .int .i64 p.warm, .int .i64 p.tail, .int .i64 p.dirt]) rfl rfl rfl ?_
     rintro xb w1 hx1 hx2 hx3; have PB := Hd hx1; have X1 := Hd hx2; clear hx1 hx2
     clear hx3)
  | (with_reducible refine wpList_boxA (t := 38) (cs := #[.int .i64 s.drive, .bool s.folder, .slice a s.units.length c, .int .i64 s.fresh]) rfl rfl rfl ?_
     rintro sb w2 hy1 hy2 hy3; have c2 := (PB.out.ext hy2).cell; have c3 := hy1.cell; have x2 := X1.out.tr hy2; clear PB X1; have X1 := Hd x2; clear x2
     clear hy3 hy2 hy1))
 by_cases h1 : e1 = 0
 {
 subst h1; have hs := fun w1 (k : Ext w w1) => (HST.out w1 k).mono fun e w' (h : StartPost w1 p s _ e w') => (h.resolve_left fun h => h.1 HE1.out).2; obtain ⟨hpe, hsh, hsf⟩ := stErr_ok HE1.out; have huj := shaped_len hsh; have hul : s.units.length ≤ 3 := (by rw [huj]; exact (pErr_len hpe).2); have hup : 0 < s.units.length := (by rw [huj]; exact (pErr_len hpe).1); have F := closed_all (p := p) (s := s) (shaped_nums hsh).1 hul
 have hse : ∀ W mb pb ub c B vj0, Ext w W → MOw B W mb pb ub c p s vj0 →
  Calls Tryz.prog 33 #[.pointer (some ⟨mb, 0, none⟩), .func (.func 42) #[] #[]] W fun e w' =>
   ∃ va z, e = .returned (.tuple #[va, .int .i64 z]) ∧ SrRow B W.heap.size pb p vj0 (closedL p s) va w' ∧ Ext W w' := fun W mb pb ub c B vj0 k h =>
  (search_any W h hul huj hup 42 #[] (fun _ => false) (fun a w => by kernel_rfl) (fun W' m u c' t k' hm ht => closed1_any _ _)).mono fun e w' ⟨va, he, hrow, hx'⟩ => ⟨va, _, he, hrow, hx'⟩
 obtain ⟨L, hL⟩ : ∃ L, closedL p s = L := ⟨_, rfl⟩; have hfit := F.fit; have hhas := F.has
 have hlen : L.length ≤ 24576 := by
  have := F.len hul; unfold codesD at this; rw [List.length_map, hL] at this; exact this
 rw [hL] at hse hfit hhas; have hl0 : 0 < L.length := (by obtain ⟨x, hx, _⟩ := hhas; exact List.length_pos_of_mem hx); have hcs : codesS p s = (L.map fun t => codeD t.at_).mergeSort fun x y => decide (x ≤ y) := (by unfold codesS codesD; rw [hL]); clear F hhas hL huj hup hpe hsh hsf HST; have HS := Hd hs; have HUL := Hd hul; have HSE := Hd hse; have FIT := Hd hfit; have HLEN := Hd hlen; have HL0 := Hd hl0; have HCS := Hd hcs; clear hs hul hse hfit hlen hl0 hcs
 go_upto_region 6 with (first
  | (go_at_call 31
     refine (HS.out _ X1.out).mono ?_; rintro e w3 ⟨mb, pb, ub, c4, rfl, hmo, hx⟩; have x2 := X1.out.tr hx; clear X1 hx HS c2 c3; have X1 := Hd x2; have HM := Hd hmo
     clear x2 hmo)
  | (go_at_call 33
     refine (HSE.out _ _ _ _ _ _ _ X1.out HM.out).mono ?_; rintro e w5 ⟨va, z, rfl, ⟨f, fu, fc, hown, hms⟩, hx⟩; obtain ⟨a5, c5, hva⟩ := row_form hown; subst hva; have x2 := X1.out.tr hx; clear X1 hx HSE HM; have X1 := Hd x2; have HO := Hd hown; have HMS := Hd hms
     clear x2 hown hms))
 obtain ⟨CS, hCS⟩ : ∃ CS, (L.map fun t => codeD t.at_) = CS := ⟨_, rfl⟩; have hcl : CS.length = L.length := (by rw [← hCS, List.length_map]); have HCE := Hd hCS; have HCL := Hd hcl; clear hCS hcl
 go_upto_region 7 with (fail)
 go_loopw [10, 29] (fun v10 t29 wr => ∃ k : Nat, k ≤ L.length ∧ t29 = .int .i64 k ∧ Hid (wr.ownsRow w5.heap.size 3 1 v10 k ((CS.take k).map (Value.int .i64))) ∧ Hid (Ext w5 wr)) (fun _ t29 _ => L.length - (intOf t29).toNat)
 case atStart => exact ⟨0, Nat.zero_le _, rfl, World.ownsRow_nil _ _ _ _, Below.refl _ _⟩
 case round =>
  obtain ⟨k, hk, rfl, HA, HX⟩ := hrel; obtain ⟨a6, c6, rfl⟩ := row_form HA.out; have hkb : k ≤ 24576 := Nat.le_trans hk HLEN.out
  by_cases hlt : k < L.length
  {
  obtain ⟨g5, c7, hv, hcell⟩ := owns_pos HO.out HL0.out
  cases hv
  have hst1 := stL_get f L k; have d0 := HX.out.cellSome (hcell (k * 4 + 0) (.pointer (some ⟨f k, 0, none⟩)) (by rw [hst1 0 hlt (by omega)]; rfl)); rw [Nat.add_zero] at d0; have d1 := HX.out.cellSome (hcell (k * 4 + 1) (.int .i64 L[k].kind) (by rw [hst1 1 hlt (by omega)]; rfl)); have d2 := HX.out.cellSome (hcell (k * 4 + 2) (.int .i64 L[k].unit) (by rw [hst1 2 hlt (by omega)]; rfl)); have d3 := HX.out.cellSome (hcell (k * 4 + 3) (.int .i64 L[k].from_) (by rw [hst1 3 hlt (by omega)]; rfl)); have hfk := FIT.out L[k] (List.getElem_mem hlt); have hmk := (HMS.out k hlt).ext HX.out; have hck : CS[k]'(by rw [HCL.out]; exact hlt) = codeD L[k].at_ := by simp only [← HCE.out, List.getElem_map]
  have hsn : (CS.take (k + 1)).map (Value.int .i64) = (CS.take k).map (Value.int .i64) ++ [.int .i64 (codeD L[k].at_)] := by
   rw [List.take_succ_eq_append_getElem (by rw [HCL.out]; exact hlt), List.map_append, hck]; rfl
  obtain ⟨⟨ta, tk, tu, tf⟩, ht⟩ : ∃ t, L[k] = t := ⟨_, rfl⟩; rw [ht] at d1 d2 d3 hfk hmk hsn; dsimp only at d1 d2 d3 hfk hmk hsn; have htl : ta.units.length ≤ 3 := (by rw [hfk.len]; exact HUL.out); have hsc := sit_code hfk.dr htl; obtain ⟨R, hR⟩ : ∃ R, codeD ta = R := ⟨_, rfl⟩; rw [hR] at hsc hsn; have hco := fun W => sitCode_any (sitD ta) (sitD_len ta) W; rw [hsc] at hco; have hsi := fun W (h : Ext wr W) => situation_any W (hmk.ext h) htl; have i1 : (0:Int) ≤ (k:Int) := (by omega); have i2 : (k:Int) < (L.length:Int) := (by omega); clear hst1 hcell ht hsc hck hfk hmk hR; have HSN := Hd hsn; have HCO := Hd hco; have HSI := Hd hsi; clear hsn hco hsi
  go_wp2_with (first
   | (with_reducible refine wpList_allocA (t := 93) rfl rfl Tryz.zeroValue93 ?_
      rintro qb w6 hy1 hy2 hy3; have lq : wr.heap.size ≤ qb := hy3; have e0 := hy2.cellSome d0; have e1 := hy2.cellSome d1; have e2 := hy2.cellSome d2; have e3 := hy2.cellSome d3; clear hy3 d0 d1 d2 d3; have QB := Hd hy1; have Z := Hd hy2; have LQ := Hd lq
      clear hy1 hy2 lq)
   | (with_reducible refine wpList_storeK (ty := 93) (cells := #[.pointer (some ⟨f k, 0, none⟩), .int .i64 tk, .int .i64 tu, .int .i64 tf]) rfl rfl QB.out ?_ ?_ ?_ ?_ ?_ ?_
      rfl; rfl; kernel_rfl; rfl; simp [Value.oneCell']; rintro w7 hb ho; have hx := Z.out.then_only ho (fun k (e : k = qb) => by rw [e]; exact LQ.out); have q0 := hb.cell; clear Z QB ho e0 e1 e2 e3 hb; have XQ := Hd hx
      clear hx)
   | (go_at_call 43
      refine (HSI.out _ XQ.out).mono ?_; rintro e w8 ⟨rfl, hx⟩; have x2 := XQ.out.tr hx; clear XQ hx HSI q0; have XQ := Hd x2
      clear x2)
   | (go_at_call 44
      refine (HCO.out _).mono ?_; rintro e w9 ⟨rfl, hx⟩; have x2 := XQ.out.tr hx; have xa := HX.out.tr x2; have ha2 := owns_ext HA.out x2; clear XQ hx HX HA x2; have HX := Hd xa; have HA := Hd ha2
      clear xa ha2)
   | (at_builtin
      refine wpList_app (n := k) (m := 1) tNums rfl rfl (v := .slice a6 k c6) rfl (owns_ext HA.out (ext_lit _ _ _)) rfl (Src.lit _ [.int .i64 R] 1 1 rfl 3 1) (by simp [Value.oneCell']) (by omega) (Nat.le_trans HX.out.size (by simp)) ?_; rintro v' w10 t1 t2 t3; have xt := (HX.out.tr (ext_lit _ _ _)).then_only (only_grown t2) (fun b hb => (HA.out.lt b hb).1); rw [show (CS.take k).map (Value.int .i64) ++ [Value.int .i64 R] = (CS.take (k + 1)).map (Value.int .i64) from HSN.out.symm] at t1; clear HA HX; have HA := Hd t1; have HX := Hd xt; clear t1 xt
      clear t2 t3))
  go_roundw
  case rel => exact ⟨k + 1, by omega, by go_num, HA, HX⟩
  case measure => simp [intOf] <;> omega
  }
  {
  have i2 : decide ((k:Int) < (L.length:Int)) = false := decide_eq_false (by omega); obtain rfl : k = L.length := (by omega); have ha := HA.out; rw [List.take_of_length_le (by rw [HCL.out]; exact Nat.le_refl _)] at ha; have hso := fun W (h : Ext wr W) => sort_any CS W (owns_ext ha h) HCL.out HL0.out (by omega); clear HA; have HSO := Hd hso; have HA := Hd ha; clear hso ha
  go_wp2_with (
   go_at_call 45; refine (HSO.out _ (Below.refl _ _)).mono ?_; rintro e w11 ⟨rfl, hown7, ho7⟩; have x7 := (X1.out.tr HX.out).then_only ho7 (fun b hb => by have h5 := (HA.out.lt b hb).1; have h6 := X1.out.size; omega); have OW7 := Hd hown7; have X7 := Hd x7
   clear hown7 x7)
  go_ret2
  refine .inr ⟨HE1.out, _, rfl, ?_, X7.out⟩; have h9 := owns_weak OW7.out X1.out.size; rw [HCE.out.symm, ← HCS.out] at h9; have hn : (codesS p s).length = L.length := (by rw [HCS.out, List.length_mergeSort, List.length_map]); rw [hn]; exact h9
  }
 }
 {
 have hs := fun w1 (k : Ext w w1) => (HST.out w1 k).mono fun e w' (h : StartPost w1 p s _ e w') => (h.resolve_right fun h => h1 (HE1.out.symm.trans h.1)).2; rw [HE1.out] at hs; have f1 : (e1 != 0) = true := (by simp [h1]); have HS := Hd hs; have H1 := Hd h1; clear hs h1; clear HST
 go_wp2_with (
  go_at_call 31; refine (HS.out _ X1.out).mono ?_; rintro e w3 ⟨rfl, hx⟩; have x2 := X1.out.tr hx; clear X1 hx HS c2 c3; have X1 := Hd x2
  clear x2)
 go_ret2
 exact .inl ⟨by rw [HE1.out]; exact H1.out, by rw [HE1.out] <;> rfl, X1.out⟩
 }
end Go.Proofs.YtojobdffnnibaaaGreat