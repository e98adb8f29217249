/- PressActs: the small functions: the reference's Begin and Safe, the lists of actions. -/
import Derived.Test.YtojobdffnnibaaaLFn2
import Derived.Test.YtojobdffnnibaaaPDoF
import Derived.Test.YtojobdffnnibaaaPProg
import Derived.Test.YtojobdffnnibaaaPFind
namespace Go.Proofs.Ytojobdffnnibaaa
open Go.RowKit
set_option linter.unusedVariables false
set_option linter.unusedSimpArgs false

def beginS (p : PressD) : StD := if pErr p = 0 then beginD p else zD

set_option maxRecDepth 100000 in
set_option maxHeartbeats 2000000 in
theorem rBegin_any (p : PressD) (vj : Value) (w : World) (hj : Truths w vj p.jam) :
    Calls Try.prog 28 #[pV vj p] w fun e w' => ∃ v, e = .returned (.tuple #[sV v (beginS p), .int .i64 (pErr p)]) ∧ UnIn w' v (beginS p).units ∧ Ext w w' := by
  have hck := fun W (k : Ext w W) => rCheck_any p vj W (Sl.ext hj k)
  obtain ⟨_, aj, cj, hvj, _⟩ := hj
  rw [List.length_map] at hvj
  subst hvj
  unfold pV at *
  obtain ⟨e1, he1⟩ : ∃ e, pErr p = e := ⟨_, rfl⟩
  rw [he1] at hck
  have HCK := Lib.hid hck
  have HE1 := Lib.hid he1
  clear hck he1
  go_enter Try.func28, Try.ntmps28
  go_upto_region 2 with (first
    | (with_reducible refine wpList_boxA (t := 24) (cs := #[.slice aj p.jam.length cj, .int .i64 p.warm, .int .i64 p.tail, .int .i64 p.dirt]) rfl rfl rfl ?_
       rintro xb w1 hx1 hx2 hx3
       have PB := Lib.hid hx1
       have X1 := Lib.hid hx2
       clear hx1 hx2
       clear hx3)
    | (with_reducible refine wpList_allocA (t := 27) rfl rfl Try.zeroValue27 ?_
       rintro rb w2 hy1 hy2 hy3
       have pb2 := PB.out.ext hy2
       have x2 := X1.out.tr hy2
       have l2 : w.heap.size ≤ rb := Nat.le_trans X1.out.size hy3
       have c2 := pb2.cell
       clear PB X1
       have RB := Lib.hid hy1
       have X1 := Lib.hid x2
       have LR := Lib.hid l2
       have PB := Lib.hid pb2
       clear hy1 x2 l2 pb2
       clear hy3 hy2)
    | (have hgd := HCK.out
       go_at_call 29
       refine (hgd _ X1.out).mono ?_
       rintro e w3 ⟨rfl, hx3⟩
       have x2 := X1.out.tr hx3
       have rb2 := RB.out.ext hx3
       have pb2 := PB.out.ext hx3
       clear c2 RB X1 PB hgd hx3 HCK
       have c2 := pb2.cell
       have X1 := Lib.hid x2
       have RB := Lib.hid rb2
       have PB := Lib.hid pb2
       clear x2 rb2 pb2))
  by_cases h1 : e1 = 0
  · subst h1
    have hlen := pErr_len HE1.out
    have hmk := made_units p.jam.length hlen
    have hbs : beginS p = beginD p := if_pos HE1.out
    have HMK := Lib.hid hmk
    have HBS := Lib.hid hbs
    clear hmk hbs
    go_wp2_with (first
      | (refine wpList_makeN (n := p.jam.length) tRUnits rfl rfl rfl rfl ?_ ?_
         · omega
         rintro w4 hown hx4
         have x2 := X1.out.tr hx4
         have rb2 := RB.out.ext hx4
         have OW := Lib.hid hown
         have X2 := Lib.hid x2
         have RB2 := Lib.hid rb2
         clear hown x2 rb2)
      | (with_reducible refine wpList_storeK (ty := 27) (cells := #[.int .i64 0, .bool false, .slice (some ⟨w3.heap.size, 0, none⟩) p.jam.length p.jam.length, .int .i64 0]) rfl rfl RB2.out ?_ ?_ ?_ ?_ ?_ ?_
         · rfl
         · rfl
         · kernel_rfl
         · rfl
         · simp [Value.oneCell']
         rintro w7 hb7 ho7
         have k0 := hb7.cell
         have x2 := X2.out.then_only ho7 (fun k (e : k = rb) => by rw [e]; exact LR.out)
         have hlr := RB.out.lt
         have how := owns_only OW.out ho7 (fun b hb (e : b = rb) => Nat.ne_of_lt hlr ((Option.some.inj hb).trans e).symm)
         clear X2 RB2 OW ho7 hb7
         have X1 := Lib.hid x2
         have OW := Lib.hid how
         clear x2 how))
    refine bodyPost_ret (v := .tuple #[sV (.slice (some ⟨w3.heap.size, 0, none⟩) p.jam.length p.jam.length) (beginD p), .int .i64 0]) (by simp [results, Try.results28, go_sem, k0, sV, beginD]) rfl ?_
    refine ⟨_, by rw [HBS.out, HE1.out], ?_, X1.out⟩
    rw [HBS.out]
    have hl2 : (beginD p).units.length = p.jam.length := by simp [beginD]
    refine UnIn.of_owns (B := w3.heap.size) (e := 98) ?_ (by omega)
    rw [hl2]
    unfold beginD
    rw [← HMK.out]
    exact OW.out
  · have f1 : (e1 != 0) = true := by simp [h1]
    have h1' := h1
    have hbs : beginS p = zD := if_neg (by rw [HE1.out]; exact h1)
    have H1 := Lib.hid h1
    have HBS := Lib.hid hbs
    clear h1 hbs
    go_wp2_with (
         with_reducible refine wpList_storeK (ty := 27) (cells := #[.int .i64 0, .bool false, .slice none 0 0, .int .i64 0]) rfl rfl RB.out ?_ ?_ ?_ ?_ ?_ ?_
         · rfl
         · rfl
         · kernel_rfl
         · rfl
         · simp [Value.oneCell']
         rintro w7 hb7 ho7
         have k0 := hb7.cell
         have x2 := X1.out.then_only ho7 (fun k (e : k = rb) => by rw [e]; exact LR.out)
         clear X1 RB ho7 hb7
         have X1 := Lib.hid x2
         clear x2)
    refine bodyPost_ret (v := .tuple #[sZ, .int .i64 e1]) (by simp [results, Try.results28, go_sem, k0, sZ]) rfl ?_
    exact ⟨.slice none 0 0, by rw [HBS.out, HE1.out]; rfl, by rw [HBS.out]; exact UnIn.nil _, X1.out⟩

set_option maxRecDepth 100000 in
set_option maxHeartbeats 2000000 in
theorem rSafe_all (p : PressD) (s : StD) (vj vu : Value) (w : World) (hj : Truths w vj p.jam) (hu : UnIn w vu s.units) (hl : s.units.length ≤ 1000000) :
    Calls Try.prog 30 #[pV vj p, sV vu s] w fun e w' => e = .returned (.tuple #[.bool (safeB p s), .int .i64 (safeE p s)]) ∧ Ext w w' := by
  have hc := fun w1 (k : Ext w w1) => rCheck_any p vj w1 (Sl.ext hj k)
  have hsh := fun w1 (k : Ext w w1) => rShaped_any p s vj vu w1 (Sl.ext hj k) (hu.ext k)
  have hsf := fun w1 (k : Ext w w1) => rSafe_any s vu w1 (hu.ext k) hl
  obtain ⟨a, c, rfl, Hu⟩ := hu.form
  obtain ⟨_, aj, cj, hvj, _⟩ := id hj
  rw [List.length_map] at hvj
  subst hvj
  clear hu hl
  unfold pV sV at *
  obtain ⟨e1, he1⟩ : ∃ e, pErr p = e := ⟨_, rfl⟩
  obtain ⟨b1, hb1⟩ : ∃ b, shapedD p s = b := ⟨_, rfl⟩
  obtain ⟨b2, hb2⟩ : ∃ b, safeR s = b := ⟨_, rfl⟩
  have hse : safeE p s = if e1 ≠ 0 then e1 else if b1 then 0 else 9 := by unfold safeE; rw [he1, hb1]
  have hsb : safeB p s = (decide (safeE p s = 0) && b2) := by
    unfold safeB
    by_cases h0 : safeE p s = 0
    · have hb : b1 = true := by
        cases b1
        · rw [hse] at h0
          by_cases h : e1 = 0
          · rw [if_neg (by simp [h])] at h0; simp at h0
          · rw [if_pos h] at h0; exact absurd h0 h
        · rfl
      rw [hb] at hb1
      rw [← safe_eq s (shaped_nums hb1).1, hb2]
    · simp [h0]
  obtain ⟨E, hE⟩ : ∃ E, safeE p s = E := ⟨_, rfl⟩
  rw [hE] at hse hsb
  obtain ⟨BB, hBB⟩ : ∃ B, safeB p s = B := ⟨_, rfl⟩
  rw [hBB] at hsb
  rw [hE, hBB]
  rw [he1] at hc
  rw [hb1] at hsh
  rw [hb2] at hsf
  have HC := Lib.hid hc
  have HSH := Lib.hid hsh
  have HSF := Lib.hid hsf
  have HSE := Lib.hid hse
  have HSB := Lib.hid hsb
  clear hc hsh hsf hse hsb
  clear he1 hb1 hb2 hE hBB
  go_enter Try.func30, Try.ntmps30
  go_upto_region 2 with (first
    | (with_reducible refine wpList_boxA (t := 24) (cs := #[.slice aj p.jam.length cj, .int .i64 p.warm, .int .i64 p.tail, .int .i64 p.dirt]) rfl rfl rfl ?_
       rintro xb w1 hx1 hx2 hx3
       have c1 := hx1.cell
       have XB := Lib.hid hx1
       have X1 := Lib.hid hx2
       clear hx1 hx2
       clear hx3)
    | (with_reducible refine wpList_boxA (t := 27) (cs := #[.int .i64 s.drive, .bool s.folder, .slice a s.units.length c, .int .i64 s.fresh]) rfl rfl rfl ?_
       rintro sb w2 hy1 hy2 hy3
       have c2 := (XB.out.ext hy2).cell
       have xb2 := XB.out.ext hy2
       have x2 := X1.out.tr hy2
       have c3 := hy1.cell
       clear X1 c1 XB
       have SB := Lib.hid hy1
       have X1 := Lib.hid x2
       have XB := Lib.hid xb2
       clear hy1 x2 xb2
       clear hy3 hy2)
    | (have hgd := HC.out
       go_at_call 29
       refine (hgd _ X1.out).mono ?_
       rintro e w3 ⟨rfl, hx3⟩
       have d2 := (XB.out.ext hx3).cell
       have d3 := (SB.out.ext hx3).cell
       have xb2 := XB.out.ext hx3
       have sb2 := SB.out.ext hx3
       have x2 := X1.out.tr hx3
       clear c2 c3 XB SB X1 hgd hx3
       have c2 := d2
       have c3 := d3
       have XB := Lib.hid xb2
       have SB := Lib.hid sb2
       have X1 := Lib.hid x2
       clear xb2 sb2 x2
       clear d2 d3))
  by_cases h1 : e1 = 0
  · subst h1
    cases b1
    · have h9 : E = 9 := by rw [HSE.out]; rfl
      have h8 : BB = false := by rw [HSB.out, h9]; rfl
      have H9 := Lib.hid h9
      have H8 := Lib.hid h8
      clear h9 h8
      go_wp2_with (first
        | (have hgd := HSH.out
           go_at_call 55
           refine (hgd _ X1.out).mono ?_
           rintro e w3 ⟨rfl, hx3⟩
           have d3 := (SB.out.ext hx3).cell
           have x2 := X1.out.tr hx3
           clear c2 c3 XB SB X1 hgd hx3 HSH
           have c3 := d3
           have X1 := Lib.hid x2
           clear x2
           clear d3)
        | (have hgd := HSF.out
           go_at_call 56
           refine (hgd _ X1.out).mono ?_
           rintro e w3 ⟨rfl, hx3⟩
           have x2 := X1.out.tr hx3
           clear X1 hgd hx3 HSF
           have X1 := Lib.hid x2
           clear x2)
      )
      go_ret2
      exact ⟨by rw [H9.out, H8.out] <;> rfl, X1.out⟩
    · have h9 : E = 0 := by rw [HSE.out]; rfl
      have h8 : BB = b2 := by rw [HSB.out, h9]; simp
      have H9 := Lib.hid h9
      have H8 := Lib.hid h8
      clear h9 h8
      go_wp2_with (first
        | (have hgd := HSH.out
           go_at_call 55
           refine (hgd _ X1.out).mono ?_
           rintro e w3 ⟨rfl, hx3⟩
           have d3 := (SB.out.ext hx3).cell
           have x2 := X1.out.tr hx3
           clear c2 c3 XB SB X1 hgd hx3 HSH
           have c3 := d3
           have X1 := Lib.hid x2
           clear x2
           clear d3)
        | (have hgd := HSF.out
           go_at_call 56
           refine (hgd _ X1.out).mono ?_
           rintro e w3 ⟨rfl, hx3⟩
           have x2 := X1.out.tr hx3
           clear X1 hgd hx3 HSF
           have X1 := Lib.hid x2
           clear x2)
      )
      go_ret2
      exact ⟨by rw [H9.out, H8.out] <;> rfl, X1.out⟩
  · have q1 : (e1 == 0) = false := by simp [h1]
    have f1 : (e1 != 0) = true := by simp [h1]
    have h9 : E = e1 := by rw [HSE.out, if_pos h1]
    have h8 : BB = false := by rw [HSB.out, h9]; simp [h1]
    have H9 := Lib.hid h9
    have H8 := Lib.hid h8
    clear h9 h8
    go_wp2_with (fail)
    go_ret2
    exact ⟨by rw [H9.out, H8.out] <;> rfl, X1.out⟩

set_option maxRecDepth 100000 in
set_option maxHeartbeats 2000000 in
theorem sameTruths_eq (l : List Bool) (va vb : Value) (w : World) (ha : Truths w va l) (hb : Truths w vb l) :
    Calls Try.prog 38 #[va, vb] w fun e w' => e = .returned (.bool true) ∧ Ext w w' := by
  obtain ⟨hl, a, c, hva, _, hca⟩ := ha
  rw [List.length_map] at hva hca hl
  subst hva
  obtain ⟨_, b, d, hvb, _, hcb⟩ := hb
  rw [List.length_map] at hvb hcb
  subst hvb
  have HCA := Lib.hid hca
  have HCB := Lib.hid hcb
  clear hca hcb
  go_enter Try.func38, Try.ntmps38
  go_wp2
  go_loopw [5] (fun t5 wr => ∃ k : Nat, k ≤ l.length ∧ t5 = .int .i64 k ∧ Hid (Ext w wr)) (fun t5 _ => l.length - (intOf t5).toNat)
  case atStart => exact ⟨0, by omega, rfl, Below.refl _ _⟩
  case round =>
    obtain ⟨k, hk, rfl, HX⟩ := hrel
    by_cases hlt : k < l.length
    · obtain ⟨b1, o1, rfl, hc⟩ := HCA.out (by omega)
      obtain ⟨b2, o2, rfl, hc2⟩ := HCB.out (by omega)
      have d0 := HX.out.cellSome (hc k (.bool l[k]) (by simp [hlt]))
      have e0 := HX.out.cellSome (hc2 k (.bool l[k]) (by simp [hlt]))
      obtain ⟨u, hu⟩ : ∃ u, l[k] = u := ⟨_, rfl⟩
      rw [hu] at d0 e0
      have i1 : (0:Int) ≤ (k:Int) := by omega
      have i2 : (k:Int) < (l.length:Int) := by omega
      clear hu hc hc2
      go_upto_region 6 with (fail)
      go_quiet (fail)
      have xq := HX.out.tr (Ext.of_drewN wr nq)
      generalize wr.drewN nq = wq at *
      have XQ := Lib.hid xq
      clear xq
      go_wp2
      go_roundw
      case rel => exact ⟨k + 1, by omega, by go_num, XQ⟩
      case measure => first | (simp [intOf]; done) | (simp [intOf]; omega)
    · have i2 : decide ((k:Int) < (l.length:Int)) = false := decide_eq_false (by omega)
      obtain rfl : k = l.length := by omega
      go_wp2_with (fail)
      go_ret
      exact ⟨rfl, HX.out⟩

set_option maxRecDepth 100000 in
set_option maxHeartbeats 2000000 in
theorem sameActions_eq (l : List (Int × Int)) (va vb : Value) (w : World) (ha : AcIn w va l) (hb : AcIn w vb l) :
    Calls Try.prog 35 #[va, vb] w fun e w' => e = .returned (.bool true) ∧ Ext w w' := by
  obtain ⟨hl, a, c, hva, hca⟩ := ha
  subst hva
  obtain ⟨_, b, d, hvb, hcb⟩ := hb
  subst hvb
  have HCA := Lib.hid hca
  have HCB := Lib.hid hcb
  clear hca hcb
  go_enter Try.func35, Try.ntmps35
  go_wp2
  go_loopw [5] (fun t5 wr => ∃ k : Nat, k ≤ l.length ∧ t5 = .int .i64 k ∧ Hid (Ext w wr)) (fun t5 _ => l.length - (intOf t5).toNat)
  case atStart => exact ⟨0, by omega, rfl, Below.refl _ _⟩
  case round =>
    obtain ⟨k, hk, rfl, HX⟩ := hrel
    by_cases hlt : k < l.length
    · obtain ⟨b1, o1, rfl, hc⟩ := HCA.out (by omega)
      obtain ⟨b2, o2, rfl, hc2⟩ := HCB.out (by omega)
      have d0 := HX.out.cellSome (hc k hlt).1
      have d1 := HX.out.cellSome (hc k hlt).2
      have e0 := HX.out.cellSome (hc2 k hlt).1
      have e1 := HX.out.cellSome (hc2 k hlt).2
      obtain ⟨u, hu⟩ : ∃ u, l[k] = u := ⟨_, rfl⟩
      rw [hu] at d0 d1 e0 e1
      obtain ⟨uk, uu⟩ := u
      dsimp only at *
      have i1 : (0:Int) ≤ (k:Int) := by omega
      have i2 : (k:Int) < (l.length:Int) := by omega
      clear hu hc hc2
      go_upto_region 6 with (fail)
      go_quiet (fail)
      have xq := HX.out.tr (Ext.of_drewN wr nq)
      generalize wr.drewN nq = wq at *
      have XQ := Lib.hid xq
      clear xq
      go_wp2
      go_roundw
      case rel => exact ⟨k + 1, by omega, by go_num, XQ⟩
      case measure => first | (simp [intOf]; done) | (simp [intOf]; omega)
    · have i2 : decide ((k:Int) < (l.length:Int)) = false := decide_eq_false (by omega)
      obtain rfl : k = l.length := by omega
      go_wp2_with (fail)
      go_ret
      exact ⟨rfl, HX.out⟩

set_option maxRecDepth 100000 in
set_option maxHeartbeats 2000000 in
theorem lawActions_any (l : List (Int × Int)) (va : Value) (w : World) (ha : AcIn w va l) (hl : l.length ≤ 1000000) :
    Calls Try.prog 27 #[va] w fun e w' => ∃ v, e = .returned v ∧ Ext w w' ∧ w'.ownsRow w.heap.size 63 2 v l.length (acL l) := by
  obtain ⟨_, a, c, hva, hca⟩ := ha
  subst hva
  have HCA := Lib.hid hca
  have HL := Lib.hid hl
  clear hca hl
  go_enter Try.func27, Try.ntmps27
  go_upto_region 3 with (fail)
  go_loopw [3, 4] (fun v t4 wr => ∃ k : Nat, k ≤ l.length ∧ t4 = .int .i64 k ∧ Hid (Ext w wr) ∧ Hid (wr.ownsRow w.heap.size 63 2 v k (acL (l.take k)))) (fun _ t4 _ => l.length - (intOf t4).toNat)
  case atStart => exact ⟨0, by omega, rfl, Below.refl _ _, World.ownsRow_nil _ _ _ _⟩
  case round =>
    rename_i v
    obtain ⟨k, hk, rfl, HX, HO⟩ := hrel
    obtain ⟨a5, c5, rfl⟩ := row_form HO.out
    have hkb : k ≤ 1000000 := Nat.le_trans hk HL.out
    by_cases hlt : k < l.length
    · obtain ⟨b1, o1, rfl, hc⟩ := HCA.out (by omega)
      have d0 := HX.out.cellSome (hc k hlt).1
      have d1 := HX.out.cellSome (hc k hlt).2
      have hsn : acL (l.take (k + 1)) = acL (l.take k) ++ acC l[k] := by
        unfold acL; rw [List.take_succ_eq_append_getElem hlt, List.flatMap_append]; simp
      obtain ⟨u, hu⟩ : ∃ u, l[k] = u := ⟨_, rfl⟩
      rw [hu] at d0 d1 hsn
      obtain ⟨uk, uu⟩ := u
      dsimp only at *
      have i1 : (0:Int) ≤ (k:Int) := by omega
      have i2 : (k:Int) < (l.length:Int) := by omega
      clear hu hc
      have HSN := Lib.hid hsn
      clear hsn
      go_wp2_with (
        at_builtin
        refine wpList_app (n := k) (m := 1) tActs rfl rfl (v := .slice a5 k c5) rfl (owns_ext HO.out (ext_lit _ _ _)) rfl (Src.lit _ [.int .i64 uk, .int .i64 uu] 1 2 rfl 63 1) (by simp [Value.oneCell']) (by omega) (Nat.le_trans HX.out.size (by simp)) ?_
        rintro v' w10 t1 t2 t3
        have x2 := (HX.out.tr (ext_lit wr _ _)).then_only (only_grown t2) (fun b hb => (HO.out.lt b hb).1)
        rw [show acL (l.take k) ++ [Value.int .i64 uk, .int .i64 uu] = acL (l.take (k + 1)) from HSN.out.symm] at t1
        clear HO HX
        have HO := Lib.hid t1
        have HX := Lib.hid x2
        clear t1 x2
        clear t2 t3)
      go_roundw
      case rel => exact ⟨k + 1, by omega, by go_num, HX, HO⟩
      case measure => first | (simp [intOf]; done) | (simp [intOf]; omega)
    · have i2 : decide ((k:Int) < (l.length:Int)) = false := decide_eq_false (by omega)
      obtain rfl : k = l.length := by omega
      have ho := HO.out
      rw [List.take_length] at ho
      have HO2 := Lib.hid ho
      clear ho
      go_wp2_with (fail)
      go_ret
      exact ⟨_, rfl, HX.out, HO2.out⟩
end Go.Proofs.Ytojobdffnnibaaa
