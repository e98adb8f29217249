/- press.Print. -/
import Derived.Test.YtojobdffnnibaaaGreatJ4
namespace Go.Proofs.YtojobdffnnibaaaGreat
open Go.RowKit
set_option linter.unusedVariables false
set_option linter.unusedSimpArgs false
set_option maxRecDepth 100000 in
set_option maxHeartbeats 4000000 in
theorem print_any (p : PressD) (s : StD) (n : Int) (vj vu : Value) (w : World) (hj : Truths w vj p.jam) (hu : UnIn w vu s.units) (hl : s.units.length ≤ 1000000) (hn : I64 n) :
 Calls Tryz.prog 28 #[pV vj p, sV vu s, .int .i64 n] w (PrPost w p s n) := by
 have hst := fun w1 (k : Ext w w1) => start_any p s vj vu w1 (Sl.ext hj k) (hu.ext k) hl; obtain ⟨a, c, rfl, Hu⟩ := hu.form; obtain ⟨_, aj, cj, hvj, _⟩ := id hj; rw [List.length_map] at hvj; subst hvj; have HN := Hd hn; clear hn; clear hu hl; unfold pV sV at *; obtain ⟨e1, he1⟩ : ∃ e, stErr p s = e := ⟨_, rfl⟩
 by_cases h1 : e1 = 0
 {
 subst h1; have hs := fun w1 (k : Ext w w1) => (hst w1 k).mono fun e w' (h : StartPost w1 p s _ e w') => (h.resolve_left fun h => h.1 he1).2; obtain ⟨hpe, hsh, hsf⟩ := stErr_ok he1; have hul : s.units.length ≤ 3 := (by rw [shaped_len hsh]; exact (pErr_len hpe).2); obtain ⟨hdr, hfr, hin⟩ := shaped_nums hsh; obtain ⟨hpw, hpt, hpd⟩ := pErr_nums hpe; obtain ⟨fr, hfre⟩ : ∃ f, s.fresh = f := ⟨_, rfl⟩
 have hpr : prErr p s n = if n < 0 ∨ 1000000 - max fr (inkM s.units) < n then 6 else if s.drive ≠ 2 then 80 else 0 := by
  unfold prErr; rw [if_neg (by rw [he1]; simp), hfre]
 rw [hfre] at hfr; have HS := Hd hs; have HPR := Hd hpr; have HIN := Hd hin; have HUL := Hd hul; have HFR := Hd hfr; have HPW := Hd hpw; have HPD := Hd hpd; have HFE := Hd hfre; clear hs hpr hin hul hfr hpw hpd hfre; clear hst he1 hpe hsh hsf hdr hpt
 go_enter Tryz.func28, Tryz.ntmps28
 go_upto_region 1 with (first
  | (with_reducible refine wpList_boxA (t := 34) (cs := #[.slice aj p.jam.length cj, .int .i64 p.warm, .int .i64 p.tail, .int .i64 p.dirt]) rfl rfl rfl ?_
     rintro xb w1 hx1 hx2 hx3; have PB := Hd hx1; have X1 := Hd hx2; clear hx1 hx2
     clear hx3)
  | (with_reducible refine wpList_boxA (t := 38) (cs := #[.int .i64 s.drive, .bool s.folder, .slice a s.units.length c, .int .i64 s.fresh]) rfl rfl rfl ?_
     rintro sb w2 hy1 hy2 hy3; have pb2 := PB.out.ext hy2; have x2 := X1.out.tr hy2; clear PB X1; have SB := Hd hy1; have PB := Hd pb2; have X1 := Hd x2; clear hy1 pb2 x2
     clear hy3 hy2)
  | (with_reducible refine wpList_allocA (t := 38) rfl rfl Tryz.zeroValue38 ?_
     rintro rb w2 hy1 hy2 hy3; have c2 := (PB.out.ext hy2).cell; have c3 := (SB.out.ext hy2).cell; have x2 := X1.out.tr hy2; have l2 : w.heap.size ≤ rb := Nat.le_trans X1.out.size hy3; clear PB X1 SB; have RB := Hd hy1; have X1 := Hd x2; have LR := Hd l2; clear hy1 x2 l2
     clear hy3 hy2))
 go_upto_region 4 with (
  have hgd := HS.out; go_at_call 31; refine (hgd _ X1.out).mono ?_; rintro e wB ⟨mb, pb, ub, c4, rfl, hmo, hx3⟩; have rb2 := RB.out.ext hx3; have lb := RB.out.lt; have lx := X1.out.size; have x2 := X1.out.tr hx3; have hmo2 := hmo; clear c2 c3 RB X1 hgd hx3 HS hmo; have RB := Hd rb2; have X1 := Hd x2; have HM := Hd hmo2; have LB := Hd lb; have LX := Hd lx
  clear rb2 x2 hmo2 lb lx)
 have d := HM.out.bm.cell; rw [HFE.out] at d
 go_upto_region 7 with (fail)
 go_loopw [41, 12] (fun t41 t12 wr => ∃ k : Nat, k ≤ s.units.length ∧ t41 = .int .i64 k ∧ t12 = .int .i64 (inkM (s.units.take k)) ∧ Hid (Ext wB wr)) (fun t41 _ _ => s.units.length - (intOf t41).toNat)
 case atStart => exact ⟨0, Nat.zero_le _, rfl, rfl, Below.refl _ _⟩
 case round =>
  obtain ⟨k, hk, rfl, rfl, HX⟩ := hrel; have hkb : k ≤ 3 := Nat.le_trans hk HUL.out; have hib := inkM_take_bd HIN.out k
  by_cases hlt : k < s.units.length
  {
  obtain ⟨c0, c1, c2, c3, c5⟩ := (HM.out.ext HX.out).at hlt; have hsn := inkM_snoc s.units k hlt; obtain ⟨u, hu⟩ : ∃ u, s.units[k] = u := ⟨_, rfl⟩; rw [hu] at c0 c1 c2 c3 c5 hsn; obtain ⟨ik, hik⟩ : ∃ x, inkM (s.units.take k) = x := ⟨_, rfl⟩; rw [hik] at hsn hib ⊢; have hui := HIN.out u (by rw [← hu]; exact List.getElem_mem hlt); obtain ⟨uo, ut, uc, up, ui⟩ := u; dsimp only at *; have i1 : (0:Int) ≤ (k:Int) := (by omega); have i2 : (k:Int) < (s.units.length:Int) := (by omega); have HSN := Hd hsn; clear hsn; clear hik hu d
  cases up
  {
  go_wp2_with (first
   | (with_reducible refine wpList_allocA (t := 82) rfl rfl Tryz.zeroValue82 ?_
      rintro zb w5 hz1 hz2 hz3; have x2 := HX.out.tr hz2; have lz : wB.heap.size ≤ zb := Nat.le_trans HX.out.size hz3; clear HX; have ZB := Hd hz1; have HX := Hd x2; have LZ := Hd lz; clear hz1 x2 lz
      clear hz2 hz3)
   | (with_reducible refine wpList_storeK (ty := 82) (cells := #[.bool uo, .bool ut, .bool uc, .bool false, .int .i64 ui]) rfl rfl ZB.out ?_ ?_ ?_ ?_ ?_ ?_
      rfl; rfl; kernel_rfl; rfl; simp [Value.oneCell']; rintro w6 hb6 ho6; have z0 := hb6.cell; have x2 := HX.out.then_only ho6 (fun k (e : k = zb) => by rw [e]; exact LZ.out); clear HX ZB ho6 hb6; have HX := Hd x2
      clear x2)
   )
  go_roundw
  case rel => exact ⟨k + 1, by omega, rfl, by rw [HSN.out]; simp; try omega, HX⟩
  case measure => simp [intOf] <;> omega
  }
  {
  go_wp2_with (first
   | (with_reducible refine wpList_allocA (t := 82) rfl rfl Tryz.zeroValue82 ?_
      rintro zb w5 hz1 hz2 hz3; have x2 := HX.out.tr hz2; have lz : wB.heap.size ≤ zb := Nat.le_trans HX.out.size hz3; clear HX; have ZB := Hd hz1; have HX := Hd x2; have LZ := Hd lz; clear hz1 x2 lz
      clear hz2 hz3)
   | (with_reducible refine wpList_storeK (ty := 82) (cells := #[.bool uo, .bool ut, .bool uc, .bool true, .int .i64 ui]) rfl rfl ZB.out ?_ ?_ ?_ ?_ ?_ ?_
      rfl; rfl; kernel_rfl; rfl; simp [Value.oneCell']; rintro w6 hb6 ho6; have z0 := hb6.cell; have x2 := HX.out.then_only ho6 (fun k (e : k = zb) => by rw [e]; exact LZ.out); clear HX ZB ho6 hb6; have HX := Hd x2
      clear x2)
   )
  go_roundw
  case rel => exact ⟨k + 1, by omega, rfl, by rw [HSN.out]; simp; try omega, HX⟩
  case measure => simp [intOf] <;> omega
  }
  }
  {
  have i2 : decide ((k:Int) < (s.units.length:Int)) = false := decide_eq_false (by omega); obtain rfl : k = s.units.length := (by omega); rw [List.take_length]; have hmo := HM.out.ext HX.out; have d := hmo.bm.cell; rw [HFE.out] at d; have hbd := inkM_bd HIN.out; obtain ⟨im, him⟩ : ∃ x, inkM s.units = x := ⟨_, rfl⟩; have hpr := HPR.out; rw [him] at hbd hpr ⊢; clear HPR; have HIM := Hd him; have HPR := Hd hpr; clear him hpr
  go_upto_region 13 with (fail)
  obtain ⟨mo, hmo2⟩ : ∃ m, (if fr < im then im else fr) = m := ⟨_, rfl⟩; rw [hmo2]; have hmx : max fr im = mo := (by rw [← hmo2]; split <;> omega); have hmb : 0 ≤ mo ∧ mo ≤ 1000000 := (by have := HFR.out; omega); obtain ⟨b1, hb1⟩ : ∃ b, inB n 0 (1000000 - mo) = b := ⟨_, rfl⟩
  have hpr2 : prErr p s n = if b1 = false then 6 else if s.drive ≠ 2 then 80 else 0 := by
   rw [HPR.out, hmx]
   have e : (n < 0 ∨ 1000000 - mo < n) ↔ b1 = false := by
    rw [← hb1]; unfold inB; simp; omega
   simp only [e]
  have hin : b1 = true → 0 ≤ n ∧ n ≤ 1000000 - mo := fun h => (by rw [h] at hb1; exact (inB_iff _ _ _).1 hb1); have hia := fun w1 => in_any n 0 (1000000 - mo) w1; rw [hb1] at hia; clear hmo2 hb1 HPR; have HMO := Hd hmo; have HPR := Hd hpr2; have HIA := Hd hia; have HMX := Hd hmx; have HIN2 := Hd hin; clear hmo hpr2 hia hmx hin; have rb2 := RB.out.ext HX.out; have x2 := X1.out.tr HX.out; clear RB X1 HX HM; have RB := Hd rb2; have X1 := Hd x2; clear rb2 x2; have HM := HMO; clear HMO
  cases b1
  {
  have hp6 : prErr p s n = 6 := (by rw [HPR.out, if_pos rfl]); clear HPR
  go_wp2_with (first
   | (have hgd := HIA.out
      go_at_call 66; refine (hgd _).mono ?_; rintro e _ ⟨rfl, rfl⟩
      clear hgd)
   | (with_reducible refine wpList_storeK (ty := 38) (cells := #[.int .i64 0, .bool false, .slice none 0 0, .int .i64 0]) rfl rfl RB.out ?_ ?_ ?_ ?_ ?_ ?_
      rfl; rfl; kernel_rfl; rfl; simp [Value.oneCell']; rintro w7 hb7 ho7; have k0 := hb7.cell; have x2 := X1.out.then_only ho7 (fun k (e : k = rb) => by rw [e]; exact LR.out); clear X1 RB ho7 hb7; have X1 := Hd x2
      clear x2))
  refine bodyPost_ret (v := .tuple #[sZ, .slice none 0 0, .int .i64 6]) (by simp [results, Tryz.results28, go_sem, k0, sZ]) rfl ?_; exact .inl ⟨by rw [hp6]; decide, by rw [hp6], X1.out⟩
  }
  {
  by_cases hdr : s.drive = 2
  {
  have hp0 : prErr p s n = 0 := (by rw [HPR.out, if_neg (by simp), if_neg (by simp [hdr])]); have f2 : (s.drive != 2) = false := (by simp [hdr]); obtain ⟨hn0, hn1⟩ := HIN2.out rfl; obtain ⟨pw, hpw⟩ : ∃ x, p.warm = x := ⟨_, rfl⟩; obtain ⟨pd, hpd⟩ : ∃ x, p.dirt = x := ⟨_, rfl⟩; have hbw := HPW.out; have hbd2 := HPD.out; have hbf := HFR.out; have dp := HM.out.bp.cell; rw [hpw] at hbw; rw [hpd] at hbd2; rw [hpw, hpd] at dp; clear HPR HIN2; have HP0 := Hd hp0; have HDR := Hd hdr; have PW := Hd hpw; have PD := Hd hpd; clear hp0 hdr hpw hpd
  go_upto_region 18 with (
   have hgd := HIA.out; go_at_call 66; refine (hgd _).mono ?_; rintro e _ ⟨rfl, rfl⟩
   clear hgd)
  go_quiet (fail)
  have xq : Ext wr (wr.drewN nq) := Ext.of_drewN _ _; generalize wr.drewN nq = wa at *; obtain ⟨m0, hm0⟩ : ∃ x, (if pw - fr < 0 then 0 else pw - fr) = x := ⟨_, rfl⟩; rw [hm0]; obtain ⟨wm, hwm⟩ : ∃ x, (if n < m0 then n else m0) = x := ⟨_, rfl⟩; rw [hwm]
  have hwN : wmN pw fr n = wm := by
   rw [← hwm, ← hm0]; unfold wmN; split <;> split at * <;> omega
  have hwb : 0 ≤ wm ∧ wm ≤ n := (by rw [← hwN]; unfold wmN; omega); have rb2 := RB.out.ext xq; have x2 := X1.out.tr xq; have hm2 := HM.out.ext xq; have la : rb < wa.heap.size := rb2.lt; have lw2 : w2.heap.size ≤ wa.heap.size := (by have := hm2.bm.lt; have := hm2.lm; omega); obtain ⟨l1, hl1⟩ : ∃ l, (if 0 < wm then [⟨1, 0, wm - 1⟩] else [] : List SpanD) = l := ⟨_, rfl⟩; clear d dp hwm hm0 RB X1 HM xq; have RB := Hd rb2; have X1 := Hd x2; have HM := Hd hm2; have HWN := Hd hwN; have HL1 := Hd hl1; have LA := Hd la; have LW2 := Hd lw2; clear rb2 x2 hm2 hwN hl1 la lw2
  go_upto_if 87 with (fail)
  go_cut [15] (fun v W => Hid (W.ownsRow wa.heap.size 79 3 v l1.length (spL l1)) ∧ Hid (Ext wa W))
  case first =>
   as_aux_lemma =>
    by_cases hw0 : 0 < wm
    {
    have hl : l1 = [⟨1, 0, wm - 1⟩] := (by rw [← HL1.out, if_pos hw0]); have HL := Hd hl; clear hl
    go_wp2_with (
     at_builtin
     refine wpList_app tWastes rfl rfl (v := .slice none 0 0) rfl (World.ownsRow_nil _ wa.heap.size _ _) rfl (Src.lit _ [.int .i64 1, .int .i64 0, .int .i64 (wm - 1)] 1 3 rfl 79 1) (by simp [Value.oneCell']) (by omega) (by simp) ?_; rintro v' w10 t1 t2 t3; have xt := (ext_lit wa _ _).then_only (only_grown t2) (fun b hb => by cases hb); have T1 := Hd t1; have XT := Hd xt; clear t1 xt
     clear t2 t3)
    go_meet
    case rel => exact ⟨by rw [HL.out]; exact T1, XT⟩
    }
    {
    have hl : l1 = [] := (by rw [← HL1.out, if_neg hw0]); have HL := Hd hl; clear hl; go_wp2; go_meet
    case rel => exact ⟨by rw [HL.out]; exact World.ownsRow_nil _ _ _ _, Below.refl _ _⟩
    }
  case rest =>
  obtain ⟨HO, HX⟩ := hcut; obtain ⟨wb, rfl⟩ : ∃ W, W = wc := ⟨wc, rfl⟩; obtain ⟨a1, c1, rfl⟩ := row_form HO.out; have d := (HM.out.ext HX.out).bm.cell; have dp := (HM.out.ext HX.out).bp.cell; rw [PW.out, PD.out] at dp; have hl1b : l1.length ≤ 1 := by rw [← HL1.out]; split <;> simp
  go_upto_region 22 with (fail)
  obtain ⟨fm, hfm⟩ : ∃ x, (if wm < pd - im then pd - im else wm) = x := ⟨_, rfl⟩; rw [hfm]; have hfN : max wm (pd - im) = fm := (by rw [← hfm]; split <;> omega); have hfb : 0 ≤ fm := (by omega); obtain ⟨l2, hl2⟩ : ∃ l, (if fm < n then [⟨2, fm, n - 1⟩] else [] : List SpanD) = l := ⟨_, rfl⟩
  have hpw2 : prW p s n = l1 ++ l2 := by
   unfold prW spansN; rw [PW.out, HFE.out, PD.out, HIM.out, HWN.out, HL1.out, hfN, hl2]
  clear d dp hfm; have HL2 := Hd hl2; have HPR := Hd hpw2; clear hl2 hpw2
  go_upto_if 107 with (fail)
  go_cut [15] (fun v W => Hid (W.ownsRow wa.heap.size 79 3 v (l1.length + l2.length) (spL (l1 ++ l2))) ∧ Hid (Ext wa W))
  case first =>
   as_aux_lemma =>
    by_cases hw0 : fm < n
    {
    have hl : l2 = [⟨2, fm, n - 1⟩] := (by rw [← HL2.out, if_pos hw0]); have HL := Hd hl; clear hl
    go_wp2_with (
     at_builtin
     refine wpList_app (n := l1.length) (m := 1) tWastes rfl rfl (v := .slice a1 l1.length c1) rfl (owns_ext HO.out (ext_lit _ _ _)) rfl (Src.lit _ [.int .i64 2, .int .i64 fm, .int .i64 (n - 1)] 1 3 rfl 79 1) (by simp [Value.oneCell']) (by omega) (Nat.le_trans HX.out.size (by simp)) ?_; rintro v' w10 t1 t2 t3; have xt := (HX.out.tr (ext_lit _ _ _)).then_only (only_grown t2) (fun b hb => (HO.out.lt b hb).1); have T1 := Hd t1; have XT := Hd xt; clear t1 xt
     clear t2 t3)
    go_meet
    case rel => exact ⟨by rw [HL.out]; unfold spL; rw [List.flatMap_append]; exact T1, XT⟩
    }
    {
    have hl : l2 = [] := (by rw [← HL2.out, if_neg hw0]); have HL := Hd hl; clear hl; go_wp2; go_meet
    case rel => exact ⟨by rw [HL.out, List.append_nil]; exact HO, HX⟩
    }
  case rest =>
  obtain ⟨HO2, HX2⟩ := hcut; obtain ⟨w10, rfl⟩ : ∃ W, W = wc := ⟨wc, rfl⟩; obtain ⟨a2, c2, rfl⟩ := row_form HO2.out; clear HO HX; have hmo := HM.out.ext HX2.out; have hb4 := hmo.bm; rw [HFE.out] at hb4; have d := hb4.cell; have rb2 := RB.out.ext HX2.out; have x2 := X1.out.tr HX2.out; have hfn : fr + n ≤ 1000000 := (by have := HMX.out; omega); clear RB X1; have RB := Hd rb2; have X1 := Hd x2; have HB4 := Hd hb4; have HMO := Hd hmo; clear rb2 x2 hb4 hmo
  go_upto_region 25 with (
   (with_reducible refine wpList_setK (b := mb) (i := 4) (v := .int .i64 (fr + n)) rfl rfl HB4.out ?_ ?_ ?_ ?_ ?_ ?_ ?_); rfl; rfl
   · simp
   kernel_rfl; rfl; simp [Value.oneCell']; rintro wF hbF hoF; have HBF := Hd hbF; have HOF := Hd hoF
   clear hbF hoF)
  as_aux_lemma =>
   have hm3 : MOw w2.heap.size wF mb pb ub c4 p { s with fresh := fr + n } (.slice aj p.jam.length cj) := MOw.setM (s' := { s with fresh := fr + n }) HMO.out rfl HBF.out HOF.out; have rb2 := RB.out.only HOF.out (fun e => by have := HMO.out.lm; have := LB.out; omega); have ho2 := owns_only HO2.out HOF.out (fun b hb e => by have h1 := (HO2.out.lt b hb).1; have h2 := HM.out.bm.lt; omega); have x2 := X1.out.then_only HOF.out (fun k (e : k = mb) => by rw [e]; exact Nat.le_trans LX.out HMO.out.lm); have hpt := pointers_any wF hm3 (Nat.le_trans HUL.out (by decide)); have lab : ub < wa.heap.size := (by obtain ⟨_, h, _⟩ := HM.out.bu; exact h.lt); clear d RB X1 HMO HBF HOF HB4 HO2 HX2 HM; have RB := Hd rb2; have X1 := Hd x2; have HM := Hd hm3; have HO := Hd ho2; have HPT := Hd hpt; have LAB := Hd lab; clear rb2 x2 hm3 ho2 hpt lab
   go_upto_region 26 with (
    have hgd := HPT.out; go_at_call 67; refine hgd.mono ?_; rintro e wP ⟨v, rfl, hown, hx⟩; obtain ⟨a7, c7, hv7⟩ := row_form hown; subst hv7; have hm4 := HM.out.ext hx; have rb2 := RB.out.ext hx; have ho2 := owns_ext HO.out hx; have x2 := X1.out.tr hx; have lf : ub < wF.heap.size := (by obtain ⟨_, h, _⟩ := HM.out.bu; exact h.lt); clear hx hgd HPT RB X1 HM HO; have RB := Hd rb2; have X1 := Hd x2; have HM := Hd hm4; have HO := Hd ho2; have HPO := Hd hown; have LF := Hd lf
    clear rb2 x2 hm4 ho2 hown lf)
   have hml : ∀ k, (midU n s.units k).length = s.units.length := midU_len n s.units
   have hm0 : MOw w2.heap.size wP mb pb ub c4 p { s with fresh := fr + n, units := midU n s.units 0 } (.slice aj p.jam.length cj) := by
    rw [midU_zero]; exact HM.out
   clear HM; have HML := Hd hml; have HM := Hd hm0; clear hml hm0
   go_loopw [128] (fun t128 wr => ∃ k : Nat, k ≤ s.units.length ∧ t128 = .int .i64 k ∧ Hid (MOw w2.heap.size wr mb pb ub c4 p { s with fresh := fr + n, units := midU n s.units k } (.slice aj p.jam.length cj)) ∧ Hid (Only (fun b => b = ub) wP wr)) (fun t128 _ => s.units.length - (intOf t128).toNat)
   case atStart => exact ⟨0, Nat.zero_le _, rfl, HM, Only.refl _ _⟩
   case round =>
    clear hlt hk hkb; obtain ⟨k, hk, rfl, HK, HOK⟩ := hrel; have hkb : k ≤ 3 := Nat.le_trans hk HUL.out
    by_cases hlt : k < s.units.length
    {
    have hpo := owns_only HPO.out HOK.out (fun b hb e => by have h1 := (HPO.out.lt b hb).1; have h2 := LF.out; omega); obtain ⟨g, c8, hv8, hcell⟩ := owns_pos hpo (by omega)
    cases hv8
    have c9 := hcell k (.pointer (some ⟨ub, k * 5, none⟩)) (by unfold ptrL; simp [hlt]); obtain ⟨e0, e1, e2, e3, e4⟩ := HK.out.at (i := k) (by dsimp only; rw [HML.out]; exact hlt); obtain ⟨cs, hbk, hroom⟩ := HK.out.room; have hgt := midU_at n s.units k hlt; dsimp only at e3 e4 hroom; rw [hgt] at e3 e4; rw [HML.out] at hroom; obtain ⟨u, hu⟩ : ∃ u, s.units[k] = u := ⟨_, rfl⟩; have hui := HIN.out u (by rw [← hu]; exact List.getElem_mem hlt); have hup := fun h => (inkM_ge s.units 0).2 u (by rw [← hu]; exact List.getElem_mem hlt) h; have hin3 : inkM s.units = im := HIM.out; unfold inkM at hin3; rw [hin3] at hup; have hsuc := midU_succ n s.units k hlt; have hgt2 : { s with fresh := fr + n, units := midU n s.units k }.units[k]'(by dsimp only; rw [HML.out]; exact hlt) = u := (by rw [← hu]; exact hgt); rw [hu] at e3 e4 hsuc; have hmx := HMX.out; have i1 : (0:Int) ≤ (k:Int) := (by omega); have i2 : (k:Int) < (s.units.length:Int) := (by omega); clear hpo hcell e0 e1 e2 hu hgt hin3; obtain ⟨uo, ut, uc, up, ui⟩ := u; dsimp only at *; have BK := Hd hbk; have ROOM := Hd hroom; have SUC := Hd hsuc; have GT := Hd hgt2; clear hbk hroom hsuc hgt2
    cases up
    {
    have hs2 : midU n s.units (k + 1) = midU n s.units k := by
     rw [SUC.out]; have h1 : inked n (⟨uo, ut, uc, false, ui⟩ : UnitD) = ⟨uo, ut, uc, false, ui⟩ := rfl; have h2 : (midU n s.units k)[k]'(by rw [HML.out]; exact hlt) = ⟨uo, ut, uc, false, ui⟩ := GT.out; rw [h1, ← h2, List.set_getElem_self]
    have HS2 := Hd hs2; clear hs2
    go_wp2_with (fail)
    go_roundw
    case rel => exact ⟨k + 1, by omega, rfl, by rw [HS2.out]; exact HK, HOK⟩
    case measure => simp [intOf] <;> omega
    }
    {
    have hup1 : ui ≤ im := hup rfl; have hub : ui + n ≤ 1000000 := (by omega); clear hup
    go_wp2_with (
     (with_reducible refine wpList_setK (b := ub) (i := k * 5 + 4) (v := .int .i64 (ui + n)) rfl rfl BK.out ?_ ?_ ?_ ?_ ?_ ?_ ?_); rfl; rfl
     · have := ROOM.out; omega
     kernel_rfl; rfl; simp [Value.oneCell']; rintro wS hbS hoS; have hm5 := MOw.setU (i := k) (j := 4) (u := ⟨uo, ut, uc, true, ui + n⟩) (v := .int .i64 (ui + n)) HK.out BK.out (by dsimp only; rw [HML.out]; exact hlt) (by omega) (by rw [GT.out]; rfl) hbS hoS; have ho5 := HOK.out.tr hoS; have hs2 : (midU n s.units k).set k (⟨uo, ut, uc, true, ui + n⟩ : UnitD) = midU n s.units (k + 1) := SUC.out.symm; dsimp only at hm5; rw [hs2] at hm5; have HM5 := Hd hm5; have HO5 := Hd ho5; clear hm5 ho5
     clear hoS hbS hs2)
    go_roundw
    case rel => exact ⟨k + 1, by omega, rfl, HM5, HO5⟩
    case measure => simp [intOf] <;> omega
    }
    }
    {
    have i2 : decide ((k:Int) < (s.units.length:Int)) = false := decide_eq_false (by omega); obtain rfl : k = s.units.length := (by omega); have hme := midU_end n s.units s.units.length (Nat.le_refl _); have hmk := HK.out; rw [hme] at hmk; have e1 : ({ s with fresh := fr + n, units := s.units.map (inked n) } : StD) = prD s n := (by unfold prD; rw [HFE.out]); rw [e1] at hmk; have d := hmk.bm.cell; have hpl : (prD s n).units.length = s.units.length := (by unfold prD; simp); have hpf : (prD s n).fresh = fr + n := (by unfold prD; rw [HFE.out]); have hpd : (prD s n).drive = s.drive := rfl; have hpo : (prD s n).folder = s.folder := rfl; rw [hpl, hpf, hpd, hpo] at d; have rb2 := RB.out.only HOK.out (fun e => by have := hmk.lu; have := LB.out; omega); have x2 := X1.out.then_only HOK.out (fun b (e : b = ub) => by rw [e]; exact Nat.le_trans LX.out hmk.lu); have ho2 := owns_only HO.out HOK.out (fun b hb e => by have h1 := (HO.out.lt b hb).1; have h2 := LAB.out; omega); clear RB X1 HO hpl hpf hpd hpo e1 hme HK; have RB := Hd rb2; have X1 := Hd x2; have HO := Hd ho2; have HK := Hd hmk; clear rb2 x2 ho2 hmk
    go_wp2_with (
     (with_reducible refine wpList_storeK (ty := 38) (cells := #[.int .i64 s.drive, .bool s.folder, .slice (some ⟨ub, 0, none⟩) s.units.length c4, .int .i64 (fr + n)]) rfl rfl RB.out ?_ ?_ ?_ ?_ ?_ ?_); rfl; rfl; kernel_rfl; rfl; simp [Value.oneCell']; rintro w7 hb7 ho7; have k0 := hb7.cell; have x2 := X1.out.then_only ho7 (fun k (e : k = rb) => by rw [e]; exact LR.out); have hlb := LB.out; have how := owns_only HK.out.own ho7 (fun b hb e => by have h1 := (HK.out.own.lt b hb).1; omega); have ho2 := owns_only HO.out ho7 (fun b hb e => by have h1 := (HO.out.lt b hb).1; have h2 := LA.out; omega); clear X1 RB ho7 hb7 HK HO hlb; have X1 := Hd x2; have HOW := Hd how; have HO := Hd ho2
     clear x2 how ho2)
    have hpl : (prD s n).units.length = s.units.length := (by unfold prD; simp); have hpf : (prD s n).fresh = fr + n := (by unfold prD; rw [HFE.out]); refine bodyPost_ret (v := .tuple #[sV (.slice (some ⟨ub, 0, none⟩) s.units.length c4) (prD s n), .slice a2 (l1.length + l2.length) c2, .int .i64 0]) (by simp [results, Tryz.results28, go_sem, k0, sV, prD, HFE.out]) rfl ?_; refine .inr ⟨HP0.out, _, _, rfl, ?_, ?_, X1.out⟩
    { have h := HOW.out; rw [hpl] at h; exact owns_weak h LX.out }
    · rw [HPR.out, List.length_append]
      exact owns_weak HO.out (Nat.le_trans LX.out LW2.out)
    }
  }
  {
  have hp6 : prErr p s n = 80 := (by rw [HPR.out, if_neg (by simp), if_pos hdr]); have f2 : (s.drive != 2) = true := (by simp [hdr]); clear HPR
  go_wp2_with (first
   | (have hgd := HIA.out
      go_at_call 66; refine (hgd _).mono ?_; rintro e _ ⟨rfl, rfl⟩
      clear hgd)
   | (with_reducible refine wpList_storeK (ty := 38) (cells := #[.int .i64 0, .bool false, .slice none 0 0, .int .i64 0]) rfl rfl RB.out ?_ ?_ ?_ ?_ ?_ ?_
      rfl; rfl; kernel_rfl; rfl; simp [Value.oneCell']; rintro w7 hb7 ho7; have k0 := hb7.cell; have x2 := X1.out.then_only ho7 (fun k (e : k = rb) => by rw [e]; exact LR.out); clear X1 RB ho7 hb7; have X1 := Hd x2
      clear x2))
  refine bodyPost_ret (v := .tuple #[sZ, .slice none 0 0, .int .i64 80]) (by simp [results, Tryz.results28, go_sem, k0, sZ]) rfl ?_; exact .inl ⟨by rw [hp6]; decide, by rw [hp6], X1.out⟩
  }
  }
  }
 }
 {
 have hpe : prErr p s n = e1 := (by unfold prErr; rw [he1, if_pos h1]); have hs := fun w1 (k : Ext w w1) => (hst w1 k).mono fun e w' (h : StartPost w1 p s _ e w') => (h.resolve_right fun h => h1 (he1 ▸ h.1)).2; rw [he1] at hs; have f1 : (e1 != 0) = true := (by simp [h1]); have HPE := Hd hpe; have H1 := Hd h1; have HS := Hd hs; clear hpe h1 hs; clear he1 hst
 go_enter Tryz.func28, Tryz.ntmps28
 go_upto_region 1 with (first
  | (with_reducible refine wpList_boxA (t := 34) (cs := #[.slice aj p.jam.length cj, .int .i64 p.warm, .int .i64 p.tail, .int .i64 p.dirt]) rfl rfl rfl ?_
     rintro xb w1 hx1 hx2 hx3; have PB := Hd hx1; have X1 := Hd hx2; clear hx1 hx2
     clear hx3)
  | (with_reducible refine wpList_boxA (t := 38) (cs := #[.int .i64 s.drive, .bool s.folder, .slice a s.units.length c, .int .i64 s.fresh]) rfl rfl rfl ?_
     rintro sb w2 hy1 hy2 hy3; have pb2 := PB.out.ext hy2; have x2 := X1.out.tr hy2; clear PB X1; have SB := Hd hy1; have PB := Hd pb2; have X1 := Hd x2; clear hy1 pb2 x2
     clear hy3 hy2)
  | (with_reducible refine wpList_allocA (t := 38) rfl rfl Tryz.zeroValue38 ?_
     rintro rb w2 hy1 hy2 hy3; have c2 := (PB.out.ext hy2).cell; have c3 := (SB.out.ext hy2).cell; have x2 := X1.out.tr hy2; have l2 : w.heap.size ≤ rb := Nat.le_trans X1.out.size hy3; clear PB X1 SB; have RB := Hd hy1; have X1 := Hd x2; have LR := Hd l2; clear hy1 x2 l2
     clear hy3 hy2))
 go_wp2_with (first
  | (have hgd := HS.out
     go_at_call 31; refine (hgd _ X1.out).mono ?_; rintro e w3 ⟨rfl, hx3⟩; have x2 := X1.out.tr hx3; have rb2 := RB.out.ext hx3; clear c2 c3 RB X1 hgd hx3 HS; have X1 := Hd x2; have RB := Hd rb2
     clear x2 rb2)
  | (with_reducible refine wpList_storeK (ty := 38) (cells := #[.int .i64 0, .bool false, .slice none 0 0, .int .i64 0]) rfl rfl RB.out ?_ ?_ ?_ ?_ ?_ ?_
     rfl; rfl; kernel_rfl; rfl; simp [Value.oneCell']; rintro w7 hb7 ho7; have k0 := hb7.cell; have x2 := X1.out.then_only ho7 (fun k (e : k = rb) => by rw [e]; exact LR.out); clear X1 RB ho7 hb7; have X1 := Hd x2
     clear x2))
 refine bodyPost_ret (v := .tuple #[sZ, .slice none 0 0, .int .i64 e1]) (by simp [results, Tryz.results28, go_sem, k0, sZ]) rfl ?_; exact .inl ⟨by rw [HPE.out]; exact H1.out, by rw [HPE.out], X1.out⟩
 }
end Go.Proofs.YtojobdffnnibaaaGreat