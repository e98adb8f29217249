/- The reference's Print, copy by copy. -/
import Derived.Test.YtojobdffnnibaaaGreatJ4
namespace Go.Proofs.YtojobdffnnibaaaGreat
open Go.RowKit
set_option linter.unusedVariables false
set_option linter.unusedSimpArgs false
set_option maxRecDepth 100000 in
set_option maxHeartbeats 4000000 in
theorem rPrint_any (p : PressD) (s : StD) (n : Int) (vj vu : Value) (w : World) (hj : Truths w vj p.jam) (hu : UnIn w vu s.units) (hl : s.units.length ≤ 1000000) (hn : I64 n) :
 Calls Tryz.prog 64 #[pV vj p, sV vu s, .int .i64 n] w (RPrPost w p s n) := by
 have hst := fun w1 (k : Ext w w1) => rStarted_any p s vj vu w1 (Sl.ext hj k) (hu.ext k) hl; obtain ⟨a, c, rfl, Hu⟩ := hu.form; obtain ⟨_, aj, cj, hvj, _⟩ := id hj; rw [List.length_map] at hvj; subst hvj; clear hu hl hj; unfold pV sV at *; obtain ⟨e1, he1⟩ : ∃ e, stErr p s = e := ⟨_, rfl⟩; rw [he1] at hst; have HS := Hd hst; clear hst
 go_enter Tryz.func64, Tryz.ntmps64
 go_upto_region 2 with (first
  | (with_reducible refine wpList_boxA (t := 24) (cs := #[.slice aj p.jam.length cj, .int .i64 p.warm, .int .i64 p.tail, .int .i64 p.dirt]) rfl rfl rfl ?_
     rintro xb w1 hx1 hx2 hx3; have PB := Hd hx1; have X1 := Hd hx2; clear hx1 hx2
     clear hx3)
  | (with_reducible refine wpList_boxA (t := 27) (cs := #[.int .i64 s.drive, .bool s.folder, .slice a s.units.length c, .int .i64 s.fresh]) rfl rfl rfl ?_
     rintro sb w2 hy1 hy2 hy3; have pb2 := PB.out.ext hy2; have x2 := X1.out.tr hy2; have l2 : w.heap.size ≤ sb := Nat.le_trans X1.out.size hy3; clear PB X1; have SB := Hd hy1; have PB := Hd pb2; have X1 := Hd x2; have LS := Hd l2; clear hy1 pb2 x2 l2
     clear hy3 hy2)
  | (with_reducible refine wpList_allocA (t := 27) rfl rfl Tryz.zeroValue27 ?_
     rintro rb w2 hy1 hy2 hy3; have pb2 := PB.out.ext hy2; have sb2 := SB.out.ext hy2; have c2 := pb2.cell; have c3 := sb2.cell; have x2 := X1.out.tr hy2; have l2 : w.heap.size ≤ rb := Nat.le_trans X1.out.size hy3; have hrs : rb ≠ sb := fun e => (by have := SB.out.lt; omega); clear PB X1 SB; have RB := Hd hy1; have X1 := Hd x2; have LR := Hd l2; have PB := Hd pb2; have SB := Hd sb2; have HRS := Hd hrs; clear hy1 x2 l2 pb2 sb2 hrs
     clear hy3 hy2)
  | (have hgd := HS.out
     go_at_call 46; refine (hgd _ X1.out).mono ?_; rintro e wB ⟨rfl, hx3⟩; have pb2 := PB.out.ext hx3; have sb2 := SB.out.ext hx3; have rb2 := RB.out.ext hx3; have x2 := X1.out.tr hx3; have d2 := pb2.cell; have d3 := sb2.cell; clear c2 c3 PB X1 SB RB hgd hx3 HS; have c2 := d2; have c3 := d3; have RB := Hd rb2; have X1 := Hd x2; have PB := Hd pb2; have SB := Hd sb2; clear rb2 x2 pb2 sb2
     clear d2 d3))
 by_cases h1 : e1 = 0
 {
 subst h1; obtain ⟨hpe, hsh, hsf⟩ := stErr_ok he1; have hul : s.units.length ≤ 3 := (by rw [shaped_len hsh]; exact (pErr_len hpe).2); have hul1 : 0 < s.units.length := (by rw [shaped_len hsh]; exact (pErr_len hpe).1); obtain ⟨hdr, hfr, hin⟩ := shaped_nums hsh; obtain ⟨hpw, hpt, hpd⟩ := pErr_nums hpe; have hany := safe_any he1; obtain ⟨fr, hfre⟩ : ∃ f, s.fresh = f := ⟨_, rfl⟩
 have hpr : prErr p s n = if n < 0 ∨ 1000000 - max fr (inkM s.units) < n then 6 else if s.drive ≠ 2 then 80 else 0 := by
  unfold prErr; rw [if_neg (by rw [he1]; simp), hfre]
 rw [hfre] at hfr c3; have HPR := Hd hpr; have HIN := Hd hin; have HUL := Hd hul; have HFR := Hd hfr; have HPW := Hd hpw; have HPD := Hd hpd; have HFE := Hd hfre; have HANY := Hd hany; have HUL1 := Hd hul1; clear hpr hin hul hfr hpw hpd hfre hany hul1; clear he1 hpe hsh hsf hdr hpt
 go_upto_region 6 with (fail)
 clear c2 c3
 go_loopw [11, 10] (fun t11 t10 wr => ∃ k : Nat, k ≤ s.units.length ∧ t11 = .int .i64 k ∧ t10 = .int .i64 (max fr (inkM (s.units.take k))) ∧ Hid (Ext wB wr)) (fun t11 _ _ => s.units.length - (intOf t11).toNat)
 case atStart =>
  refine ⟨0, Nat.zero_le _, rfl, ?_, Below.refl _ _⟩; rw [List.take_zero, show inkM [] = 0 from rfl]; have := HFR.out; simp; omega
 case round =>
  obtain ⟨k, hk, rfl, rfl, HX⟩ := hrel; have hkb : k ≤ 3 := Nat.le_trans hk HUL.out; have d := (SB.out.ext HX.out).cell; rw [HFE.out] at d
  by_cases hlt : k < s.units.length
  {
  obtain ⟨b, o, rfl, hc⟩ := UnIn.cells (Hu.out.ext (X1.out.tr HX.out)) (by omega); obtain ⟨_, _, _, d3, d4⟩ := hc k hlt; have hsn := inkM_snoc s.units k hlt; have hib := inkM_take_bd HIN.out k; obtain ⟨u, hu⟩ : ∃ u, s.units[k] = u := ⟨_, rfl⟩; have hui := HIN.out u (by rw [← hu]; exact List.getElem_mem hlt); rw [hu] at d3 d4 hsn; obtain ⟨ik, hik⟩ : ∃ x, inkM (s.units.take k) = x := ⟨_, rfl⟩; rw [hik] at hsn hib ⊢; obtain ⟨mk, hmk⟩ : ∃ x, max fr ik = x := ⟨_, rfl⟩; rw [hmk]; obtain ⟨uo, ut, uc, up, ui⟩ := u; dsimp only at *; have i1 : (0:Int) ≤ (k:Int) := (by omega); have i2 : (k:Int) < (s.units.length:Int) := (by omega); have HSN := Hd hsn; have HMK := Hd hmk; clear hsn hmk; clear hik hu hc
  cases up
  {
  go_wp2_with (fail)
  go_roundw
  case rel => exact ⟨k + 1, by omega, by go_num, by rw [HSN.out, ← HMK.out]; rfl, HX⟩
  case measure => simp [intOf] <;> omega
  }
  {
  go_wp2_with (fail)
  go_roundw
  case rel =>
   refine ⟨k + 1, by omega, by go_num, ?_, HX⟩; have h1 := HMK.out; rw [HSN.out, if_pos rfl]
   congr 1
   first | omega | (split <;> omega)
  case measure => simp [intOf] <;> omega
  }
  }
  {
  have i2 : decide ((k:Int) < (s.units.length:Int)) = false := decide_eq_false (by omega); obtain rfl : k = s.units.length := (by omega); rw [List.take_length]; obtain ⟨im, him⟩ : ∃ x, inkM s.units = x := ⟨_, rfl⟩; have hbd := inkM_bd HIN.out; have hpr := HPR.out; rw [him] at hbd hpr ⊢; obtain ⟨mo, hmo⟩ : ∃ m, max fr im = m := ⟨_, rfl⟩; rw [hmo] at hpr ⊢; have hmb : 0 ≤ mo ∧ mo ≤ 1000000 := (by have := HFR.out; omega); have rb2 := RB.out.ext HX.out; have pb2 := PB.out.ext HX.out; have sb2 := SB.out.ext HX.out; have x2 := X1.out.tr HX.out; clear HPR RB PB SB X1 HX; have HIM := Hd him; have HPR := Hd hpr; have HMO := Hd hmo; have RB := Hd rb2; have PB := Hd pb2; have SB := Hd sb2; have X1 := Hd x2; clear him hpr hmo rb2 pb2 sb2 x2
  by_cases hn0 : n < 0
  {
  have hp6 : prErr p s n = 6 := by rw [HPR.out, if_pos (by omega)]
  go_wp2_with (
   (with_reducible refine wpList_storeK (ty := 27) (cells := #[.int .i64 0, .bool false, .slice none 0 0, .int .i64 0]) rfl rfl RB.out ?_ ?_ ?_ ?_ ?_ ?_); rfl; rfl; kernel_rfl; rfl; simp [Value.oneCell']; rintro w7 hb7 ho7; have k0 := hb7.cell; have x2 := X1.out.then_only ho7 (fun k (e : k = rb) => by rw [e]; exact LR.out); clear X1 RB ho7 hb7; have X1 := Hd x2
   clear x2)
  refine bodyPost_ret (v := .tuple #[sZ, .slice none 0 0, .int .i64 6]) (by simp [results, Tryz.results64, go_sem, k0, sZ]) rfl ?_; exact .inl ⟨by rw [hp6]; decide, by rw [hp6], X1.out⟩
  }
  {
  by_cases hn1 : 1000000 < n
  {
  have hp6 : prErr p s n = 6 := by rw [HPR.out, if_pos (by omega)]
  go_wp2_with (
   (with_reducible refine wpList_storeK (ty := 27) (cells := #[.int .i64 0, .bool false, .slice none 0 0, .int .i64 0]) rfl rfl RB.out ?_ ?_ ?_ ?_ ?_ ?_); rfl; rfl; kernel_rfl; rfl; simp [Value.oneCell']; rintro w7 hb7 ho7; have k0 := hb7.cell; have x2 := X1.out.then_only ho7 (fun k (e : k = rb) => by rw [e]; exact LR.out); clear X1 RB ho7 hb7; have X1 := Hd x2
   clear x2)
  refine bodyPost_ret (v := .tuple #[sZ, .slice none 0 0, .int .i64 6]) (by simp [results, Tryz.results64, go_sem, k0, sZ]) rfl ?_; exact .inl ⟨by rw [hp6]; decide, by rw [hp6], X1.out⟩
  }
  {
  by_cases hn2 : 1000000 < mo + n
  {
  have hp6 : prErr p s n = 6 := by rw [HPR.out, if_pos (by omega)]
  go_wp2_with (
   (with_reducible refine wpList_storeK (ty := 27) (cells := #[.int .i64 0, .bool false, .slice none 0 0, .int .i64 0]) rfl rfl RB.out ?_ ?_ ?_ ?_ ?_ ?_); rfl; rfl; kernel_rfl; rfl; simp [Value.oneCell']; rintro w7 hb7 ho7; have k0 := hb7.cell; have x2 := X1.out.then_only ho7 (fun k (e : k = rb) => by rw [e]; exact LR.out); clear X1 RB ho7 hb7; have X1 := Hd x2
   clear x2)
  refine bodyPost_ret (v := .tuple #[sZ, .slice none 0 0, .int .i64 6]) (by simp [results, Tryz.results64, go_sem, k0, sZ]) rfl ?_; exact .inl ⟨by rw [hp6]; decide, by rw [hp6], X1.out⟩
  }
  {
  by_cases hdr : s.drive = 2
  {
  have hp0 : prErr p s n = 0 := (by rw [HPR.out, if_neg (by omega), if_neg (by simp [hdr])]); have f2 : (s.drive != 2) = false := (by simp [hdr]); obtain ⟨pw, hpw⟩ : ∃ x, p.warm = x := ⟨_, rfl⟩; obtain ⟨pd, hpd⟩ : ∃ x, p.dirt = x := ⟨_, rfl⟩; have hbw := HPW.out; have hbd2 := HPD.out; have hbf := HFR.out; have d := SB.out.cell; have pb2 := PB.out; rw [HFE.out] at d; rw [hpw] at hbw; rw [hpd] at hbd2; rw [hpw, hpd] at pb2; have hun := Hu.out.ext X1.out; clear HPR PB; have HP0 := Hd hp0; have HDR := Hd hdr; have PW := Hd hpw; have PD := Hd hpd; have PB := Hd pb2; have HUN := Hd hun; clear hp0 hdr hpw hpd pb2 hun
  go_upto_region 15 with (first
   | (with_reducible refine wpList_build0 tRUnits rfl rfl ?_
      intro v0 w5 hx5 hown5; obtain ⟨a5, c5, hv5⟩ := row_form hown5; subst hv5; have c9 := (SB.out.ext hx5).cell; rw [HFE.out] at c9; clear d; have HO := Hd hown5; have HX := Hd hx5
      clear hown5 hx5)
   | (at_builtin
      refine wpList_app tRUnits rfl rfl (v := .slice a5 0 c5) rfl HO.out rfl (UnIn.src (HUN.out.ext HX.out)) (uL_one s.units) (by have := HUL.out; omega) HX.out.size ?_; intro v6 w6 hown6 hgr6 hf6; rw [Nat.zero_add, List.nil_append] at hown6; have hx6 := ext_grown HX.out HO.out hgr6; obtain ⟨a6, c6, hv6⟩ := row_form hown6; subst hv6; have d := (SB.out.ext hx6).cell; rw [HFE.out] at d; clear HO HX c9 hgr6 hf6; have HO := Hd hown6; have HX := Hd hx6
      clear hown6 hx6)
   | (with_reducible refine wpList_setK (b := sb) (i := 2) (v := .slice a6 s.units.length c6) rfl rfl (SB.out.ext HX.out) ?_ ?_ ?_ ?_ ?_ ?_ ?_
      rfl; rfl
      · simp
      kernel_rfl; rfl; rfl; rintro w7 hb7 ho7; have d7 := hb7.cell; have HB7 := Hd hb7; have HO7 := Hd ho7
      clear hb7 ho7))
  have how := owns_only HO.out HO7.out (fun b hb e => by have h1 := (HO.out.lt b hb).1; have h2 := SB.out.lt; omega); obtain ⟨ub, cu, hv6⟩ := row_pos how HUL1.out
  cases hv6
  have hrs0 : RS w.heap.size w7 sb ub c6 (prD s 0) := by
   rw [prD_zero]; exact RS.mk' rfl HB7.out (owns_weak how X1.out.size) HUL1.out LS.out
  have hpx : xb ≠ sb := fun e => absurd (blk_ty PB.out (e ▸ SB.out)) (by decide); have pb2 := (PB.out.ext HX.out).only HO7.out hpx; have rb2 := (RB.out.ext HX.out).only HO7.out HRS.out; have x2 := (X1.out.tr HX.out).then_only HO7.out (fun k (e : k = sb) => by rw [e]; exact LS.out); have lu2 : ub < w7.heap.size := (how.lt ub rfl).2; have lr2 : rb < wr.heap.size := RB.out.lt; have lus : wr.heap.size ≤ ub := (how.lt ub rfl).1; have lwo : w.heap.size ≤ wr.heap.size := X1.out.size; have hxu : xb ≠ ub := fun e => (by have := PB.out.lt; omega); have hru : rb ≠ ub := fun e => (by omega); have lsb : sb < w7.heap.size := Nat.lt_of_lt_of_le (Nat.lt_of_lt_of_le SB.out.lt HX.out.size) HO7.out.size; clear RB PB SB X1 HO HX HO7 HB7 HUN how; have RB := Hd rb2; have PB := Hd pb2; have X1 := Hd x2; have RS0 := Hd hrs0; have LU := Hd lu2; have LR2 := Hd lr2; have LUS := Hd lus; have LSB := Hd lsb; have HXS := Hd hpx; have HXU := Hd hxu; have HRU := Hd hru; have LWO := Hd lwo; clear rb2 pb2 x2 hrs0 lu2 lr2 lus lsb hpx hxu hru lwo; obtain ⟨wo, rfl⟩ : ∃ W, W = wr := ⟨wr, rfl⟩
  go_upto_region 17 with (fail)
  clear d7 d hlt hk hkb
  go_loopw [13, 12] (fun t13 t12 wr => ∃ m : Nat, (m:Int) ≤ n ∧ t13 = .int .i64 m ∧ Hid (wr.ownsRow w7.heap.size 167 3 t12 (spansN pw fr pd im m).length (spL (spansN pw fr pd im m))) ∧ Hid (RS w.heap.size wr sb ub c6 (prD s m)) ∧ Hid (Only (fun b => b = sb ∨ b = ub) w7 wr)) (fun t13 _ _ => n.toNat - (intOf t13).toNat)
  case atStart =>
   refine ⟨0, by omega, rfl, ?_, RS0, Only.refl _ _⟩; have e0 : spansN pw fr pd im ((0:Nat):Int) = [] := spansN_zero pw fr pd im (by omega); rw [e0]; exact World.ownsRow_nil _ _ _ _
  case round =>
   obtain ⟨m, hm, rfl, HSP, HRS2, HON⟩ := hrel; obtain ⟨a3, c3, rfl⟩ := row_form HSP.out
   by_cases hlt : (m:Int) < n
   {
   obtain ⟨us, hus⟩ : ∃ us, (prD s m).units = us := ⟨_, rfl⟩; have husl : us.length = s.units.length := by rw [← hus]; exact prD_len s m
   have husb : ∀ u ∈ us, 0 ≤ u.ink ∧ u.ink ≤ 2000000 := fun u hu => by
    rw [← hus] at hu; obtain ⟨v, hv, rfl⟩ := List.mem_map.1 hu; have := HIN.out v hv; unfold inked
    split
    · dsimp only; omega
    omega
   have hrs1 : RS w.heap.size wr sb ub c6 { prD s m with units := midU 1 us 0 } := by
    rw [midU_zero, ← hus]; exact HRS2.out
   have hmid : ∀ k, (midU 1 us k).length = s.units.length := fun k => (by rw [midU_len]; exact husl); have hfrm : (prD s m).fresh = fr + m := (by unfold prD; rw [HFE.out]); have HUS := Hd hus; have HUSL := Hd husl; have HUSB := Hd husb; have RS1 := Hd hrs1; have HMID := Hd hmid; have HFRM := Hd hfrm; clear hus husl husb hrs1 hmid hfrm
   go_upto_region 21 with (fail)
   obtain ⟨w8, rfl⟩ : ∃ W, W = wr := ⟨wr, rfl⟩
   go_loopw [15, 14] (fun t15 t14 wr => ∃ (k : Nat) (ca : Int), k ≤ s.units.length ∧ t15 = .int .i64 k ∧ t14 = .int .i64 ca ∧ Hid (ca = if (us.take k).any (dirtyU pd) then 2 else 0) ∧ Hid (RS w.heap.size wr sb ub c6 { prD s m with units := midU 1 us k }) ∧ Hid (Only (fun b => b = ub) w8 wr)) (fun t15 _ _ => s.units.length - (intOf t15).toNat)
   case atStart => exact ⟨0, 0, by omega, rfl, rfl, rfl, RS1, Only.refl _ _⟩
   case round =>
    obtain ⟨k, ca, hk, rfl, rfl, HCA, HRK, HOK⟩ := hrel; have hkb : k ≤ 3 := Nat.le_trans hk HUL.out; have d := (HRK.out.bs' (l := s.units.length) (f := fr + m) rfl rfl (HMID.out k) HFRM.out).cell
    by_cases hlt2 : k < s.units.length
    {
    obtain ⟨e0, e1, e2, e3, e4⟩ := HRK.out.at (i := k) (by dsimp only; rw [HMID.out]; exact hlt2); obtain ⟨cs, hbk, hroom⟩ := HRK.out.room; have hku : k < us.length := (by rw [HUSL.out]; exact hlt2); have hgt := midU_at 1 us k hku; dsimp only at e3 e4 hroom; rw [hgt] at e3 e4; rw [HMID.out] at hroom; have hub := HUSB.out us[k] (List.getElem_mem hku); have hsame := midU_same 1 us k hku; have hsuc := midU_succ 1 us k hku; have hanys := any_snoc (dirtyU pd) us k hku; obtain ⟨u, hu⟩ : ∃ u, us[k] = u := ⟨_, rfl⟩; have hgt2 : { prD s m with units := midU 1 us k }.units[k]'(by dsimp only; rw [HMID.out]; exact hlt2) = u := (by rw [← hu]; exact hgt); rw [hu] at e3 e4 hub hsame hsuc hanys; have dp := ((PB.out.only HON.out (fun h => h.elim HXS.out HXU.out)).only HOK.out HXU.out).cell; have i1 : (0:Int) ≤ (k:Int) := (by omega); have i2 : (k:Int) < (s.units.length:Int) := (by omega); clear e0 e1 e2 hu hgt; obtain ⟨uo, ut, uc, up, ui⟩ := u; dsimp only at *; have BK := Hd hbk; have ROOM := Hd hroom; have SUC := Hd hsuc; have GT := Hd hgt2; have SAME := Hd hsame; have ANY := Hd hanys; clear hbk hroom hsuc hgt2 hsame hanys
    cases up
    {
    skip
    as_aux_lemma =>
     have hca2 : ca = if (us.take (k + 1)).any (dirtyU pd) then 2 else 0 := by
      rw [ANY.out, HCA.out]; simp [dirtyU]
     have HCA2 := Hd hca2; clear hca2
     go_wp2_with (fail)
     go_roundw
     case rel => exact ⟨k + 1, ca, by omega, by go_num, rfl, HCA2, by rw [SAME.out rfl]; exact HRK, HOK⟩
     case measure => simp [intOf] <;> omega
    }
    {
    go_upto_region 24 with (fail)
    go_quiet (fail)
    have xq : Ext wr (wr.drewN nq) := Ext.of_drewN _ _; generalize wr.drewN nq = wq at *; have rs2 := HRK.out.ext xq; have ok2 := HOK.out.tr (Only.of_ext xq); have bk2 := BK.out.ext xq; have d' := (rs2.bs' (l := s.units.length) (f := fr + m) rfl rfl (HMID.out k) HFRM.out).cell; have e4' := xq.cellSome e4; have dp' := ((PB.out.only HON.out (fun h => h.elim HXS.out HXU.out)).only ok2 HXU.out).cell; clear d e3 e4 dp HRK HOK BK xq; have HRK := Hd rs2; have HOK := Hd ok2; have BK := Hd bk2; clear rs2 ok2 bk2
    by_cases hdi : pd ≤ ui
    {
    have hca2 : (2:Int) = if (us.take (k + 1)).any (dirtyU pd) then 2 else 0 := by
     rw [ANY.out]; simp [dirtyU, hdi]
    have HCA2 := Hd hca2; clear hca2
    go_wp2_with (
     (with_reducible refine wpList_setK (b := ub) (i := k * 5 + 4) (v := .int .i64 (ui + 1)) rfl rfl BK.out ?_ ?_ ?_ ?_ ?_ ?_ ?_); rfl; rfl
     · have := ROOM.out; omega
     kernel_rfl; rfl; simp [Value.oneCell']; rintro wS hbS hoS; have hm5 := RS.setU (i := k) (j := 4) (u := ⟨uo, ut, uc, true, ui + 1⟩) (v := .int .i64 (ui + 1)) HRK.out BK.out (by dsimp only; rw [HMID.out]; exact hlt2) (by omega) (by rw [GT.out]; rfl) hbS hoS; have ho5 := HOK.out.tr hoS; have hs2 : (midU 1 us k).set k (⟨uo, ut, uc, true, ui + 1⟩ : UnitD) = midU 1 us (k + 1) := SUC.out.symm; dsimp only at hm5; rw [hs2] at hm5; have HM5 := Hd hm5; have HO5 := Hd ho5; clear hm5 ho5
     clear hoS hbS hs2)
    go_roundw
    case rel => exact ⟨k + 1, 2, by omega, by go_num, rfl, HCA2, HM5, HO5⟩
    case measure => simp [intOf] <;> omega
    }
    {
    have hca2 : ca = if (us.take (k + 1)).any (dirtyU pd) then 2 else 0 := by
     rw [ANY.out, HCA.out]; simp [dirtyU, hdi]
    have HCA2 := Hd hca2; clear hca2
    go_wp2_with (
     (with_reducible refine wpList_setK (b := ub) (i := k * 5 + 4) (v := .int .i64 (ui + 1)) rfl rfl BK.out ?_ ?_ ?_ ?_ ?_ ?_ ?_); rfl; rfl
     · have := ROOM.out; omega
     kernel_rfl; rfl; simp [Value.oneCell']; rintro wS hbS hoS; have hm5 := RS.setU (i := k) (j := 4) (u := ⟨uo, ut, uc, true, ui + 1⟩) (v := .int .i64 (ui + 1)) HRK.out BK.out (by dsimp only; rw [HMID.out]; exact hlt2) (by omega) (by rw [GT.out]; rfl) hbS hoS; have ho5 := HOK.out.tr hoS; have hs2 : (midU 1 us k).set k (⟨uo, ut, uc, true, ui + 1⟩ : UnitD) = midU 1 us (k + 1) := SUC.out.symm; dsimp only at hm5; rw [hs2] at hm5; have HM5 := Hd hm5; have HO5 := Hd ho5; clear hm5 ho5
     clear hoS hbS hs2)
    go_roundw
    case rel => exact ⟨k + 1, ca, by omega, by go_num, rfl, HCA2, HM5, HO5⟩
    case measure => simp [intOf] <;> omega
    }
    }
    }
    {
    skip
    as_aux_lemma =>
     have i2 : decide ((k:Int) < (s.units.length:Int)) = false := decide_eq_false (by omega); obtain rfl : k = s.units.length := by omega
     have hrse : RS w.heap.size wr sb ub c6 { prD s m with units := us.map (inked 1) } := by
      rw [← midU_end 1 us s.units.length (by rw [HUSL.out]; exact Nat.le_refl _)]; exact HRK.out
     have hcae : ca = if pd ≤ im + m then 2 else 0 := by
      rw [HCA.out, List.take_of_length_le (by rw [HUSL.out]; exact Nat.le_refl _), ← HUS.out]; have h1 := any_dirty s.units pd m; have h2 := inkM_any s.units (fun u hu => (HIN.out u hu).1) (HANY.out HDR.out) pd m; rw [HIM.out] at h2; have h3 : (prD s m).units.any (dirtyU pd) = decide (pd ≤ im + m) := h1.trans h2; rw [h3]; simp
     have d1 := (hrse.bs' (l := s.units.length) (f := fr + m) rfl rfl (by dsimp only; rw [List.length_map]; exact HUSL.out) HFRM.out).cell; have dp1 := ((PB.out.only HON.out (fun h => h.elim HXS.out HXU.out)).only HOK.out HXU.out).cell; have ho9 := HON.out.then HOK.out (fun b _ (e : b = ub) => .inr e); have hsp9 := owns_only HSP.out HOK.out (fun b hb e => by have h1 := (HSP.out.lt b hb).1; have h2 := LU.out; omega); clear d HRK HON HOK HSP HCA; obtain ⟨w9, rfl⟩ : ∃ W, W = wr := ⟨wr, rfl⟩; obtain ⟨cc, hcc⟩ : ∃ x, causeN pw fr pd im m = x := ⟨_, rfl⟩; have hcc2 : cc = if fr + m < pw then 1 else ca := (by rw [hcae, ← hcc]; rfl); have hcc3 : cc = 0 ∨ cc = 1 ∨ cc = 2 := (by rw [hcc2, hcae]; split <;> (try split) <;> simp); have HRS3 := Hd hrse; have HON := Hd ho9; have HSP := Hd hsp9; have HCC2 := Hd hcc2; have HCC := Hd hcc; have HCC3 := Hd hcc3; clear hrse ho9 hsp9 hcc2 hcc hcc3; clear hcae
     go_upto_if 109 with (fail)
     go_cut [14] (fun v W => v = .int .i64 cc ∧ Hid (W = w9))
     case first =>
      by_cases hfw : fr + m < pw
      {
      have e1 : cc = 1 := (by rw [HCC2.out, if_pos hfw]); have E1 := Hd e1; clear e1; go_wp2; go_meet
      case rel => exact ⟨by rw [E1.out], rfl⟩
      }
      {
      have e1 : cc = ca := (by rw [HCC2.out, if_neg hfw]); have E1 := Hd e1; clear e1; go_wp2; go_meet
      case rel => exact ⟨by rw [E1.out], rfl⟩
      }
     case rest =>
     obtain ⟨rfl, HWW⟩ := hcut; obtain rfl := HWW.out; clear HWW; obtain ⟨w9, rfl⟩ : ∃ W, W = wc := ⟨wc, rfl⟩; have hadd := spansN_succ pw fr pd im m (by omega) (by omega); have hmc : ((m + 1 : Nat) : Int) = (m:Int) + 1 := (by omega); rw [HCC.out, ← hmc] at hadd; obtain ⟨l, hl⟩ : ∃ l, spansN pw fr pd im m = l := ⟨_, rfl⟩; have hsp := HSP.out; have hl2 := spansN_len pw fr pd im m; rw [hl] at hadd hsp hl2; obtain ⟨N, hN⟩ : ∃ N, l.length = N := ⟨_, rfl⟩; rw [hN] at hsp hl2; rw [hl, hN]; have hbk9 := HRS3.out.bs' (l := s.units.length) (f := fr + m) rfl rfl (by dsimp only; rw [List.length_map]; exact HUSL.out) HFRM.out; have hfr' : (prD s ((m + 1 : Nat) : Int)).fresh = fr + m + 1 := by unfold prD; rw [HFE.out, hmc]; dsimp only; omega
     have hun' : (prD s ((m + 1 : Nat) : Int)).units = us.map (inked 1) := by
      rw [← HUS.out, hmc]; exact (map_inked_succ s.units m).symm
     clear HSP; have HADD := Hd hadd; have HSP := Hd hsp; have HNN := Hd hN; have SBK := Hd hbk9; have HFR2 := Hd hfr'; have HUN2 := Hd hun'; clear hadd hsp hN hbk9 hfr' hun'; clear hl hmc
     go_upto_region 30 with (
      (with_reducible refine wpList_setK (b := sb) (i := 3) (v := .int .i64 (fr + m + 1)) rfl rfl SBK.out ?_ ?_ ?_ ?_ ?_ ?_ ?_); rfl; rfl
      · simp
      kernel_rfl; rfl; simp [Value.oneCell']; rintro wS hbS hoS; have hlen : { prD s m with units := us.map (inked 1) }.units.length = s.units.length := (by dsimp only; rw [List.length_map]; exact HUSL.out); have hrs4 : RS w.heap.size wS sb ub c6 (prD s ((m + 1 : Nat) : Int)) := RS.setS HRS3.out HUN2.out (by rw [hlen, HFR2.out]; exact hbS) hoS; have hon4 := HON.out.then hoS (fun b _ (e : b = sb) => .inl e); have hsp4 := owns_only HSP.out hoS (fun b hb e => by have h1 := (HSP.out.lt b hb).1; have h2 := LSB.out; omega); clear HRS3 HON HSP SBK hbS hoS hlen d1 dp1; have HRS := Hd hrs4; have HON := Hd hon4; have HSP := Hd hsp4
      clear hrs4 hon4 hsp4)
     by_cases hc0 : cc = 0
     {
     subst hc0; have e1 : spansN pw fr pd im ((m + 1 : Nat) : Int) = l := (by rw [← HADD.out]; unfold addSpan; rw [if_pos rfl]); have E1 := Hd e1; clear e1; go_wp2
     go_roundw
     case rel => exact ⟨m + 1, by omega, by go_num, by rw [E1.out, HNN.out]; exact HSP, HRS, HON⟩
     case measure => simp [intOf] <;> omega
     }
     {
     have e0 : (cc == 0) = false := by simpa using hc0
     rcases List.eq_nil_or_concat l with hl0 | ⟨l', x, hl0⟩
     {
     have hN0 : N = 0 := (by rw [← HNN.out, hl0]; rfl); subst hN0; have e1 : spansN pw fr pd im ((m + 1 : Nat) : Int) = [⟨cc, m, m⟩] := (by rw [← HADD.out, hl0]; exact addSpan_nil _ _ hc0); have E1 := Hd e1; have HL0 := Hd hl0; clear e1 hl0
     go_wp2_with (
      at_builtin
      refine wpList_app (n := 0) (m := 1) tRWastes rfl rfl (v := .slice a3 0 c3) rfl (owns_ext HSP.out (ext_lit _ _ _)) rfl (Src.lit _ [.int .i64 cc, .int .i64 m, .int .i64 m] 1 3 rfl 167 1) (by simp [Value.oneCell']) (by omega) (Nat.le_trans HON.out.size (by simp)) ?_; rintro v' w10 t1 t2 t3; have xt := (HON.out.then (Only.of_ext (S := fun _ => False) (ext_lit wS _ _)) (fun _ _ h => h.elim)).then (only_grown t2) (fun b hb e => by have h1 := (HSP.out.lt b e).1; omega); have rs5 := (HRS.out.ext (ext_lit wS _ _)).only (only_grown t2) (fun e => by have h1 := (HSP.out.lt _ e).1; have h2 := LSB.out; omega) (fun e => by have h1 := (HSP.out.lt _ e).1; have h2 := LU.out; omega); have T1 := Hd t1; have XT := Hd xt; have RS5 := Hd rs5; clear t1 xt rs5
      clear t2 t3)
     go_roundw
     case rel => exact ⟨m + 1, by omega, by go_num, by rw [E1.out]; have h := T1.out; rw [HL0.out] at h; exact h, RS5, XT⟩
     case measure => simp [intOf] <;> omega
     }
     {
     rw [List.concat_eq_append] at hl0; obtain ⟨q, hq⟩ : ∃ q, l'.length = q := ⟨_, rfl⟩; have hNq : N = q + 1 := (by rw [← HNN.out, hl0, List.length_append, hq]; rfl); subst hNq; obtain ⟨g, cg, cur, hv3, hbg, hsz, htk⟩ := owns_blkN HSP.out (by omega)
     cases hv3
     have hla := spL_last l' x; rw [hq] at hla
     have hcell : ∀ j u, (spL (l' ++ [x]))[j]? = some u → wS.cell? ⟨g, j, none⟩ = some u := fun j u hj => by
      obtain ⟨g', c', hv', hc'⟩ := owns_pos HSP.out (by omega)
      cases hv'
      exact hc' j u (by rw [hl0]; exact hj)
     have z0 := hcell _ _ hla.1; have z1 := hcell _ _ hla.2.1; have z2 := hcell _ _ hla.2.2; have hset := spL_set l' x m; rw [hq] at hset; obtain ⟨xc, xl, xh⟩ := x; dsimp only at *; have hgl := (HSP.out.lt g rfl); have i4 : ((q + 1 : Nat) : Int) - 1 = (q:Int) := (by omega); have hqb : q ≤ 1 := (by omega); have hq0 := hq; have HL0 := Hd hl0; have HBG := Hd hbg; have HSZ := Hd hsz; have HSET := Hd hset; have HGL := Hd hgl; have HQ := Hd hq; clear hl0 hbg hsz hset hgl hq; clear hla hcell htk; have hel : (l' ++ [(⟨xc, xl, xh⟩ : SpanD)] ++ [(⟨cc, m, m⟩ : SpanD)]).length = q + 1 + 1 := (by simp [hq0]); have EL := Hd hel; clear hel
     by_cases hxc : cc = xc
     {
     subst hxc
     by_cases hxh : xh = m - 1
     {
     subst hxh
     have e1 : spansN pw fr pd im ((m + 1 : Nat) : Int) = l' ++ [⟨cc, xl, m⟩] := by
      rw [← HADD.out, HL0.out]; exact addSpan_same l' ⟨cc, xl, m - 1⟩ m hc0 rfl
     have hel2 : (l' ++ [(⟨cc, xl, m⟩ : SpanD)]).length = q + 1 := (by simp [hq0]); have E1 := Hd e1; have EL2 := Hd hel2; clear e1 hel2
     go_wp2_with (
      (with_reducible refine wpList_setK (b := g) (i := q * 3 + 2) (v := .int .i64 m) rfl rfl HBG.out ?_ ?_ ?_ ?_ ?_ ?_ ?_); rfl; rfl
      · have := HSZ.out; omega
      kernel_rfl; rfl; simp [Value.oneCell']; rintro wT hbT hoT; have t1 := owns_putN HSP.out HBG.out hbT; rw [HL0.out, HSET.out] at t1; have xt := HON.out.then hoT (fun b hb e => by have h1 := HGL.out.1; omega); have rs5 := HRS.out.only hoT (fun e => by have h1 := HGL.out.1; have h2 := LSB.out; omega) (fun e => by have h1 := HGL.out.1; have h2 := LU.out; omega); have T1 := Hd t1; have XT := Hd xt; have RS5 := Hd rs5; clear t1 xt rs5
      clear hbT hoT)
     go_roundw
     case rel => exact ⟨m + 1, by omega, by go_num, by rw [E1.out, EL2.out]; exact T1, RS5, XT⟩
     case measure => simp [intOf] <;> omega
     }
     {
     have e1 : spansN pw fr pd im ((m + 1 : Nat) : Int) = l' ++ [⟨cc, xl, xh⟩] ++ [⟨cc, m, m⟩] := by
      rw [← HADD.out, HL0.out]; exact addSpan_new l' ⟨cc, xl, xh⟩ m cc hc0 (fun h => hxh h.2)
     have q1 : (xh == (m:Int) - 1) = false := (by simpa using hxh); have E1 := Hd e1; clear e1
     go_wp2_with (
      at_builtin
      refine wpList_app (n := q + 1) (m := 1) tRWastes rfl rfl (v := .slice (some ⟨g, 0, none⟩) (q + 1) c3) rfl (owns_ext HSP.out (ext_lit _ _ _)) rfl (Src.lit _ [.int .i64 cc, .int .i64 m, .int .i64 m] 1 3 rfl 167 1) (by simp [Value.oneCell']) (by omega) (Nat.le_trans HON.out.size (by simp)) ?_; rintro v' w10 t1 t2 t3; have xt := (HON.out.then (Only.of_ext (S := fun _ => False) (ext_lit wS _ _)) (fun _ _ h => h.elim)).then (only_grown t2) (fun b hb e => by have h1 := (HSP.out.lt b e).1; omega); have rs5 := (HRS.out.ext (ext_lit wS _ _)).only (only_grown t2) (fun e => by have h1 := (HSP.out.lt _ e).1; have h2 := LSB.out; omega) (fun e => by have h1 := (HSP.out.lt _ e).1; have h2 := LU.out; omega); have e2 : spL l ++ [Value.int .i64 cc, .int .i64 m, .int .i64 m] = spL (l' ++ [(⟨cc, xl, xh⟩ : SpanD)] ++ [(⟨cc, m, m⟩ : SpanD)]) := (by rw [HL0.out]; exact (spL_snoc (l' ++ [(⟨cc, xl, xh⟩ : SpanD)]) ⟨cc, m, m⟩).symm); rw [e2] at t1; have T1 := Hd t1; have XT := Hd xt; have RS5 := Hd rs5; clear t1 xt rs5
      clear t2 t3 e2)
     go_roundw
     case rel => exact ⟨m + 1, by omega, by go_num, by rw [E1.out, EL.out]; exact T1, RS5, XT⟩
     case measure => simp [intOf] <;> omega
     }
     }
     {
     have e1 : spansN pw fr pd im ((m + 1 : Nat) : Int) = l' ++ [⟨xc, xl, xh⟩] ++ [⟨cc, m, m⟩] := by
      rw [← HADD.out, HL0.out]; exact addSpan_new l' ⟨xc, xl, xh⟩ m cc hc0 (fun h => hxc h.1.symm)
     have q1 : (xc == cc) = false := (by simpa using fun h => hxc h.symm); have E1 := Hd e1; clear e1
     go_wp2_with (
      at_builtin
      refine wpList_app (n := q + 1) (m := 1) tRWastes rfl rfl (v := .slice (some ⟨g, 0, none⟩) (q + 1) c3) rfl (owns_ext HSP.out (ext_lit _ _ _)) rfl (Src.lit _ [.int .i64 cc, .int .i64 m, .int .i64 m] 1 3 rfl 167 1) (by simp [Value.oneCell']) (by omega) (Nat.le_trans HON.out.size (by simp)) ?_; rintro v' w10 t1 t2 t3; have xt := (HON.out.then (Only.of_ext (S := fun _ => False) (ext_lit wS _ _)) (fun _ _ h => h.elim)).then (only_grown t2) (fun b hb e => by have h1 := (HSP.out.lt b e).1; omega); have rs5 := (HRS.out.ext (ext_lit wS _ _)).only (only_grown t2) (fun e => by have h1 := (HSP.out.lt _ e).1; have h2 := LSB.out; omega) (fun e => by have h1 := (HSP.out.lt _ e).1; have h2 := LU.out; omega); have e2 : spL l ++ [Value.int .i64 cc, .int .i64 m, .int .i64 m] = spL (l' ++ [(⟨xc, xl, xh⟩ : SpanD)] ++ [(⟨cc, m, m⟩ : SpanD)]) := (by rw [HL0.out]; exact (spL_snoc (l' ++ [(⟨xc, xl, xh⟩ : SpanD)]) ⟨cc, m, m⟩).symm); rw [e2] at t1; have T1 := Hd t1; have XT := Hd xt; have RS5 := Hd rs5; clear t1 xt rs5
      clear t2 t3 e2)
     go_roundw
     case rel => exact ⟨m + 1, by omega, by go_num, by rw [E1.out, EL.out]; exact T1, RS5, XT⟩
     case measure => simp [intOf] <;> omega
     }
     }
     }
    }
   }
   {
   skip
   as_aux_lemma =>
    have i2 : decide ((m:Int) < n) = false := decide_eq_false hlt; have hmn : (m:Int) = n := (by omega); have d := (HRS2.out.bs' (dr := s.drive) (fo := s.folder) (l := s.units.length) (f := fr + m) rfl rfl (prD_len s m) (by unfold prD; rw [HFE.out])).cell; have rb3 := RB.out.only HON.out (fun h => h.elim HRS.out HRU.out); have x2 := X1.out.then_only HON.out (fun b e => by have h1 := LS.out; have h2 := LUS.out; have h3 := LWO.out; rcases e with e | e <;> omega); have hsp := HSP.out; obtain ⟨l, hl⟩ : ∃ l, spansN pw fr pd im m = l := ⟨_, rfl⟩; rw [hl] at hsp ⊢
    have hlp : prW p s n = l := by
     rw [← hl, hmn]; unfold prW; rw [PW.out, HFE.out, PD.out, HIM.out]
    have hrsn : RS w.heap.size wr sb ub c6 (prD s n) := (by rw [← hmn]; exact HRS2.out); clear RB X1 HSP HRS2 hl; have RB := Hd rb3; have X1 := Hd x2; have HSP := Hd hsp; have HLP := Hd hlp; have HRS2 := Hd hrsn; have HMN := Hd hmn; clear rb3 x2 hsp hlp hrsn hmn
    go_wp2_with (
     (with_reducible refine wpList_storeK (ty := 27) (cells := #[.int .i64 s.drive, .bool s.folder, .slice (some ⟨ub, 0, none⟩) s.units.length c6, .int .i64 (fr + m)]) rfl rfl RB.out ?_ ?_ ?_ ?_ ?_ ?_); rfl; rfl; kernel_rfl; rfl; simp [Value.oneCell']; rintro w9 hb9 ho9; have k0 := hb9.cell; have x2 := X1.out.then_only ho9 (fun k (e : k = rb) => by rw [e]; exact LR.out); have how := owns_only HRS2.out.own ho9 (fun b hb (e : b = rb) => by cases hb; exact HRU.out e.symm); have ho2 := owns_only HSP.out ho9 (fun b hb (e : b = rb) => by have h1 := (HSP.out.lt b hb).1; have h2 := LR2.out; have h3 := LUS.out; have h4 := LU.out; omega); clear X1 RB ho9 hb9; have X1 := Hd x2; have HOW := Hd how; have HO := Hd ho2
     clear x2 how ho2)
    have hpl : (prD s n).units.length = s.units.length := prD_len s n; refine bodyPost_ret (v := .tuple #[sV (.slice (some ⟨ub, 0, none⟩) s.units.length c6) (prD s n), .slice a3 l.length c3, .int .i64 0]) (by simp [results, Tryz.results64, go_sem, k0, sV, prD, HFE.out, HMN.out]) rfl ?_; refine .inr ⟨HP0.out, _, _, rfl, ?_, ?_, X1.out⟩
    { have h := HOW.out; rw [hpl] at h; exact h }
    · rw [HLP.out]
      exact owns_weak HO.out (Nat.le_trans (Nat.le_trans LWO.out LUS.out) (Nat.le_of_lt LU.out))
   }
  }
  {
  have hp6 : prErr p s n = 80 := (by rw [HPR.out, if_neg (by omega), if_pos hdr]); have f2 : (s.drive != 2) = true := by simp [hdr]
  go_wp2_with (
   (with_reducible refine wpList_storeK (ty := 27) (cells := #[.int .i64 0, .bool false, .slice none 0 0, .int .i64 0]) rfl rfl RB.out ?_ ?_ ?_ ?_ ?_ ?_); rfl; rfl; kernel_rfl; rfl; simp [Value.oneCell']; rintro w7 hb7 ho7; have k0 := hb7.cell; have x2 := X1.out.then_only ho7 (fun k (e : k = rb) => by rw [e]; exact LR.out); clear X1 RB ho7 hb7; have X1 := Hd x2
   clear x2)
  refine bodyPost_ret (v := .tuple #[sZ, .slice none 0 0, .int .i64 80]) (by simp [results, Tryz.results64, go_sem, k0, sZ]) rfl ?_; exact .inl ⟨by rw [hp6]; decide, by rw [hp6], X1.out⟩
  }
  }
  }
  }
  }
 }
 {
 have hpe : prErr p s n = e1 := (by unfold prErr; rw [he1, if_pos h1]); have f1 : (e1 != 0) = true := (by simp [h1]); have HPE := Hd hpe; have H1 := Hd h1; clear hpe h1; clear he1
 go_wp2_with (
  (with_reducible refine wpList_storeK (ty := 27) (cells := #[.int .i64 0, .bool false, .slice none 0 0, .int .i64 0]) rfl rfl RB.out ?_ ?_ ?_ ?_ ?_ ?_); rfl; rfl; kernel_rfl; rfl; simp [Value.oneCell']; rintro w7 hb7 ho7; have k0 := hb7.cell; have x2 := X1.out.then_only ho7 (fun k (e : k = rb) => by rw [e]; exact LR.out); clear X1 RB ho7 hb7; have X1 := Hd x2
  clear x2)
 refine bodyPost_ret (v := .tuple #[sZ, .slice none 0 0, .int .i64 e1]) (by simp [results, Tryz.results64, go_sem, k0, sZ]) rfl ?_; exact .inl ⟨by rw [HPE.out]; exact H1.out, by rw [HPE.out], X1.out⟩
 }
end Go.Proofs.YtojobdffnnibaaaGreat