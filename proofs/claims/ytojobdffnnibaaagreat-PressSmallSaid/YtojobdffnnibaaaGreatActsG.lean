/- PressActs: the reference's Program. -/
import Derived.Test.YtojobdffnnibaaaGreatActsD
namespace Go.Proofs.YtojobdffnnibaaaGreat
open Go.RowKit
set_option linter.unusedVariables false
set_option linter.unusedSimpArgs false
/-- What Program answers: the state, how many were carried out, the error. -/
def pgS (p : PressD) (s : StD) (l : List (Int × Int)) : StD := if pgErr p s l ≠ 0 then zD else (progR p s 0 l).1
def pgN (p : PressD) (s : StD) (l : List (Int × Int)) : Int := if pgErr p s l ≠ 0 then 0 else (progR p s 0 l).2.1
def pgE (p : PressD) (s : StD) (l : List (Int × Int)) : Int := if pgErr p s l ≠ 0 then pgErr p s l else (progR p s 0 l).2.2
theorem UnIn.lt {w : World} {v : Value} {us : List UnitD} (h : UnIn w v us) (h0 : 0 < us.length) : ∀ b, v.ownBlock = some b → b < w.heap.size := fun b hb => by
 obtain ⟨_, a, c, hv, _, h2⟩ := h; obtain ⟨b', o, ha, hc⟩ := h2 h0; subst hv; subst ha; have e : b' = b := (by simpa [Value.ownBlock] using hb); subst e; obtain ⟨x, hx⟩ := uC_some us[0] 0 (by omega); have := hc 0 h0 0 (by omega); rw [hx] at this; exact World.block_lt_of_cell? w _ this
set_option maxRecDepth 100000 in
set_option maxHeartbeats 4000000 in
theorem rProgram_any (p : PressD) (s : StD) (l : List (Int × Int)) (vj vu vl : Value) (w : World) (hj : Truths w vj p.jam) (hu : UnIn w vu s.units) (hl : s.units.length ≤ 1000000) (hv : AcIn w vl l) :
 Calls Tryz.prog 41 #[pV vj p, sV vu s, vl] w fun e w' => ∃ v, e = .returned (.tuple #[sV v (pgS p s l), .int .i64 (pgN p s l), .int .i64 (pgE p s l)]) ∧ UnIn w' v (pgS p s l).units ∧ Ext w w' ∧ ∀ b, v.ownBlock = some b → vu.ownBlock = some b ∨ w.heap.size ≤ b := by
 have hst := fun w1 (kx : Ext w w1) => rStarted_any p s vj vu w1 (Sl.ext hj kx) (hu.ext kx) hl; have hac := fun (t : StD) (g : Good p t) (k x : Int) v W (kx : Ext w W) (hv : UnIn W v t.units) => rAct_any g k x vj v W (Sl.ext hj kx) hv; have hlt0 := fun (h0 : 0 < s.units.length) => hu.lt h0; have hui := hu; obtain ⟨a, c, rfl, _⟩ := hu.form; clear hu; obtain ⟨_, aj, cj, hvj, _⟩ := hj; rw [List.length_map] at hvj; subst hvj; have hlm := hv.1; obtain ⟨al, cl, rfl, HV⟩ := hv.form; clear hv; obtain ⟨n, hn⟩ : ∃ n, s.units.length = n := ⟨_, rfl⟩; unfold pV sV at hst hac; rw [hn] at hst hl hlt0 hui; unfold pV sV; rw [hn]; obtain ⟨e1, he1⟩ : ∃ e, stErr p s = e := ⟨_, rfl⟩; rw [he1] at hst; have HST := Hd hst; have HAC := Hd hac; have HN := Hd hn; have HE1 := Hd he1; have HL := Hd hl; have HLT := Hd hlt0; have HUI := Hd hui; clear hst hac hn he1 hl hlt0 hui
 go_enter Tryz.func41, Tryz.ntmps41
 go_upto_region 2 with (first
  | (with_reducible refine wpList_boxA (t := 24) (cs := #[.slice aj p.jam.length cj, .int .i64 p.warm, .int .i64 p.tail, .int .i64 p.dirt]) rfl rfl rfl ?_
     rintro xb w1 hx1 hx2 hx3; have PB := Hd hx1; have X1 := Hd hx2; clear hx1 hx2
     clear hx3)
  | (with_reducible refine wpList_boxA (t := 27) (cs := #[.int .i64 s.drive, .bool s.folder, .slice a n c, .int .i64 s.fresh]) rfl rfl rfl ?_
     rintro sb w2 hy1 hy2 hy3; have pb2 := PB.out.ext hy2; have ls := Nat.le_trans X1.out.size hy3; have x2 := X1.out.tr hy2; clear PB X1; have SB := Hd hy1; have PB := Hd pb2; have X1 := Hd x2; have LS := Hd ls; clear hy1 pb2 x2 ls
     clear hy3 hy2)
  | (with_reducible refine wpList_allocA (t := 27) rfl rfl Tryz.zeroValue27 ?_
     rintro rb w4 hy1 hy2 hy3; have pb2 := PB.out.ext hy2; have sb2 := SB.out.ext hy2; have hrs : sb ≠ rb := fun e => (by have := SB.out.lt; omega); have lr := Nat.le_trans X1.out.size hy3; have x2 := X1.out.tr hy2; have c1 := pb2.cell; have c2 := sb2.cell; clear PB X1 SB; have SB := Hd sb2; have PB := Hd pb2; have X1 := Hd x2; have RB := Hd hy1; have LR := Hd lr; have HRS := Hd hrs; clear sb2 pb2 x2 hy1 lr hrs
     clear hy3 hy2)
  | (go_at_call 46
     refine (HST.out _ X1.out).mono ?_; rintro e w5 ⟨rfl, hx⟩; have pb2 := PB.out.ext hx; have sb2 := SB.out.ext hx; have rb2 := RB.out.ext hx; have x2 := X1.out.tr hx; clear c1 c2 PB X1 SB RB hx HST; have c1 := pb2.cell; have c2 := sb2.cell; have SB := Hd sb2; have PB := Hd pb2; have X1 := Hd x2; have RB := Hd rb2
     clear sb2 pb2 x2 rb2))
 by_cases h1 : e1 = 0
 {
 subst h1; have g := (good_iff p s).1 HE1.out; have hpg : pgErr p s l = if 200 < l.length then 2 else 0 := by unfold pgErr; rw [if_neg (by rw [HE1.out]; simp)]
 by_cases h2 : 200 < l.length
 {
 have hp2 : pgErr p s l = 2 := (by rw [hpg, if_pos h2]); have hs1 : pgS p s l = zD := (by unfold pgS; rw [if_pos (by rw [hp2] <;> decide)]); have hs2 : pgN p s l = 0 := (by unfold pgN; rw [if_pos (by rw [hp2] <;> decide)]); have hs3 : pgE p s l = 2 := (by unfold pgE; rw [if_pos (by rw [hp2] <;> decide)]; exact hp2); have i1 : (200:Int) < (l.length:Int) := (by omega); clear hpg hp2 g h2; have HS1 := Hd hs1; have HS2 := Hd hs2; have HS3 := Hd hs3; clear hs1 hs2 hs3
 go_wp2_with (first
  | (with_reducible refine wpList_storeK (ty := 27) (cells := #[.int .i64 0, .bool false, .slice none 0 0, .int .i64 0]) rfl rfl RB.out ?_ ?_ ?_ ?_ ?_ ?_
     rfl; rfl; kernel_rfl; rfl; simp [Value.oneCell']; rintro w7 hb7 ho7; have k0 := hb7.cell; have x2 := X1.out.then_only ho7 (fun k (e : k = rb) => by rw [e]; exact LR.out); clear X1 RB ho7 hb7; have X1 := Hd x2
     clear x2)
 )
 refine bodyPost_ret (v := .tuple #[sZ, .int .i64 0, .int .i64 2]) (by simp [results, Tryz.results41, go_sem, k0, sZ]) rfl ?_; exact ⟨.slice none 0 0, by rw [HS1.out, HS2.out, HS3.out] <;> rfl, by rw [HS1.out]; exact UnIn.nil _, X1.out, fun b hb => by cases hb⟩
 }
 {
 have hp2 : pgErr p s l = 0 := (by rw [hpg, if_neg h2]); have hs1 : pgS p s l = (progR p s 0 l).1 := (by unfold pgS; rw [if_neg (by rw [hp2] <;> decide)]); have hs2 : pgN p s l = (progR p s 0 l).2.1 := (by unfold pgN; rw [if_neg (by rw [hp2] <;> decide)]); have hs3 : pgE p s l = (progR p s 0 l).2.2 := (by unfold pgE; rw [if_neg (by rw [hp2] <;> decide)]); have i1 : decide ((200:Int) < (l.length:Int)) = false := decide_eq_false (by omega); have hn1 : 1 ≤ n ∧ n ≤ 3 := by have := g.small; rw [HN.out] at this; exact ⟨this.2, this.1⟩
 have hbl : ∀ b, (Value.slice a n c).ownBlock = some b → b ≠ sb ∧ b ≠ rb := fun b hb => by
  have h1 := HLT.out (by omega) b hb; have h2 := LS.out; have h3 := LR.out; omega
 have hu5 := HUI.out.ext X1.out; clear hpg hp2 h2; have HS1 := Hd hs1; have HS2 := Hd hs2; have HS3 := Hd hs3; have GG := Hd g; have HN1 := Hd hn1; have HBL := Hd hbl; have HU5 := Hd hu5; clear hs1 hs2 hs3 g hn1 hbl hu5
 go_upto_region 7 with (fail)
 clear i1 c1 c2
 go_loopw [10] (fun t10 wr => ∃ (k : Nat) (t : StD) (ta : Option Addr) (tc : Nat), k ≤ l.length ∧ t10 = .int .i64 k ∧ t.units.length = n ∧ Hid (Good p t) ∧ Hid (progR p t k (l.drop k) = progR p s 0 l) ∧ Hid (Blk wr sb #[.int .i64 t.drive, .bool t.folder, .slice ta n tc, .int .i64 t.fresh] 27) ∧ Hid (UnIn wr (.slice ta n tc) t.units) ∧ Hid (∀ b, (Value.slice ta n tc).ownBlock = some b → b ≠ sb ∧ b ≠ rb) ∧ Hid (Blk wr xb #[.slice aj p.jam.length cj, .int .i64 p.warm, .int .i64 p.tail, .int .i64 p.dirt] 24) ∧ Hid (Blk wr rb #[.int .i64 0, .bool false, .slice none 0 0, .int .i64 0] 27) ∧ Hid (Ext w wr) ∧ Hid (∀ b, (Value.slice ta n tc).ownBlock = some b → (Value.slice a n c).ownBlock = some b ∨ w.heap.size ≤ b)) (fun t10 _ => l.length - (intOf t10).toNat)
 case atStart => exact ⟨0, s, a, c, Nat.zero_le _, rfl, HN.out, GG, rfl, SB, HU5, HBL, PB, RB, X1, fun b hb => .inl hb⟩
 case round =>
  obtain ⟨k, t, ta, tc, hk, rfl, htu, GT, HPR, SBT, UT, BLT, PBT, RBT, XT, BLO⟩ := hrel
  by_cases hlt : k < l.length
  {
  obtain ⟨b1, o1, rfl, hc1⟩ := HV.out (by omega); obtain ⟨d1, d2⟩ := hc1 k hlt; have hpr := HPR.out; rw [List.drop_eq_getElem_cons hlt] at hpr; obtain ⟨⟨ak, ax⟩, hax⟩ : ∃ x, l[k] = x := ⟨_, rfl⟩; rw [hax] at d1 d2 hpr; dsimp only at d1 d2; have hact := fun W (kx : Ext wr W) => HAC.out t GT.out ak ax (.slice ta n tc) W (XT.out.tr kx) (UT.out.ext kx); have hau := actD_units p t ak ax; rw [htu] at hau; obtain ⟨er, her⟩ : ∃ x, actErr p t ak ax = x := ⟨_, rfl⟩; obtain ⟨u, hud⟩ : ∃ x, actD p t ak ax = x := ⟨_, rfl⟩; rw [her, hud] at hact; rw [hud] at hau; have i1 : (0:Int) ≤ (k:Int) := (by omega); have i2 : (k:Int) < (l.length:Int) := by omega
  have hS : ∀ W, Ext wr W → ((∀ j, W.cell? ⟨xb, j, none⟩ = (#[.slice aj p.jam.length cj, .int .i64 p.warm, .int .i64 p.tail, .int .i64 p.dirt] : Array Value)[j]?) ∧ (∀ j, W.cell? ⟨sb, j, none⟩ = (#[.int .i64 t.drive, .bool t.folder, .slice ta n tc, .int .i64 t.fresh] : Array Value)[j]?) ∧ (W.cell? ⟨b1, o1 + k * 2, none⟩ = some (.int .i64 ak) ∧ W.cell? ⟨b1, o1 + k * 2 + 1, none⟩ = some (.int .i64 ax))) := fun W hx =>
   ⟨(PBT.out.ext hx).cell, (SBT.out.ext hx).cell, (XT.out.tr hx).cellSome d1, (XT.out.tr hx).cellSome d2⟩
  clear hc1 d1 d2 hax; have HPN := Hd hpr; have HACT := Hd hact; have HER := Hd her; have HAU := Hd hau; have HUD := Hd hud; have HS := Hd hS; clear hpr hact her hau hud hS
  go_upto_region 9 with (fail)
  go_cut [11, 12] (fun v11 v12 W => ∃ nb a6 c6, v11 = .pointer (some ⟨nb, 0, none⟩) ∧ v12 = .int .i64 er ∧ Hid (Blk W nb #[.int .i64 u.drive, .bool u.folder, .slice a6 n c6, .int .i64 u.fresh] 27) ∧ Hid (er = 0 → W.ownsRow wr.heap.size 63 5 (.slice a6 n c6) n (uL u.units)) ∧ Hid (Ext wr W))
  case first =>
   as_aux_lemma =>
    have xd : Ext wr wr.drew := (Below.refl _ wr).drew; refine wp_region_K (fun wx => (∀ j, wx.cell? ⟨xb, j, none⟩ = (#[.slice aj p.jam.length cj, .int .i64 p.warm, .int .i64 p.tail, .int .i64 p.dirt] : Array Value)[j]?) ∧ (∀ j, wx.cell? ⟨sb, j, none⟩ = (#[.int .i64 t.drive, .bool t.folder, .slice ta n tc, .int .i64 t.fresh] : Array Value)[j]?) ∧ (wx.cell? ⟨b1, o1 + k * 2, none⟩ = some (.int .i64 ak) ∧ wx.cell? ⟨b1, o1 + k * 2 + 1, none⟩ = some (.int .i64 ax))) 11 (by kernel_rfl) (HS.out _ xd) (fun kh => ?_); generalize wr.drew = wA at *; have XC := Hd xd; clear xd; refine kX 2 kh ?_; simp only [kS]; refine kX 3 kh ?_; simp only [kS]; refine kX 4 kh ?_; simp only [kS]; refine kX 0 kh ?_; simp only [kS]; refine kX 1 kh ?_; simp only [kS]; refine kX 5 kh ?_; simp only [kS]; refine rK [6, 10] ?_; refine xK 6 (fun K hK => ?_) ?_
    {
    refine cK #[.agg #[.slice aj p.jam.length cj, .int .i64 p.warm, .int .i64 p.tail, .int .i64 p.dirt], .agg #[.int .i64 t.drive, .bool t.folder, .slice ta n tc, .int .i64 t.fresh], .agg #[.int .i64 ak, .int .i64 ax]] Tryz.func53 (HACT.out _ XC.out) ?_; rintro e wy ⟨v6, rfl, hv6, hx, how6⟩; obtain ⟨a6, c6, hvf, _⟩ := hv6.form; rw [HAU.out] at hvf how6; subst hvf; refine ⟨_, rfl, ?_⟩; have ow : er = 0 → wy.ownsRow wr.heap.size 63 5 (.slice a6 n c6) n (uL u.units) := fun h => owns_weak (how6 h) XC.out.size; have OW := Hd ow; (try (have NE : Hid (er = 0 → ∀ b, (Value.slice a6 n c6).ownBlock = some b → ¬ b = nb) := Hd (fun h b hb e => by have h1 := ((how6 h).lt b hb).1; have h2 := NB.out.lt; omega))); (try (replace NB := Hd (NB.out.ext hx))); replace XC := Hd (XC.out.tr hx); clear hx hv6 how6 ow; refine kG hK (HS.out _ XC.out) fun kh => ?_; (try simp only [kS]); refine kX 7 kh ?_; simp only [kS]; refine kX 8 kh ?_; simp only [kS]; refine rK [9, 10] ?_; refine xK 9 (fun K hK => ?_) ?_
    {
    go_simp; refine kG hK (HS.out _ XC.out) fun kh => ?_; (try simp only [kS]); refine rK [10] ?_; refine xK 10 (fun K hK => ?_) ?_
    {
    refine step_allocA (t := 27) rfl rfl Tryz.zeroValue27 ?_; intro nb wy hb hx hl; have LNB := Hd (Nat.le_trans XC.out.size hl); have NB := Hd hb; (try (have NE : Hid (er = 0 → ∀ b, (Value.slice a6 n c6).ownBlock = some b → ¬ b = nb) := Hd (fun h b hb e => by have h1 := ((OW.out h).lt b hb).2; omega))); (try (replace OW := Hd (fun h => owns_ext (OW.out h) hx))); clear hb hl; replace XC := Hd (XC.out.tr hx); clear hx; refine kG hK (HS.out _ XC.out) fun kh => ?_; (try simp only [kS]); refine rK [11] ?_; refine xK 11 (fun K hK => ?_) ?_
    {
    refine sK #[.int .i64 u.drive, .bool u.folder, .slice a6 n c6, .int .i64 u.fresh] NB.out ?_; intro wz hb ho; have xc := XC.out.then_only ho (fun b (e : b = nb) => by rw [e]; exact LNB.out); have ow : er = 0 → wz.ownsRow wr.heap.size 63 5 (.slice a6 n c6) n (uL u.units) := fun h => owns_only (OW.out h) ho (NE.out h); clear OW NB XC ho NE; have OW := Hd ow; have NB := Hd hb; have XC := Hd xc; clear ow hb xc; refine kH hK rfl ?_; (try clear kh); (try simp only [kS]); refine rK [12] ?_; refine xK 12 (fun K hK => ?_) ?_
    {
    go_simp; refine kH hK rfl ?_; (try clear kh); (try simp only [kS]); refine dK ?_ _; go_wp2; go_meet
    case rel => exact ⟨nb, a6, c6, rfl, rfl, NB, OW, XC⟩
    }
    exact nK
    }
    exact nK
    }
    exact nK
    }
    refine xK 10 (fun K hK => ?_) ?_
    {
    refine step_allocA (t := 27) rfl rfl Tryz.zeroValue27 ?_; intro nb wy hb hx hl; have LNB := Hd (Nat.le_trans XC.out.size hl); have NB := Hd hb; (try (have NE : Hid (er = 0 → ∀ b, (Value.slice a6 n c6).ownBlock = some b → ¬ b = nb) := Hd (fun h b hb e => by have h1 := ((OW.out h).lt b hb).2; omega))); (try (replace OW := Hd (fun h => owns_ext (OW.out h) hx))); clear hb hl; replace XC := Hd (XC.out.tr hx); clear hx; refine kG hK (HS.out _ XC.out) fun kh => ?_; (try simp only [kS]); refine rK [9, 11] ?_; refine xK 9 (fun K hK => ?_) ?_
    {
    go_simp; refine kG hK (HS.out _ XC.out) fun kh => ?_; (try simp only [kS]); refine rK [11] ?_; refine xK 11 (fun K hK => ?_) ?_
    {
    refine sK #[.int .i64 u.drive, .bool u.folder, .slice a6 n c6, .int .i64 u.fresh] NB.out ?_; intro wz hb ho; have xc := XC.out.then_only ho (fun b (e : b = nb) => by rw [e]; exact LNB.out); have ow : er = 0 → wz.ownsRow wr.heap.size 63 5 (.slice a6 n c6) n (uL u.units) := fun h => owns_only (OW.out h) ho (NE.out h); clear OW NB XC ho NE; have OW := Hd ow; have NB := Hd hb; have XC := Hd xc; clear ow hb xc; refine kH hK rfl ?_; (try clear kh); (try simp only [kS]); refine rK [12] ?_; refine xK 12 (fun K hK => ?_) ?_
    {
    go_simp; refine kH hK rfl ?_; (try clear kh); (try simp only [kS]); refine dK ?_ _; go_wp2; go_meet
    case rel => exact ⟨nb, a6, c6, rfl, rfl, NB, OW, XC⟩
    }
    exact nK
    }
    exact nK
    }
    refine xK 11 (fun K hK => ?_) ?_
    {
    refine sK #[.int .i64 u.drive, .bool u.folder, .slice a6 n c6, .int .i64 u.fresh] NB.out ?_; intro wz hb ho; have xc := XC.out.then_only ho (fun b (e : b = nb) => by rw [e]; exact LNB.out); have ow : er = 0 → wz.ownsRow wr.heap.size 63 5 (.slice a6 n c6) n (uL u.units) := fun h => owns_only (OW.out h) ho (NE.out h); clear OW NB XC ho NE; have OW := Hd ow; have NB := Hd hb; have XC := Hd xc; clear ow hb xc; refine kH hK rfl ?_; (try clear kh); (try simp only [kS]); refine rK [9] ?_; refine xK 9 (fun K hK => ?_) ?_
    {
    go_simp; refine kG hK (HS.out _ XC.out) fun kh => ?_; (try simp only [kS]); refine rK [12] ?_; refine xK 12 (fun K hK => ?_) ?_
    {
    go_simp; refine kH hK rfl ?_; (try clear kh); (try simp only [kS]); refine dK ?_ _; go_wp2; go_meet
    case rel => exact ⟨nb, a6, c6, rfl, rfl, NB, OW, XC⟩
    }
    exact nK
    }
    exact nK
    }
    exact nK
    }
    exact nK
    }
    refine xK 10 (fun K hK => ?_) ?_
    {
    refine step_allocA (t := 27) rfl rfl Tryz.zeroValue27 ?_; intro nb wy hb hx hl; have LNB := Hd (Nat.le_trans XC.out.size hl); have NB := Hd hb; (try (have NE : Hid (er = 0 → ∀ b, (Value.slice a6 n c6).ownBlock = some b → ¬ b = nb) := Hd (fun h b hb e => by have h1 := ((OW.out h).lt b hb).2; omega))); (try (replace OW := Hd (fun h => owns_ext (OW.out h) hx))); clear hb hl; replace XC := Hd (XC.out.tr hx); clear hx; refine kG hK (HS.out _ XC.out) fun kh => ?_; (try simp only [kS]); refine rK [6] ?_; refine xK 6 (fun K hK => ?_) ?_
    {
    refine cK #[.agg #[.slice aj p.jam.length cj, .int .i64 p.warm, .int .i64 p.tail, .int .i64 p.dirt], .agg #[.int .i64 t.drive, .bool t.folder, .slice ta n tc, .int .i64 t.fresh], .agg #[.int .i64 ak, .int .i64 ax]] Tryz.func53 (HACT.out _ XC.out) ?_; rintro e wy ⟨v6, rfl, hv6, hx, how6⟩; obtain ⟨a6, c6, hvf, _⟩ := hv6.form; rw [HAU.out] at hvf how6; subst hvf; refine ⟨_, rfl, ?_⟩; have ow : er = 0 → wy.ownsRow wr.heap.size 63 5 (.slice a6 n c6) n (uL u.units) := fun h => owns_weak (how6 h) XC.out.size; have OW := Hd ow; (try (have NE : Hid (er = 0 → ∀ b, (Value.slice a6 n c6).ownBlock = some b → ¬ b = nb) := Hd (fun h b hb e => by have h1 := ((how6 h).lt b hb).1; have h2 := NB.out.lt; omega))); (try (replace NB := Hd (NB.out.ext hx))); replace XC := Hd (XC.out.tr hx); clear hx hv6 how6 ow; refine kG hK (HS.out _ XC.out) fun kh => ?_; (try simp only [kS]); refine kX 7 kh ?_; simp only [kS]; refine kX 8 kh ?_; simp only [kS]; refine rK [9, 11] ?_; refine xK 9 (fun K hK => ?_) ?_
    {
    go_simp; refine kG hK (HS.out _ XC.out) fun kh => ?_; (try simp only [kS]); refine rK [11] ?_; refine xK 11 (fun K hK => ?_) ?_
    {
    refine sK #[.int .i64 u.drive, .bool u.folder, .slice a6 n c6, .int .i64 u.fresh] NB.out ?_; intro wz hb ho; have xc := XC.out.then_only ho (fun b (e : b = nb) => by rw [e]; exact LNB.out); have ow : er = 0 → wz.ownsRow wr.heap.size 63 5 (.slice a6 n c6) n (uL u.units) := fun h => owns_only (OW.out h) ho (NE.out h); clear OW NB XC ho NE; have OW := Hd ow; have NB := Hd hb; have XC := Hd xc; clear ow hb xc; refine kH hK rfl ?_; (try clear kh); (try simp only [kS]); refine rK [12] ?_; refine xK 12 (fun K hK => ?_) ?_
    {
    go_simp; refine kH hK rfl ?_; (try clear kh); (try simp only [kS]); refine dK ?_ _; go_wp2; go_meet
    case rel => exact ⟨nb, a6, c6, rfl, rfl, NB, OW, XC⟩
    }
    exact nK
    }
    exact nK
    }
    refine xK 11 (fun K hK => ?_) ?_
    {
    refine sK #[.int .i64 u.drive, .bool u.folder, .slice a6 n c6, .int .i64 u.fresh] NB.out ?_; intro wz hb ho; have xc := XC.out.then_only ho (fun b (e : b = nb) => by rw [e]; exact LNB.out); have ow : er = 0 → wz.ownsRow wr.heap.size 63 5 (.slice a6 n c6) n (uL u.units) := fun h => owns_only (OW.out h) ho (NE.out h); clear OW NB XC ho NE; have OW := Hd ow; have NB := Hd hb; have XC := Hd xc; clear ow hb xc; refine kH hK rfl ?_; (try clear kh); (try simp only [kS]); refine rK [9] ?_; refine xK 9 (fun K hK => ?_) ?_
    {
    go_simp; refine kG hK (HS.out _ XC.out) fun kh => ?_; (try simp only [kS]); refine rK [12] ?_; refine xK 12 (fun K hK => ?_) ?_
    {
    go_simp; refine kH hK rfl ?_; (try clear kh); (try simp only [kS]); refine dK ?_ _; go_wp2; go_meet
    case rel => exact ⟨nb, a6, c6, rfl, rfl, NB, OW, XC⟩
    }
    exact nK
    }
    exact nK
    }
    exact nK
    }
    exact nK
    }
    exact nK
  case rest =>
  obtain ⟨nb, a6, c6, rfl, rfl, NB, OW, XC⟩ := hcut; obtain ⟨w6, rfl⟩ : ∃ W, W = wc := ⟨wc, rfl⟩; have sb6 := SBT.out.ext XC.out; have rb6 := RBT.out.ext XC.out; have pb6 := PBT.out.ext XC.out; have x6 := XT.out.tr XC.out; have lsb := SBT.out.lt; have lrb := RBT.out.lt; have lxt := XT.out.size; clear SBT RBT PBT XT; have c3 := sb6.cell; have c4 := NB.out.cell; have SB6 := Hd sb6; have RB6 := Hd rb6; have PB6 := Hd pb6; have X6 := Hd x6; have LSB := Hd lsb; have LRB := Hd lrb; have LXT := Hd lxt; clear sb6 rb6 pb6 x6 lsb lrb lxt
  by_cases h9 : er = 0
  {
  subst h9; have hnx := HPN.out; rw [progR_ok (by exact HER.out)] at hnx; dsimp only at hnx
  have hgu : Good p u := by
   have := act_good GT.out HER.out; rw [← HUD.out]; unfold actD; rw [if_pos HER.out]; exact this
  rw [HUD.out] at hnx; have ow := OW.out rfl; have hun : UnIn w6 (.slice a6 n c6) u.units := UnIn.of_owns (by rw [HAU.out]; exact ow) (by rw [HAU.out]; have := HL.out; omega)
  have hbn : ∀ b, (Value.slice a6 n c6).ownBlock = some b → b ≠ sb ∧ b ≠ rb := fun b hb => by
   have h1 := (ow.lt b hb).1; have h2 := LSB.out; have h3 := LRB.out; omega
  have hbo : ∀ b, (Value.slice a6 n c6).ownBlock = some b → (Value.slice a n c).ownBlock = some b ∨ w.heap.size ≤ b := fun b hb => .inr (Nat.le_trans LXT.out (ow.lt b hb).1); clear ow; have HNX := Hd hnx; have GU := Hd hgu; have UN := Hd hun; have HBN := Hd hbn; have HBO := Hd hbo; clear hnx hgu hun hbn hbo
  go_wp2_with (
   (with_reducible refine wpList_storeK (ty := 27) (cells := #[.int .i64 u.drive, .bool u.folder, .slice a6 n c6, .int .i64 u.fresh]) rfl rfl SB6.out ?_ ?_ ?_ ?_ ?_ ?_); rfl; rfl; kernel_rfl; rfl; simp [Value.oneCell']; rintro w7 hb7 ho7; have x2 := X6.out.then_only ho7 (fun k (e : k = sb) => by rw [e]; exact LS.out); have rb7 := RB6.out.only ho7 (fun e => HRS.out e.symm); have pb7 := PB6.out.only ho7 (fun e => absurd (blk_ty PB6.out (e ▸ SB6.out)) (by decide)); have un7 := UN.out.only ho7 (fun b hb => (HBN.out b hb).1); clear X6 RB6 PB6 UN ho7 SB6 c3 c4; have X6 := Hd x2; have RB6 := Hd rb7; have PB6 := Hd pb7; have UN := Hd un7; have SB6 := Hd hb7
   clear x2 rb7 pb7 un7 hb7)
  go_roundw
  case rel => exact ⟨k + 1, u, a6, c6, by omega, by go_num, HAU.out, GU, HNX, SB6, UN, HBN, PB6, RB6, X6, HBO⟩
  case measure => simp [intOf] <;> omega
  }
  {
  have f1' : (er != 0) = true := (by simp [h9]); have hne : actErr p t ak ax ≠ 0 := (by rw [HER.out]; exact h9); have hnx := HPN.out; rw [progR_no (by exact hne)] at hnx; have un6 := UT.out.ext XC.out; have e1 : pgS p s l = t := (by rw [HS1.out, ← hnx]); have e2 : pgN p s l = (k:Int) := (by rw [HS2.out, ← hnx]); have e3 : pgE p s l = er := (by rw [HS3.out, ← hnx]; exact HER.out); clear hnx hne HPN HS1 HS2 HS3; have UN := Hd un6; have E1 := Hd e1; have E2 := Hd e2; have E3 := Hd e3; clear un6 e1 e2 e3
  go_wp2_with (
   (with_reducible refine wpList_storeK (ty := 27) (cells := #[.int .i64 t.drive, .bool t.folder, .slice ta n tc, .int .i64 t.fresh]) rfl rfl RB6.out ?_ ?_ ?_ ?_ ?_ ?_); rfl; rfl; kernel_rfl; rfl; simp [Value.oneCell']; rintro w7 hb7 ho7; have k0 := hb7.cell; have x2 := X6.out.then_only ho7 (fun k (e : k = rb) => by rw [e]; exact LR.out); have un7 := UN.out.only ho7 (fun b hb => (BLT.out b hb).2); clear X6 RB6 UN ho7 hb7; have X6 := Hd x2; have UN := Hd un7
   clear x2 un7)
  refine bodyPost_ret (v := .tuple #[.agg #[.int .i64 t.drive, .bool t.folder, .slice ta n tc, .int .i64 t.fresh], .int .i64 k, .int .i64 er]) (by simp [results, Tryz.results41, go_sem, k0]) rfl ?_; exact ⟨.slice ta n tc, by rw [E1.out, E2.out, E3.out] <;> rfl, by rw [E1.out]; exact UN.out, X6.out, BLO.out⟩
  }
  }
  {
  have i2 : decide ((k:Int) < (l.length:Int)) = false := decide_eq_false (by omega); have hnx := HPR.out; rw [List.drop_eq_nil_of_le (by omega)] at hnx; rw [progR_nil] at hnx; obtain rfl : k = l.length := (by omega); have e1 : pgS p s l = t := (by rw [HS1.out, ← hnx]); have e2 : pgN p s l = (l.length:Int) := (by rw [HS2.out, ← hnx]); have e3 : pgE p s l = 0 := (by rw [HS3.out, ← hnx]); have c3 := SBT.out.cell; clear hnx HS1 HS2 HS3 HPR; have E1 := Hd e1; have E2 := Hd e2; have E3 := Hd e3; clear e1 e2 e3
  go_wp2_with (
   (with_reducible refine wpList_storeK (ty := 27) (cells := #[.int .i64 t.drive, .bool t.folder, .slice ta n tc, .int .i64 t.fresh]) rfl rfl RBT.out ?_ ?_ ?_ ?_ ?_ ?_); rfl; rfl; kernel_rfl; rfl; simp [Value.oneCell']; rintro w7 hb7 ho7; have k0 := hb7.cell; have x2 := XT.out.then_only ho7 (fun k (e : k = rb) => by rw [e]; exact LR.out); have un7 := UT.out.only ho7 (fun b hb => (BLT.out b hb).2); clear XT RBT UT ho7 hb7; have XT := Hd x2; have UT := Hd un7
   clear x2 un7)
  refine bodyPost_ret (v := .tuple #[.agg #[.int .i64 t.drive, .bool t.folder, .slice ta n tc, .int .i64 t.fresh], .int .i64 l.length, .int .i64 0]) (by simp [results, Tryz.results41, go_sem, k0]) rfl ?_; exact ⟨.slice ta n tc, by rw [E1.out, E2.out, E3.out] <;> rfl, by rw [E1.out]; exact UT.out, XT.out, BLO.out⟩
  }
 }
 }
 {
 have f1 : (e1 != 0) = true := (by simp [h1]); have f2 : (e1 == 0) = false := (by simp [h1]); have hp2 : pgErr p s l = e1 := (by unfold pgErr; rw [HE1.out, if_pos h1]); have hs1 : pgS p s l = zD := (by unfold pgS; rw [if_pos (by rw [hp2]; exact h1)]); have hs2 : pgN p s l = 0 := (by unfold pgN; rw [if_pos (by rw [hp2]; exact h1)]); have hs3 : pgE p s l = e1 := (by unfold pgE; rw [if_pos (by rw [hp2]; exact h1)]; exact hp2); clear hp2; have HS1 := Hd hs1; have HS2 := Hd hs2; have HS3 := Hd hs3; clear hs1 hs2 hs3
 go_wp2_with (first
  | (with_reducible refine wpList_storeK (ty := 27) (cells := #[.int .i64 0, .bool false, .slice none 0 0, .int .i64 0]) rfl rfl RB.out ?_ ?_ ?_ ?_ ?_ ?_
     rfl; rfl; kernel_rfl; rfl; simp [Value.oneCell']; rintro w7 hb7 ho7; have k0 := hb7.cell; have x2 := X1.out.then_only ho7 (fun k (e : k = rb) => by rw [e]; exact LR.out); clear X1 RB ho7 hb7; have X1 := Hd x2
     clear x2)
 )
 refine bodyPost_ret (v := .tuple #[sZ, .int .i64 0, .int .i64 e1]) (by simp [results, Tryz.results41, go_sem, k0, sZ]) rfl ?_; exact ⟨.slice none 0 0, by rw [HS1.out, HS2.out, HS3.out] <;> rfl, by rw [HS1.out]; exact UnIn.nil _, X1.out, fun b hb => by cases hb⟩
 }
end Go.Proofs.YtojobdffnnibaaaGreat