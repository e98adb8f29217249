/- press.Break. -/
import Derived.Test.YtojobdffnnibaaaGreatPAct2
import Derived.Test.YtojobdffnnibaaaGreatJ4
import Derived.BigRegion
namespace Go.Proofs.YtojobdffnnibaaaGreat
open Go.RowKit
set_option linter.unusedVariables false
set_option linter.unusedSimpArgs false
/-- A tower that is off. -/
def offP (u : UnitD) : UnitD := { u with pr := false }
def torn (u : UnitD) : UnitD := { u with th := false, cl := false }
/-- Some function of the first k towers. -/
def midF (f : UnitD → UnitD) (us : List UnitD) (k : Nat) : List UnitD := (us.take k).map f ++ us.drop k
theorem midF_len (f : UnitD → UnitD) (us : List UnitD) (k : Nat) : (midF f us k).length = us.length := by
 unfold midF; simp; omega
theorem midF_zero (f : UnitD → UnitD) (us : List UnitD) : midF f us 0 = us := by simp [midF]
theorem midF_end (f : UnitD → UnitD) (us : List UnitD) (k : Nat) (hk : us.length ≤ k) : midF f us k = us.map f := by
 simp [midF, List.take_of_length_le hk, List.drop_of_length_le hk]
theorem midF_at (f : UnitD → UnitD) (us : List UnitD) (k : Nat) (hk : k < us.length) : (midF f us k)[k]'(by rw [midF_len]; exact hk) = us[k] := by
 unfold midF; rw [List.getElem_append_right (by simp; omega)]; simp [Nat.min_eq_left (Nat.le_of_lt hk)]
theorem midF_succ (f : UnitD → UnitD) (us : List UnitD) (k : Nat) (hk : k < us.length) : midF f us (k + 1) = (midF f us k).set k (f us[k]) := by
 unfold midF; rw [List.set_append_right _ _ (by simp; omega)]; have e : k - ((us.take k).map f).length = 0 := (by simp; omega); rw [e, List.take_succ_eq_append_getElem hk, List.map_append, List.append_assoc, List.drop_eq_getElem_cons hk]; rfl
/-- The error of a break, what it leads to, what is lost. -/
def brErr (p : PressD) (s : StD) (x : Int) : Int :=
 if stErr p s ≠ 0 then stErr p s else if x < 0 ∨ (s.units.length : Int) ≤ x then 1 else if s.drive = 0 ∨ (s.units.getD x.toNat default).th = false then 80 else 0
def brD (s : StD) (i : Nat) : StD := ⟨0, s.folder, (s.units.map offP).set i (torn (offP (s.units.getD i default))), 0⟩
/-- What Break does. -/
def BrkPost (w : World) (p : PressD) (s : StD) (x : Int) (e : Ending) (w' : World) : Prop :=
 (brErr p s x ≠ 0 ∧ e = .returned (.tuple #[sZ, .int .i64 0, .int .i64 (brErr p s x)]) ∧ Ext w w') ∨
 (brErr p s x = 0 ∧ ∃ vu, e = .returned (.tuple #[sV vu (brD s x.toNat), .int .i64 (min p.tail s.fresh), .int .i64 0]) ∧ w'.ownsRow w.heap.size 82 5 vu s.units.length (uL (brD s x.toNat).units) ∧ Ext w w')
theorem BrkPost.no {w w' : World} {p : PressD} {s : StD} {x e1 : Int} (h : brErr p s x = e1) (h0 : e1 ≠ 0) (k : Ext w w') : BrkPost w p s x (.returned (.tuple #[sZ, .int .i64 0, .int .i64 e1])) w' := .inl ⟨by rw [h]; exact h0, by rw [h], k⟩
set_option maxRecDepth 100000 in
set_option maxHeartbeats 4000000 in
theorem break_any (p : PressD) (s : StD) (x : Int) (vj vu : Value) (w : World) (hj : Truths w vj p.jam) (hu : UnIn w vu s.units) (hl : s.units.length ≤ 1000000) (hx : I64 x) :
 Calls Tryz.prog 29 #[pV vj p, sV vu s, .int .i64 x] w (BrkPost w p s x) := by
 have hst := fun w1 (k : Ext w w1) => start_any p s vj vu w1 (Sl.ext hj k) (hu.ext k) hl; obtain ⟨a, c, rfl, Hu⟩ := hu.form; obtain ⟨_, aj, cj, hvj, _⟩ := id hj; rw [List.length_map] at hvj; subst hvj; have HX := Hd hx; clear hx; clear hu hl Hu; unfold pV sV at *; obtain ⟨e1, he1⟩ : ∃ e, stErr p s = e := ⟨_, rfl⟩
 by_cases h1 : e1 = 0
 {
 subst h1; have hs := fun w1 (k : Ext w w1) => (hst w1 k).mono fun e w' (h : StartPost w1 p s _ e w') => (h.resolve_left fun h => h.1 he1).2; obtain ⟨hpe, hsh, hsf⟩ := stErr_ok he1; have huj := shaped_len hsh; have hul : s.units.length ≤ 3 := (by rw [huj]; exact (pErr_len hpe).2); obtain ⟨hdr, hfr, hin⟩ := shaped_nums hsh; obtain ⟨hpw, hpt, hpd⟩ := pErr_nums hpe
 have hbr : brErr p s x = if x < 0 ∨ (s.units.length : Int) ≤ x then 1 else if s.drive = 0 ∨ (s.units.getD x.toNat default).th = false then 80 else 0 := by
  unfold brErr; rw [if_neg (by rw [he1]; simp)]
 obtain ⟨bi, hbi⟩ : ∃ b, inB x 0 ((s.units.length:Int) - 1) = b := ⟨_, rfl⟩
 have hinc : ∀ W : World, Calls Tryz.prog 66 #[.int .i64 x, .int .i64 0, .int .i64 ((s.units.length:Int) - 1)] W fun e w' => e = .returned (.bool bi) ∧ w' = W := fun W =>
  (in_any x 0 ((s.units.length:Int) - 1) W).mono fun e w' ⟨a, b⟩ => ⟨by rw [a, hbi], b.symm⟩
 have hlb : (s.units.length:Int) ≤ 3 := (by omega); have HS := Hd hs; have HUL := Hd hul; have HUJ := Hd huj; have HBR := Hd hbr; have HFR := Hd hfr; have HPT := Hd hpt; have HIN := Hd hinc; clear hs hul huj hbr hfr hpt hinc; clear hst he1 hpe hsh hsf hpw hpd hdr hin
 go_enter Tryz.func29, Tryz.ntmps29
 go_upto_region 1 with (first
  | (with_reducible refine wpList_boxA (t := 34) (cs := #[.slice aj p.jam.length cj, .int .i64 p.warm, .int .i64 p.tail, .int .i64 p.dirt]) rfl rfl rfl ?_
     rintro xb w1 hx1 hx2 hx3; have PB := Hd hx1; have X1 := Hd hx2; clear hx1 hx2
     clear hx3)
  | (with_reducible refine wpList_boxA (t := 38) (cs := #[.int .i64 s.drive, .bool s.folder, .slice a s.units.length c, .int .i64 s.fresh]) rfl rfl rfl ?_
     rintro sb w2 hy1 hy2 hy3; have pb2 := PB.out.ext hy2; have x2 := X1.out.tr hy2; clear PB X1; have SB := Hd hy1; have PB := Hd pb2; have X1 := Hd x2; clear hy1 pb2 x2
     clear hy3 hy2)
  | (with_reducible refine wpList_allocA (t := 38) rfl rfl Tryz.zeroValue38 ?_
     rintro rb w2 hy1 hy2 hy3; have c2 := (PB.out.ext hy2).cell; have c3 := (SB.out.ext hy2).cell; have x2 := X1.out.tr hy2; have l2 : w.heap.size ≤ rb := Nat.le_trans X1.out.size hy3; clear PB X1 SB; have RB := Hd hy1; have X1 := Hd x2; have LR := Hd l2; clear hy1 x2 l2
     clear hy3 hy2))
 go_upto_region 2 with (
  have hgd := HS.out; go_at_call 31; refine (hgd _ X1.out).mono ?_; rintro e wB ⟨mb, pb, ub, c4, rfl, hmo, hx3⟩; have rb2 := RB.out.ext hx3; have lb := RB.out.lt; have lx := X1.out.size; have x2 := X1.out.tr hx3; have hmo2 := hmo; clear c2 c3 RB X1 hgd hx3 HS hmo; have d := hmo2.bm.cell; have RB := Hd rb2; have X1 := Hd x2; have HM := Hd hmo2; have LB := Hd lb; have LX := Hd lx
  clear rb2 x2 hmo2 lb lx)
 cases bi
 {
 have hx1 : x < 0 ∨ (s.units.length : Int) ≤ x := (by unfold inB at hbi; simp at hbi; omega); have hb1 : brErr p s x = 1 := (by rw [HBR.out, if_pos hx1]); have HB1 := Hd hb1; clear hb1; clear hx1 hbi
 go_wp2_with (first
  | (with_reducible refine wpList_storeK (ty := 38) (cells := #[.int .i64 0, .bool false, .slice none 0 0, .int .i64 0]) rfl rfl RB.out ?_ ?_ ?_ ?_ ?_ ?_
     rfl; rfl; kernel_rfl; rfl; simp [Value.oneCell']; rintro w7 hb7 ho7; have k0 := hb7.cell; have x2 := X1.out.then_only ho7 (fun k (e : k = rb) => by rw [e]; exact LR.out); clear X1 RB ho7 hb7; have X1 := Hd x2
     clear x2)
  | (have hgd := HIN.out
     go_at_call 66; refine (hgd _).mono ?_; rintro e w5 ⟨rfl, rfl⟩
     clear hgd HIN))
 refine bodyPost_ret (v := .tuple #[sZ, .int .i64 0, .int .i64 1]) (by simp [results, Tryz.results29, go_sem, k0, sZ]) rfl ?_; exact BrkPost.no HB1.out (by decide) X1.out
 }
 {
 have hx1 : 0 ≤ x ∧ x < (s.units.length : Int) := (by unfold inB at hbi; simp at hbi; omega); obtain ⟨i, rfl⟩ : ∃ i : Nat, x = i := ⟨x.toNat, by omega⟩; have hil : i < s.units.length := (by omega); have hbr2 := HBR.out; rw [if_neg (by omega), Int.toNat_natCast] at hbr2; have hgd0 : s.units.getD i default = s.units[i] := (by rw [List.getD_eq_getElem?_getD, List.getElem?_eq_getElem hil]; rfl); rw [hgd0] at hbr2; obtain ⟨c0, c1, c2, c3, c5⟩ := HM.out.at hil; obtain ⟨u, hu⟩ : ∃ u, s.units[i] = u := ⟨_, rfl⟩; rw [hu] at c1 hbr2; have i1 : (0:Int) ≤ (i:Int) := (by omega); have i2 : (i:Int) < (s.units.length:Int) := (by omega); obtain ⟨dr, hdr⟩ : ∃ d, s.drive = d := ⟨_, rfl⟩; rw [hdr] at hbr2 d; obtain ⟨ut, hut⟩ : ∃ b, u.th = b := ⟨_, rfl⟩; rw [hut] at c1 hbr2; clear hx1 hbi HBR c0 c2 c3 c5; have HBR := Hd hbr2; have HDR := Hd hdr; have HU := Hd hu; have HGD := Hd hgd0; have HUT := Hd hut; clear hbr2 hdr hu hgd0 hut
 by_cases hd : dr = 0
 {
 have hb1 : brErr p s i = 80 := (by rw [HBR.out, if_pos (Or.inl hd)]); have f1 : (dr == 0) = true := (by simp [hd]); have HB1 := Hd hb1; clear hb1; clear hd
 go_wp2_with (first
  | (with_reducible refine wpList_storeK (ty := 38) (cells := #[.int .i64 0, .bool false, .slice none 0 0, .int .i64 0]) rfl rfl RB.out ?_ ?_ ?_ ?_ ?_ ?_
     rfl; rfl; kernel_rfl; rfl; simp [Value.oneCell']; rintro w7 hb7 ho7; have k0 := hb7.cell; have x2 := X1.out.then_only ho7 (fun k (e : k = rb) => by rw [e]; exact LR.out); clear X1 RB ho7 hb7; have X1 := Hd x2
     clear x2)
  | (have hgd := HIN.out
     go_at_call 66; refine (hgd _).mono ?_; rintro e w5 ⟨rfl, rfl⟩
     clear hgd HIN))
 refine bodyPost_ret (v := .tuple #[sZ, .int .i64 0, .int .i64 80]) (by simp [results, Tryz.results29, go_sem, k0, sZ]) rfl ?_; exact BrkPost.no HB1.out (by decide) X1.out
 }
 {
 have f1 : (dr == 0) = false := by simp [hd]
 cases ut
 {
 have hb1 : brErr p s i = 80 := (by rw [HBR.out, if_pos (Or.inr rfl)]); have HB1 := Hd hb1; clear hb1; clear hd
 go_wp2_with (first
  | (with_reducible refine wpList_storeK (ty := 38) (cells := #[.int .i64 0, .bool false, .slice none 0 0, .int .i64 0]) rfl rfl RB.out ?_ ?_ ?_ ?_ ?_ ?_
     rfl; rfl; kernel_rfl; rfl; simp [Value.oneCell']; rintro w7 hb7 ho7; have k0 := hb7.cell; have x2 := X1.out.then_only ho7 (fun k (e : k = rb) => by rw [e]; exact LR.out); clear X1 RB ho7 hb7; have X1 := Hd x2
     clear x2)
  | (have hgd := HIN.out
     go_at_call 66; refine (hgd _).mono ?_; rintro e w5 ⟨rfl, rfl⟩
     clear hgd HIN))
 refine bodyPost_ret (v := .tuple #[sZ, .int .i64 0, .int .i64 80]) (by simp [results, Tryz.results29, go_sem, k0, sZ]) rfl ?_; exact BrkPost.no HB1.out (by decide) X1.out
 }
 {
 have hb0 : brErr p s i = 0 := (by rw [HBR.out, if_neg (by simp [hd])]); have dp := HM.out.bp.cell; have HB0 := Hd hb0; clear hb0; clear hd
 go_upto_region 8 with (
  have hgd := HIN.out; go_at_call 66; refine (hgd _).mono ?_; rintro e w5 ⟨rfl, rfl⟩
  clear hgd HIN)
 go_quiet (fail)
 have xq : Ext w5 (w5.drewN nq) := Ext.of_drewN _ _; generalize w5.drewN nq = wq at *; obtain ⟨lo, hlo⟩ : ∃ l, min p.tail s.fresh = l := ⟨_, rfl⟩; rw [hlo]; have hm2 := HM.out.ext xq; have hpt2 := pointers_any wq hm2 (Nat.le_trans HUL.out (by decide)); have rb2 := RB.out.ext xq; have x2 := X1.out.tr xq; clear d dp c1 RB X1 HM xq; have RB := Hd rb2; have X1 := Hd x2; have HM := Hd hm2; have HPO0 := Hd hpt2; have HLO := Hd hlo; clear rb2 x2 hm2 hpt2 hlo
 go_upto_region 10 with (
  have hgd := HPO0.out; go_at_call 67; refine hgd.mono ?_; rintro e wP ⟨v, rfl, hown, hx⟩; obtain ⟨a7, c7, hv7⟩ := row_form hown; subst hv7; have hm4 := HM.out.ext hx; have rb2 := RB.out.ext hx; have x2 := X1.out.tr hx; have lf : ub < wq.heap.size := (by obtain ⟨_, h, _⟩ := HM.out.bu; exact h.lt); clear hx hgd HPO0 RB X1 HM; have RB := Hd rb2; have X1 := Hd x2; have HM := Hd hm4; have HPO := Hd hown; have LF := Hd lf
  clear rb2 x2 hm4 hown lf)
 have hml : ∀ k, (midF offP s.units k).length = s.units.length := midF_len offP s.units
 have hm0 : MOw w2.heap.size wP mb pb ub c4 p { s with units := midF offP s.units 0 } (.slice aj p.jam.length cj) := by
  rw [midF_zero]; exact HM.out
 clear HM; have HML := Hd hml; have HM := Hd hm0; clear hml hm0
 go_loopw [73] (fun t73 wr => ∃ k : Nat, k ≤ s.units.length ∧ t73 = .int .i64 k ∧ Hid (MOw w2.heap.size wr mb pb ub c4 p { s with units := midF offP s.units k } (.slice aj p.jam.length cj)) ∧ Hid (Only (fun b => b = ub) wP wr)) (fun t73 _ => s.units.length - (intOf t73).toNat)
 case atStart => exact ⟨0, Nat.zero_le _, rfl, HM, Only.refl _ _⟩
 case round =>
  obtain ⟨k, hk, rfl, HK, HOK⟩ := hrel; have hkb : k ≤ 3 := Nat.le_trans hk HUL.out
  by_cases hlt : k < s.units.length
  {
  have hpo := owns_only HPO.out HOK.out (fun b hb e => by have h1 := (HPO.out.lt b hb).1; have h2 := LF.out; omega); obtain ⟨g, c8, hv8, hcell⟩ := owns_pos hpo (by omega)
  cases hv8
  have c9 := hcell k (.pointer (some ⟨ub, k * 5, none⟩)) (by unfold ptrL; simp [hlt]); obtain ⟨cs, hbk, hroom⟩ := HK.out.room; have hgt := midF_at offP s.units k hlt; dsimp only at hroom; rw [HML.out] at hroom; have hsuc := midF_succ offP s.units k hlt; have j1 : (0:Int) ≤ (k:Int) := (by omega); have j2 : (k:Int) < (s.units.length:Int) := (by omega); clear hpo hcell; have BK := Hd hbk; have ROOM := Hd hroom; have SUC := Hd hsuc; have GT := Hd hgt; clear hbk hroom hsuc hgt
  go_wp2_with (
   (with_reducible refine wpList_setK (b := ub) (i := k * 5 + 3) (v := .bool false) rfl rfl BK.out ?_ ?_ ?_ ?_ ?_ ?_ ?_); rfl; rfl
   · have := ROOM.out; omega
   kernel_rfl; rfl; simp [Value.oneCell']; rintro wS hbS hoS; have hm5 := MOw.setU (i := k) (j := 3) (u := offP s.units[k]) (v := .bool false) HK.out BK.out (by dsimp only; rw [HML.out]; exact hlt) (by omega) (by dsimp only; rw [GT.out]; rfl) hbS hoS; have ho5 := HOK.out.tr hoS; dsimp only at hm5; rw [← SUC.out] at hm5; have HM5 := Hd hm5; have HO5 := Hd ho5; clear hm5 ho5
   clear hoS hbS)
  go_roundw
  case rel => exact ⟨k + 1, by omega, by go_num, HM5, HO5⟩
  case measure => simp [intOf] <;> omega
  }
  {
  have i2' : decide ((k:Int) < (s.units.length:Int)) = false := decide_eq_false (by omega); obtain rfl : k = s.units.length := (by omega); have hmk := HK.out; rw [midF_end offP s.units s.units.length (Nat.le_refl _)] at hmk; have hml2 : (s.units.map offP).length = s.units.length := (by simp); have hgi : (s.units.map offP)[i]'(by rw [hml2]; exact hil) = offP s.units[i] := (by simp); have rb2 := RB.out.only HOK.out (fun e => by have := hmk.lu; have := LB.out; omega); have x2 := X1.out.then_only HOK.out (fun b (e : b = ub) => by rw [e]; exact Nat.le_trans LX.out hmk.lu); obtain ⟨cs, hbk, hroom⟩ := hmk.room; have d := hmk.bm.cell; dsimp only at d hroom; rw [hml2] at d hroom; obtain ⟨e0, e1, e2, e3, e4⟩ := hmk.at (i := i) (by dsimp only; rw [hml2]; exact hil); dsimp only at e0 e1 e2 e3 e4; rw [hgi] at e0 e1 e2 e3 e4; have fr := hbk.free; rw [HU.out] at e0 e1 e2 e3 e4 hgi; obtain ⟨uo, ut, uc, up, ui⟩ := u; unfold offP at e0 e1 e2 e3 e4; dsimp only at e0 e1 e2 e3 e4; clear RB X1 HK e0 e3 e4; have RB := Hd rb2; have X1 := Hd x2; have HK := Hd hmk; have BK := Hd hbk; have ROOM := Hd hroom; have GI := Hd hgi; clear rb2 x2 hmk hbk hroom hgi
  go_upto_region 14 with (fail)
  go_region
  have B1 := blk_set BK.out (i * 5 + 1) (.bool false); have hm5 := MOw.setU (i := i) (j := 1) (u := ⟨uo, false, uc, false, ui⟩) (v := .bool false) HK.out BK.out (by dsimp only; rw [hml2]; exact hil) (by omega) (by dsimp only; rw [GI.out]; rfl) B1 (Only.set _ _ _ rfl); have B2 := blk_set B1 (i * 5 + 2) (.bool false); have hm6 := MOw.setU (i := i) (j := 2) (u := ⟨uo, false, false, false, ui⟩) (v := .bool false) hm5 B1 (by dsimp only; rw [List.length_set, hml2]; exact hil) (by omega) (by dsimp only; rw [List.getElem_set_self]; rfl) B2 (Only.set _ _ _ rfl); dsimp only at hm6; rw [List.set_set] at hm6; have hd : ∀ W : World, Ext W W.drew := fun W => (Below.refl _ W).drew; have ho6 := ((Only.set (S := fun b => b = ub) wr ⟨ub, i * 5 + 1, none⟩ (.bool false) rfl).tr (Only.set _ ⟨ub, i * 5 + 2, none⟩ (.bool false) rfl)).tr (Only.of_ext (hd _)); have hm7 := hm6.ext (hd _); clear B1 B2 hm5 hm6 fr e1 e2 d; generalize World.drew _ = wz at *; clear hd; have rb3 := RB.out.only ho6 (fun e => by have := HK.out.lu; have := LB.out; omega); have x3 := X1.out.then_only ho6 (fun b (e : b = ub) => by rw [e]; exact Nat.le_trans LX.out HK.out.lu); obtain ⟨us2, hus2⟩ : ∃ l, (s.units.map offP).set i ⟨uo, false, false, false, ui⟩ = l := ⟨_, rfl⟩; rw [hus2] at hm7; have hul2 : us2.length = s.units.length := (by rw [← hus2, List.length_set]; exact hml2); have hbD : brD s i = ⟨0, s.folder, us2, 0⟩ := (by unfold brD; rw [HGD.out, HU.out, ← hus2]; rfl); have hbb := hm7.bm; dsimp only at hbb; rw [hul2] at hbb; clear RB X1 HK BK ho6 hus2 GI; have d := hbb.cell; have RB := Hd rb3; have X1 := Hd x3; have HM := Hd hm7; have HBD := Hd hbD; have HBB := Hd hbb; have HUS := Hd hul2; clear rb3 x3 hm7 hbD hbb hul2
  go_upto_region 16 with (first
   | (with_reducible refine wpList_setK (b := mb) (i := 1) (v := .int .i64 0) rfl rfl HBB.out ?_ ?_ ?_ ?_ ?_ ?_ ?_
      rfl; rfl
      · simp
      kernel_rfl; rfl; simp [Value.oneCell']; rintro w8 hb8 ho8; have hb9 : Blk w8 mb #[.pointer (some ⟨pb, 0, none⟩), .int .i64 0, .bool s.folder, .slice (some ⟨ub, 0, none⟩) s.units.length c4, .int .i64 s.fresh] 139 := hb8; have hm8 : MOw w2.heap.size w8 mb pb ub c4 p ⟨0, s.folder, us2, s.fresh⟩ (.slice aj p.jam.length cj) := MOw.setM (s' := ⟨0, s.folder, us2, s.fresh⟩) HM.out rfl (by dsimp only; rw [HUS.out]; exact hb9) ho8; have rb2 := RB.out.only ho8 (fun (e : rb = mb) => by have := HM.out.lm; have := LB.out; omega); have x2 := X1.out.then_only ho8 (fun b (e : b = mb) => by rw [e]; exact Nat.le_trans LX.out HM.out.lm); clear hb8 ho8 HM RB X1 HBB d; have HBC := Hd hb9; have HM2 := Hd hm8; have RB := Hd rb2; have X1 := Hd x2
      clear hb9 hm8 rb2 x2)
   | (with_reducible refine wpList_setK (b := mb) (i := 4) (v := .int .i64 0) rfl rfl HBC.out ?_ ?_ ?_ ?_ ?_ ?_ ?_
      rfl; rfl
      · simp
      kernel_rfl; rfl; simp [Value.oneCell']; rintro w9 hb8 ho8; have hb9 : Blk w9 mb #[.pointer (some ⟨pb, 0, none⟩), .int .i64 0, .bool s.folder, .slice (some ⟨ub, 0, none⟩) s.units.length c4, .int .i64 0] 139 := hb8; have hm9 : MOw w2.heap.size w9 mb pb ub c4 p ⟨0, s.folder, us2, 0⟩ (.slice aj p.jam.length cj) := MOw.setM (s' := ⟨0, s.folder, us2, 0⟩) HM2.out rfl (by dsimp only; rw [HUS.out]; exact hb9) ho8; have rb2 := RB.out.only ho8 (fun (e : rb = mb) => by have := HM2.out.lm; have := LB.out; omega); have x2 := X1.out.then_only ho8 (fun b (e : b = mb) => by rw [e]; exact Nat.le_trans LX.out HM2.out.lm); clear hb8 ho8 HM2 RB X1 HBC; have d := hb9.cell; have HM3 := Hd hm9; have RB := Hd rb2; have X1 := Hd x2
      clear hm9 rb2 x2))
  go_wp2_with (
   (with_reducible refine wpList_storeK (ty := 38) (cells := #[.int .i64 0, .bool s.folder, .slice (some ⟨ub, 0, none⟩) s.units.length c4, .int .i64 0]) rfl rfl RB.out ?_ ?_ ?_ ?_ ?_ ?_); rfl; rfl; kernel_rfl; rfl; simp [Value.oneCell']; rintro w7 hb7 ho7; have k0 := hb7.cell; have x2 := X1.out.then_only ho7 (fun k (e : k = rb) => by rw [e]; exact LR.out); have how := owns_only HM3.out.own ho7 (fun b hb (e : b = rb) => by have h1 := (HM3.out.own.lt b hb).1; have h2 := LB.out; omega); clear X1 RB ho7 hb7 HM3 d; have X1 := Hd x2; have HOW := Hd how
   clear x2 how)
  refine bodyPost_ret (v := .tuple #[sV (.slice (some ⟨ub, 0, none⟩) s.units.length c4) ⟨0, s.folder, us2, 0⟩, .int .i64 lo, .int .i64 0]) (by simp [results, Tryz.results29, go_sem, k0, sV]) rfl ?_; refine .inr ⟨HB0.out, _, by rw [Int.toNat_natCast, HBD.out, HLO.out], ?_, X1.out⟩; rw [Int.toNat_natCast, HBD.out]; have h9 := HOW.out; (try dsimp only at h9); rw [HUS.out] at h9; exact owns_weak h9 LX.out
  }
 }
 }
 }
 }
 {
 have hpe : brErr p s x = e1 := (by unfold brErr; rw [he1, if_pos h1]); have hs := fun w1 (k : Ext w w1) => (hst w1 k).mono fun e w' (h : StartPost w1 p s _ e w') => (h.resolve_right fun h => h1 (he1 ▸ h.1)).2; rw [he1] at hs; have f1 : (e1 != 0) = true := (by simp [h1]); have f2 : (e1 == 0) = false := (by simp [h1]); have HPE := Hd hpe; have H1 := Hd h1; have HS := Hd hs; clear hpe h1 hs; clear he1 hst
 go_enter Tryz.func29, Tryz.ntmps29
 go_upto_region 1 with (first
  | (with_reducible refine wpList_boxA (t := 34) (cs := #[.slice aj p.jam.length cj, .int .i64 p.warm, .int .i64 p.tail, .int .i64 p.dirt]) rfl rfl rfl ?_
     rintro xb w1 hx1 hx2 hx3; have PB := Hd hx1; have X1 := Hd hx2; clear hx1 hx2
     clear hx3)
  | (with_reducible refine wpList_boxA (t := 38) (cs := #[.int .i64 s.drive, .bool s.folder, .slice a s.units.length c, .int .i64 s.fresh]) rfl rfl rfl ?_
     rintro sb w2 hy1 hy2 hy3; have pb2 := PB.out.ext hy2; have x2 := X1.out.tr hy2; clear PB X1; have SB := Hd hy1; have PB := Hd pb2; have X1 := Hd x2; clear hy1 pb2 x2
     clear hy3 hy2)
  | (with_reducible refine wpList_allocA (t := 38) rfl rfl Tryz.zeroValue38 ?_
     rintro rb w2 hy1 hy2 hy3; have c2 := (PB.out.ext hy2).cell; have c3 := (SB.out.ext hy2).cell; have x2 := X1.out.tr hy2; have l2 : w.heap.size ≤ rb := Nat.le_trans X1.out.size hy3; clear PB X1 SB; have RB := Hd hy1; have X1 := Hd x2; have LR := Hd l2; clear hy1 x2 l2
     clear hy3 hy2))
 go_wp2_with (first
  | (have hgd := HS.out
     go_at_call 31; refine (hgd _ X1.out).mono ?_; rintro e w3 ⟨rfl, hx3⟩; have x2 := X1.out.tr hx3; have rb2 := RB.out.ext hx3; clear c2 c3 RB X1 hgd hx3 HS; have X1 := Hd x2; have RB := Hd rb2
     clear x2 rb2)
  | (with_reducible refine wpList_storeK (ty := 38) (cells := #[.int .i64 0, .bool false, .slice none 0 0, .int .i64 0]) rfl rfl RB.out ?_ ?_ ?_ ?_ ?_ ?_
     rfl; rfl; kernel_rfl; rfl; simp [Value.oneCell']; rintro w7 hb7 ho7; have k0 := hb7.cell; have x2 := X1.out.then_only ho7 (fun k (e : k = rb) => by rw [e]; exact LR.out); clear X1 RB ho7 hb7; have X1 := Hd x2
     clear x2))
 refine bodyPost_ret (v := .tuple #[sZ, .int .i64 0, .int .i64 e1]) (by simp [results, Tryz.results29, go_sem, k0, sZ]) rfl ?_; exact BrkPost.no HPE.out H1.out X1.out
 }
end Go.Proofs.YtojobdffnnibaaaGreat