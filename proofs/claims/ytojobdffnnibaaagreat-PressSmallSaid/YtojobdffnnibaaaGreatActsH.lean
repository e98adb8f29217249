/- PressActs: the reference's Break. -/
import Derived.Test.YtojobdffnnibaaaGreatActsD
namespace Go.Proofs.YtojobdffnnibaaaGreat
open Go.RowKit
set_option linter.unusedVariables false
set_option linter.unusedSimpArgs false
/-- What Break answers. -/
def bkS (p : PressD) (s : StD) (x : Int) : StD := if brErr p s x = 0 then brD s x.toNat else zD
def bkN (p : PressD) (s : StD) (x : Int) : Int := if brErr p s x = 0 then min p.tail s.fresh else 0
theorem brD_len (s : StD) (i : Nat) : (brD s i).units.length = s.units.length := by unfold brD; dsimp only; rw [List.length_set, List.length_map]
theorem brD_at (s : StD) (i k : Nat) (h : k < (brD s i).units.length) (hk : k < s.units.length) : (brD s i).units[k] = if k = i then torn (offP s.units[k]) else offP s.units[k] := by
 have e : (brD s i).units = (s.units.map offP).set i (torn (offP (s.units.getD i default))) := rfl; have h2 : (brD s i).units[k]? = ((s.units.map offP).set i (torn (offP (s.units.getD i default))))[k]? := (by rw [e]); rw [List.getElem?_eq_getElem h] at h2
 by_cases hki : k = i
 { subst hki; rw [if_pos rfl]; rw [List.getElem?_set_self (by rw [List.length_map]; exact hk)] at h2; rw [List.getD_eq_getElem?_getD, List.getElem?_eq_getElem hk] at h2; exact Option.some.inj h2 }
 { rw [if_neg hki]; rw [List.getElem?_set_ne (fun e => hki e.symm), List.getElem?_map, List.getElem?_eq_getElem hk] at h2; exact Option.some.inj h2 }
theorem tUnitsR : SliceT Tryz.prog 25 63 (.agg #[.bool false, .bool false, .bool false, .bool false, .int .i64 0]) 5 16 := ⟨by kernel_rfl, by kernel_rfl, rfl, by decide, by decide⟩
set_option maxRecDepth 100000 in
set_option maxHeartbeats 4000000 in
theorem rBreak_any (p : PressD) (s : StD) (x : Int) (vj vu : Value) (w : World) (hj : Truths w vj p.jam) (hu : UnIn w vu s.units) (hl : s.units.length ≤ 1000000) :
 Calls Tryz.prog 63 #[pV vj p, sV vu s, .int .i64 x] w fun e w' => ∃ v, e = .returned (.tuple #[sV v (bkS p s x), .int .i64 (bkN p s x), .int .i64 (brErr p s x)]) ∧ UnIn w' v (bkS p s x).units ∧ Ext w w' ∧ ∀ b, v.ownBlock = some b → w.heap.size ≤ b := by
 have hst := fun w1 (kx : Ext w w1) => rStarted_any p s vj vu w1 (Sl.ext hj kx) (hu.ext kx) hl; have hui := hu; obtain ⟨a, c, rfl, _⟩ := hu.form; clear hu; obtain ⟨_, aj, cj, hvj, _⟩ := hj; rw [List.length_map] at hvj; subst hvj; obtain ⟨n, hn⟩ : ∃ n, s.units.length = n := ⟨_, rfl⟩; unfold pV sV at hst; rw [hn] at hst hl hui; unfold pV sV; rw [hn]; obtain ⟨e1, he1⟩ : ∃ e, stErr p s = e := ⟨_, rfl⟩; rw [he1] at hst; have HST := Hd hst; have HN := Hd hn; have HE1 := Hd he1; have HL := Hd hl; have HUI := Hd hui; clear hst hn he1 hl hui
 go_enter Tryz.func63, Tryz.ntmps63
 go_upto_region 2 with (first
  | (with_reducible refine wpList_boxA (t := 24) (cs := #[.slice aj p.jam.length cj, .int .i64 p.warm, .int .i64 p.tail, .int .i64 p.dirt]) rfl rfl rfl ?_
     rintro xb w1 hx1 hx2 hx3; have PB := Hd hx1; have X1 := Hd hx2; clear hx1 hx2
     clear hx3)
  | (with_reducible refine wpList_boxA (t := 27) (cs := #[.int .i64 s.drive, .bool s.folder, .slice a n c, .int .i64 s.fresh]) rfl rfl rfl ?_
     rintro sb w2 hy1 hy2 hy3; have pb2 := PB.out.ext hy2; have ls := Nat.le_trans X1.out.size hy3; have x2 := X1.out.tr hy2; clear PB X1; have SB := Hd hy1; have PB := Hd pb2; have X1 := Hd x2; have LS := Hd ls; clear hy1 pb2 x2 ls
     clear hy3 hy2)
  | (with_reducible refine wpList_allocA (t := 27) rfl rfl Tryz.zeroValue27 ?_
     rintro rb w4 hy1 hy2 hy3; have pb2 := PB.out.ext hy2; have sb2 := SB.out.ext hy2; have hrs : sb ≠ rb := fun e => (by have := SB.out.lt; omega); have lr := Nat.le_trans X1.out.size hy3; have x2 := X1.out.tr hy2; have c1 := pb2.cell; have c2 := sb2.cell; clear PB X1 SB; have SB := Hd sb2; have PB := Hd pb2; have X1 := Hd x2; have RB := Hd hy1; have LR := Hd lr; have HRS := Hd hrs; clear sb2 pb2 x2 hy1 lr hrs
     clear hy3 hy2)
  | (go_at_call 46
     refine (HST.out _ X1.out).mono ?_; rintro e w5 ⟨rfl, hx⟩; have pb2 := PB.out.ext hx; have sb2 := SB.out.ext hx; have rb2 := RB.out.ext hx; have x2 := X1.out.tr hx; clear c1 c2 PB X1 SB RB hx HST; have c1 := pb2.cell; have c2 := sb2.cell; have SB := Hd sb2; have PB := Hd pb2; have X1 := Hd x2; have RB := Hd rb2
     clear sb2 pb2 x2 rb2))
 by_cases h1 : e1 = 0
 {
 subst h1
 have hbr : brErr p s x = if x < 0 ∨ (n : Int) ≤ x then 1 else if s.drive = 0 ∨ (s.units.getD x.toNat default).th = false then 80 else 0 := by
  unfold brErr; rw [if_neg (by rw [HE1.out]; simp), HN.out]
 have HBR := Hd hbr; clear hbr
 by_cases h2 : x < 0
 {
 have i1 : x < 0 := h2; have hb1 : brErr p s x = 1 := (by rw [HBR.out, if_pos (Or.inl h2)]); have hs1 : bkS p s x = zD := (by unfold bkS; rw [if_neg (by rw [hb1] <;> decide)]); have hs2 : bkN p s x = 0 := (by unfold bkN; rw [if_neg (by rw [hb1] <;> decide)]); have HB1 := Hd hb1; have HS1 := Hd hs1; have HS2 := Hd hs2; clear hb1 hs1 hs2
 go_wp2_with (first
  | (with_reducible refine wpList_storeK (ty := 27) (cells := #[.int .i64 0, .bool false, .slice none 0 0, .int .i64 0]) rfl rfl RB.out ?_ ?_ ?_ ?_ ?_ ?_
     rfl; rfl; kernel_rfl; rfl; simp [Value.oneCell']; rintro w7 hb7 ho7; have k0 := hb7.cell; have x2 := X1.out.then_only ho7 (fun k (e : k = rb) => by rw [e]; exact LR.out); clear X1 RB ho7 hb7; have X1 := Hd x2
     clear x2)
 )
 refine bodyPost_ret (v := .tuple #[sZ, .int .i64 0, .int .i64 1]) (by simp [results, Tryz.results63, go_sem, k0, sZ]) rfl ?_; exact ⟨.slice none 0 0, by rw [HB1.out, HS1.out, HS2.out] <;> rfl, by rw [HS1.out]; exact UnIn.nil _, X1.out, fun b hb => by cases hb⟩
 }
 have i1 : decide (x < 0) = false := decide_eq_false h2
 by_cases h3 : (n : Int) ≤ x
 {
 have i2 : (n : Int) ≤ x := h3; have hb1 : brErr p s x = 1 := (by rw [HBR.out, if_pos (Or.inr h3)]); have hs1 : bkS p s x = zD := (by unfold bkS; rw [if_neg (by rw [hb1] <;> decide)]); have hs2 : bkN p s x = 0 := (by unfold bkN; rw [if_neg (by rw [hb1] <;> decide)]); have HB1 := Hd hb1; have HS1 := Hd hs1; have HS2 := Hd hs2; clear hb1 hs1 hs2
 go_wp2_with (first
  | (with_reducible refine wpList_storeK (ty := 27) (cells := #[.int .i64 0, .bool false, .slice none 0 0, .int .i64 0]) rfl rfl RB.out ?_ ?_ ?_ ?_ ?_ ?_
     rfl; rfl; kernel_rfl; rfl; simp [Value.oneCell']; rintro w7 hb7 ho7; have k0 := hb7.cell; have x2 := X1.out.then_only ho7 (fun k (e : k = rb) => by rw [e]; exact LR.out); clear X1 RB ho7 hb7; have X1 := Hd x2
     clear x2)
 )
 refine bodyPost_ret (v := .tuple #[sZ, .int .i64 0, .int .i64 1]) (by simp [results, Tryz.results63, go_sem, k0, sZ]) rfl ?_; exact ⟨.slice none 0 0, by rw [HB1.out, HS1.out, HS2.out] <;> rfl, by rw [HS1.out]; exact UnIn.nil _, X1.out, fun b hb => by cases hb⟩
 }
 have i2 : decide ((n : Int) ≤ x) = false := decide_eq_false h3; obtain ⟨i, rfl⟩ : ∃ i : Nat, x = (i : Int) := ⟨x.toNat, by omega⟩; have hin : i < n := (by omega); have hbr2 := HBR.out; rw [if_neg (by omega), Int.toNat_natCast] at hbr2; have hil : i < s.units.length := (by rw [HN.out]; exact hin); have hgd0 : s.units.getD i default = s.units[i] := (by rw [List.getD_eq_getElem?_getD, List.getElem?_eq_getElem hil]; rfl); rw [hgd0] at hbr2; obtain ⟨ub, uo, rfl, hcu⟩ := UnIn.cells (HUI.out.ext X1.out) (by rw [HN.out]; omega); obtain ⟨_, d1, _⟩ := hcu i hil; obtain ⟨ut, hut⟩ : ∃ b, s.units[i].th = b := ⟨_, rfl⟩; rw [hut] at d1 hbr2; obtain ⟨dr, hdr⟩ : ∃ d, s.drive = d := ⟨_, rfl⟩; rw [hdr] at hbr2; rw [hdr] at c2; have i3 : (0:Int) ≤ (i:Int) := (by omega); have i4 : (i:Int) < (n:Int) := (by omega); clear hcu hgd0 hut HBR; have HBR := Hd hbr2; have HDR := Hd hdr; clear hbr2 hdr
 by_cases h4 : dr = 0
 {
 have f4 : (dr == 0) = true := (by simp [h4]); have hb1 : brErr p s i = 80 := (by rw [HBR.out, if_pos (Or.inl h4)]); clear h4; have hs1 : bkS p s i = zD := (by unfold bkS; rw [if_neg (by rw [hb1] <;> decide)]); have hs2 : bkN p s i = 0 := (by unfold bkN; rw [if_neg (by rw [hb1] <;> decide)]); have HB1 := Hd hb1; have HS1 := Hd hs1; have HS2 := Hd hs2; clear hb1 hs1 hs2
 go_wp2_with (first
  | (with_reducible refine wpList_storeK (ty := 27) (cells := #[.int .i64 0, .bool false, .slice none 0 0, .int .i64 0]) rfl rfl RB.out ?_ ?_ ?_ ?_ ?_ ?_
     rfl; rfl; kernel_rfl; rfl; simp [Value.oneCell']; rintro w7 hb7 ho7; have k0 := hb7.cell; have x2 := X1.out.then_only ho7 (fun k (e : k = rb) => by rw [e]; exact LR.out); clear X1 RB ho7 hb7; have X1 := Hd x2
     clear x2)
 )
 refine bodyPost_ret (v := .tuple #[sZ, .int .i64 0, .int .i64 80]) (by simp [results, Tryz.results63, go_sem, k0, sZ]) rfl ?_; exact ⟨.slice none 0 0, by rw [HB1.out, HS1.out, HS2.out] <;> rfl, by rw [HS1.out]; exact UnIn.nil _, X1.out, fun b hb => by cases hb⟩
 }
 have f4 : (dr == 0) = false := by simp [h4]
 cases ut
 {
 have hb1 : brErr p s i = 80 := (by rw [HBR.out, if_pos (Or.inr rfl)]); clear h4; have hs1 : bkS p s i = zD := (by unfold bkS; rw [if_neg (by rw [hb1] <;> decide)]); have hs2 : bkN p s i = 0 := (by unfold bkN; rw [if_neg (by rw [hb1] <;> decide)]); have HB1 := Hd hb1; have HS1 := Hd hs1; have HS2 := Hd hs2; clear hb1 hs1 hs2
 go_wp2_with (first
  | (with_reducible refine wpList_storeK (ty := 27) (cells := #[.int .i64 0, .bool false, .slice none 0 0, .int .i64 0]) rfl rfl RB.out ?_ ?_ ?_ ?_ ?_ ?_
     rfl; rfl; kernel_rfl; rfl; simp [Value.oneCell']; rintro w7 hb7 ho7; have k0 := hb7.cell; have x2 := X1.out.then_only ho7 (fun k (e : k = rb) => by rw [e]; exact LR.out); clear X1 RB ho7 hb7; have X1 := Hd x2
     clear x2)
 )
 refine bodyPost_ret (v := .tuple #[sZ, .int .i64 0, .int .i64 80]) (by simp [results, Tryz.results63, go_sem, k0, sZ]) rfl ?_; exact ⟨.slice none 0 0, by rw [HB1.out, HS1.out, HS2.out] <;> rfl, by rw [HS1.out]; exact UnIn.nil _, X1.out, fun b hb => by cases hb⟩
 }
 have hb0 : brErr p s i = 0 := (by rw [HBR.out, if_neg (by simp [h4])]); have hs1 : bkS p s i = brD s i := (by unfold bkS; rw [if_pos hb0, Int.toNat_natCast]); have hs2 : bkN p s i = min p.tail s.fresh := (by unfold bkN; rw [if_pos hb0]); clear h4 HBR; obtain ⟨fo, hfo⟩ : ∃ b, s.folder = b := ⟨_, rfl⟩; rw [hfo] at c2; have sbx := SB.out; rw [HDR.out, hfo] at sbx; clear SB; have HB0 := Hd hb0; have HS1 := Hd hs1; have HS2 := Hd hs2; have SB := Hd sbx; have HFO := Hd hfo; clear hb0 hs1 hs2 sbx hfo
 go_upto_region 9 with (first
  | (with_reducible refine wpList_allocA (t := 27) rfl rfl Tryz.zeroValue27 ?_
     rintro nb w7 hy1 hy2 hy3; have ln : w5.heap.size ≤ nb := hy3; have rbl := RB.out.lt; have sbl := SB.out.lt; have xbl := PB.out.lt; have hnr : nb ≠ rb := fun e => (by omega); have hns : nb ≠ sb := fun e => (by omega); have hnx : nb ≠ xb := fun e => (by omega); clear hy3 rbl sbl xbl; have NB := Hd hy1; have Z := Hd hy2; have LN := Hd ln; have HNR := Hd hnr; have HNS := Hd hns; have HNX := Hd hnx
     clear hy1 hy2 ln hnr hns hnx)
  | (with_reducible refine wpList_storeK (ty := 27) (cells := #[.int .i64 0, .bool fo, .slice none 0 0, .int .i64 0]) rfl rfl NB.out ?_ ?_ ?_ ?_ ?_ ?_
     rfl; rfl; kernel_rfl; rfl; simp [Value.oneCell']; rintro w8 hb ho; have hx := Z.out.then_only ho (fun k (e : k = nb) => by rw [e]; exact LN.out); have pb2 := PB.out.ext hx; have sb2 := SB.out.ext hx; have rb2 := RB.out.ext hx; have x2 := X1.out.tr hx; have lw := x2.size; have lnb := Nat.le_trans X1.out.size LN.out; clear RB X1 hx ho Z NB PB SB c1 c2 d1 LN; have X1 := Hd x2; have RB := Hd rb2; have PB := Hd pb2; have SB := Hd sb2; have NB := Hd hb; have LW := Hd lw; have LN := Hd lnb
     clear x2 rb2 pb2 sb2 hb lw lnb))
 have hbl : (brD s i).units.length = n := (by rw [brD_len]; exact HN.out); have HBL := Hd hbl; clear hbl; clear i1 i2 f4
 go_upto_region 10 with (fail)
 go_loopw [11] (fun t11 wr => ∃ (k : Nat) (v : Value), k ≤ n ∧ t11 = .int .i64 k ∧ Hid (Blk wr nb #[.int .i64 0, .bool fo, v, .int .i64 0] 27) ∧ Hid (wr.ownsRow w8.heap.size 63 5 v k (uL ((brD s i).units.take k))) ∧ Hid (Only (fun b => b = nb) w8 wr)) (fun t11 _ => n - (intOf t11).toNat)
 case atStart => exact ⟨0, _, by omega, rfl, NB, World.ownsRow_nil _ _ _ _, Only.refl _ _⟩
 case round =>
  obtain ⟨k, v, hk, rfl, HNB, HO, HON⟩ := hrel; obtain ⟨a5, c5, rfl⟩ := row_form HO.out; have hkb : k ≤ 1000000 := Nat.le_trans hk HL.out; have sb5 := SB.out.only HON.out (fun e => HNS.out e.symm); have c2 := sb5.cell; have SB5 := Hd sb5; clear sb5
  by_cases hlt : k < n
  {
  have xw : Ext w wr := X1.out.then_only HON.out (fun b (e : b = nb) => by rw [e]; exact LN.out); obtain ⟨_, _, hab, hcu⟩ := UnIn.cells (HUI.out.ext xw) (by rw [HN.out]; omega)
  cases hab
  have hkl : k < s.units.length := (by rw [HN.out]; exact hlt); obtain ⟨d0, d1, d2, d3, d4⟩ := hcu k hkl
  have hsn : uL ((brD s i).units.take (k + 1)) = uL ((brD s i).units.take k) ++ uC ((brD s i).units[k]'(by rw [HBL.out]; exact hlt)) := by
   unfold uL; rw [List.take_succ_eq_append_getElem (by rw [HBL.out]; exact hlt), List.flatMap_append]; simp
  rw [brD_at s i k (by rw [HBL.out]; exact hlt) hkl] at hsn; obtain ⟨u, hu⟩ : ∃ u, s.units[k] = u := ⟨_, rfl⟩; rw [hu] at d0 d1 d2 d3 d4 hsn; obtain ⟨uo, ut, uc, up, ui⟩ := u; dsimp only at d0 d1 d2 d3 d4; have i5 : (0:Int) ≤ (k:Int) := (by omega); have i6 : (k:Int) < (n:Int) := (by omega); clear hu hcu xw
  go_upto_region 14 with (first
   | (with_reducible refine wpList_allocA (t := 63) rfl rfl Tryz.zeroValue63 ?_
      rintro qb w9 hy1 hy2 hy3; have lq : wr.heap.size ≤ qb := hy3; have e0 := hy2.cellSome d0; have e1 := hy2.cellSome d1; have e2 := hy2.cellSome d2; have e3 := hy2.cellSome d3; have e4 := hy2.cellSome d4; have c2b := (SB5.out.ext hy2).cell; clear hy3 d0 d1 d2 d3 d4 c2; have QB := Hd hy1; have Z := Hd hy2; have LQ := Hd lq
      clear hy1 hy2 lq)
   | (with_reducible refine wpList_storeK (ty := 63) (cells := #[.bool uo, .bool ut, .bool uc, .bool up, .int .i64 ui]) rfl rfl QB.out ?_ ?_ ?_ ?_ ?_ ?_
      rfl; rfl; kernel_rfl; rfl; simp [Value.oneCell']; rintro w10 hb ho; have hx := Z.out.then_only ho (fun k (e : k = qb) => by rw [e]; exact LQ.out); clear Z QB ho e0 e1 e2 e3 e4 c2b; have XQ := Hd hx; have QB := Hd hb
      clear hx hb)
   | (with_reducible refine wpList_setK (b := qb) (i := 3) (v := .bool false) rfl rfl QB.out ?_ ?_ ?_ ?_ ?_ ?_ ?_
      rfl; rfl
      · simp
      kernel_rfl; rfl; simp [Value.oneCell']; rintro w11 hb ho; have hx := XQ.out.then_only ho (fun k (e : k = qb) => by rw [e]; exact LQ.out); have hb2 : Blk w11 qb #[.bool uo, .bool ut, .bool uc, .bool false, .int .i64 ui] 63 := hb; clear XQ QB ho hb; have XQ := Hd hx; have QB := Hd hb2
      clear hx hb2))
  by_cases hki : k = i
  {
  have f5 : ((k:Int) == (i:Int)) = true := (by simp [hki]); rw [if_pos hki] at hsn; have HSN := Hd hsn; clear hsn; clear hki
  go_upto_region 17 with (first
   | (with_reducible refine wpList_setK (b := qb) (i := 1) (v := .bool false) rfl rfl QB.out ?_ ?_ ?_ ?_ ?_ ?_ ?_
      rfl; rfl
      · simp
      kernel_rfl; rfl; simp [Value.oneCell']; rintro w13 hb ho; have hx := XQ.out.then_only ho (fun k (e : k = qb) => by rw [e]; exact LQ.out); have hb2 : Blk w13 qb #[.bool uo, .bool false, .bool uc, .bool false, .int .i64 ui] 63 := hb; clear XQ QB ho hb; have XQ := Hd hx; have QC := Hd hb2
      clear hx hb2)
   | (with_reducible refine wpList_setK (b := qb) (i := 2) (v := .bool false) rfl rfl QC.out ?_ ?_ ?_ ?_ ?_ ?_ ?_
      rfl; rfl
      · simp
      kernel_rfl; rfl; simp [Value.oneCell']; rintro w14 hb ho; have hx := XQ.out.then_only ho (fun k (e : k = qb) => by rw [e]; exact LQ.out); have hb2 : Blk w14 qb #[.bool uo, .bool false, .bool false, .bool false, .int .i64 ui] 63 := hb; clear XQ QC ho hb; have XQ := Hd hx; have QB := Hd hb2
      clear hx hb2))
  have nb2 := HNB.out.ext XQ.out; have ho2 := owns_ext HO.out XQ.out; have hn2 := HON.out.then (Only.of_ext (S := fun _ => False) XQ.out) (fun _ _ h => h.elim); have q5 := nb2.cell; have q6 := QB.out.cell; clear HNB HO HON; have HNB := Hd nb2; have HO := Hd ho2; have HON := Hd hn2; clear nb2 ho2 hn2
  go_wp2_with (first
   | (at_builtin
      refine wpList_app (n := k) (m := 1) tUnitsR rfl rfl (v := .slice a5 k c5) rfl (owns_ext HO.out (ext_lit _ _ _)) rfl (Src.lit _ [.bool uo, .bool false, .bool false, .bool false, .int .i64 ui] 1 5 rfl 63 1) (by simp [Value.oneCell']) (by have := HL.out; omega) (Nat.le_trans HON.out.size (by simp)) ?_; rintro v' w12 t1 t2 t3; have xt := (HON.out.then (Only.of_ext (S := fun _ => False) (ext_lit w14 _ _)) (fun _ _ h => h.elim)).then (only_grown t2) (fun b hb e => by have h1 := (HO.out.lt b e).1; omega); have hbs : ∀ b, (Value.slice a5 k c5).ownBlock = some b → w8.heap.size ≤ b := fun b hb => (HO.out.lt b hb).1; have nb2 := (HNB.out.ext (ext_lit w14 _ _)).only (only_grown t2) (fun e => by have h1 := hbs _ e; have h2 := NB.out.lt; omega); rw [show uL ((brD s i).units.take k) ++ [.bool uo, .bool false, .bool false, .bool false, .int .i64 ui] = uL ((brD s i).units.take (k + 1)) from HSN.out.symm] at t1; obtain ⟨a6, c6', hv6⟩ := row_form t1; subst hv6; have hnn : ∀ b, (Value.slice a6 (k + 1) c6').ownBlock = some b → b ≠ nb := fun b hb e => (by have h1 := (t1.lt b hb).1; have h2 := NB.out.lt; omega); clear q5 q6 HO HON HNB; have HO := Hd t1; have HON := Hd xt; have HNB := Hd nb2; have HNN := Hd hnn; clear t1 xt nb2 hnn
      clear t2 t3 hbs)
   | (with_reducible refine wpList_setK (b := nb) (i := 2) (v := .slice a6 (k + 1) c6') rfl rfl HNB.out ?_ ?_ ?_ ?_ ?_ ?_ ?_
      rfl; rfl
      · simp
      kernel_rfl; rfl; rfl; rintro wS hbS hoS; have ho2 := owns_only HO.out hoS HNN.out; have hn2 := HON.out.tr hoS; have hb2 : Blk wS nb #[.int .i64 0, .bool fo, .slice a6 (k + 1) c6', .int .i64 0] 27 := hbS; clear HO HON HNB hbS hoS; have HO := Hd ho2; have HON := Hd hn2; have HNB := Hd hb2
      clear ho2 hn2 hb2))
  go_roundw
  case rel => exact ⟨k + 1, _, by omega, by go_num, HNB, HO, HON⟩
  case measure => simp [intOf] <;> omega
  }
  {
  have f5 : ((k:Int) == (i:Int)) = false := (by simp; omega); rw [if_neg hki] at hsn; have HSN := Hd hsn; clear hsn; clear hki
  go_upto_region 17 with (fail)
  have nb2 := HNB.out.ext XQ.out; have ho2 := owns_ext HO.out XQ.out; have hn2 := HON.out.then (Only.of_ext (S := fun _ => False) XQ.out) (fun _ _ h => h.elim); have q5 := nb2.cell; have q6 := QB.out.cell; clear HNB HO HON; have HNB := Hd nb2; have HO := Hd ho2; have HON := Hd hn2; clear nb2 ho2 hn2
  go_wp2_with (first
   | (at_builtin
      refine wpList_app (n := k) (m := 1) tUnitsR rfl rfl (v := .slice a5 k c5) rfl (owns_ext HO.out (ext_lit _ _ _)) rfl (Src.lit _ [.bool uo, .bool ut, .bool uc, .bool false, .int .i64 ui] 1 5 rfl 63 1) (by simp [Value.oneCell']) (by have := HL.out; omega) (Nat.le_trans HON.out.size (by simp)) ?_; rintro v' w12 t1 t2 t3; have xt := (HON.out.then (Only.of_ext (S := fun _ => False) (ext_lit w11 _ _)) (fun _ _ h => h.elim)).then (only_grown t2) (fun b hb e => by have h1 := (HO.out.lt b e).1; omega); have hbs : ∀ b, (Value.slice a5 k c5).ownBlock = some b → w8.heap.size ≤ b := fun b hb => (HO.out.lt b hb).1; have nb2 := (HNB.out.ext (ext_lit w11 _ _)).only (only_grown t2) (fun e => by have h1 := hbs _ e; have h2 := NB.out.lt; omega); rw [show uL ((brD s i).units.take k) ++ [.bool uo, .bool ut, .bool uc, .bool false, .int .i64 ui] = uL ((brD s i).units.take (k + 1)) from HSN.out.symm] at t1; obtain ⟨a6, c6', hv6⟩ := row_form t1; subst hv6; have hnn : ∀ b, (Value.slice a6 (k + 1) c6').ownBlock = some b → b ≠ nb := fun b hb e => (by have h1 := (t1.lt b hb).1; have h2 := NB.out.lt; omega); clear q5 q6 HO HON HNB; have HO := Hd t1; have HON := Hd xt; have HNB := Hd nb2; have HNN := Hd hnn; clear t1 xt nb2 hnn
      clear t2 t3 hbs)
   | (with_reducible refine wpList_setK (b := nb) (i := 2) (v := .slice a6 (k + 1) c6') rfl rfl HNB.out ?_ ?_ ?_ ?_ ?_ ?_ ?_
      rfl; rfl
      · simp
      kernel_rfl; rfl; rfl; rintro wS hbS hoS; have ho2 := owns_only HO.out hoS HNN.out; have hn2 := HON.out.tr hoS; have hb2 : Blk wS nb #[.int .i64 0, .bool fo, .slice a6 (k + 1) c6', .int .i64 0] 27 := hbS; clear HO HON HNB hbS hoS; have HO := Hd ho2; have HON := Hd hn2; have HNB := Hd hb2
      clear ho2 hn2 hb2))
  go_roundw
  case rel => exact ⟨k + 1, _, by omega, by go_num, HNB, HO, HON⟩
  case measure => simp [intOf] <;> omega
  }
  }
  {
  have i6 : decide ((k:Int) < (n:Int)) = false := decide_eq_false (by omega); obtain rfl : n = k := (by omega); have ho := HO.out; rw [List.take_of_length_le (by rw [HBL.out]; exact Nat.le_refl _)] at ho; have x2 := X1.out.then_only HON.out (fun b (e : b = nb) => by rw [e]; exact LN.out); have rb2 := RB.out.only HON.out (fun e => HNR.out e.symm); have pb2 := PB.out.only HON.out (fun e => HNX.out e.symm); have lr3 : rb < w8.heap.size := RB.out.lt; clear HO X1 RB PB; have HO := Hd ho; have X1 := Hd x2; have RB := Hd rb2; have PB := Hd pb2; have LR3 := Hd lr3; clear ho x2 rb2 pb2 lr3
  go_upto_region 19 with (fail)
  have xd : Ext wr wr.drew := (Below.refl _ wr).drew; refine wp_region_K (fun wx => (∀ j, wx.cell? ⟨nb, j, none⟩ = (#[.int .i64 0, .bool fo, .slice a5 n c5, .int .i64 0] : Array Value)[j]?) ∧ (∀ j, wx.cell? ⟨xb, j, none⟩ = (#[.slice aj p.jam.length cj, .int .i64 p.warm, .int .i64 p.tail, .int .i64 p.dirt] : Array Value)[j]?) ∧ (∀ j, wx.cell? ⟨sb, j, none⟩ = (#[.int .i64 dr, .bool fo, .slice (some ⟨ub, uo, none⟩) n c, .int .i64 s.fresh] : Array Value)[j]?)) 9 (by kernel_rfl) ⟨(HNB.out.ext xd).cell, (PB.out.ext xd).cell, (SB5.out.ext xd).cell⟩ (fun kh => ?_); have x3 := X1.out.tr xd; have rb3 := RB.out.ext xd; have ho3 := owns_ext HO.out xd; have nb3 := HNB.out.ext xd; have pb3 := PB.out.ext xd; have sb3 := SB5.out.ext xd; clear X1 RB HO HNB PB SB5; generalize wr.drew = wA at *; have X1 := Hd x3; have RB := Hd rb3; have HO := Hd ho3; have HNB := Hd nb3; have PB := Hd pb3; have SB5 := Hd sb3; clear x3 rb3 ho3 nb3 pb3 sb3; refine kX 0 kh ?_; simp only [kS]; refine kX 1 kh ?_; simp only [kS]; refine kX 2 kh ?_; simp only [kS]; refine kX 3 kh ?_; simp only [kS]; refine kX 4 kh ?_; simp only [kS]; refine kX 5 kh ?_; simp only [kS]; refine rK [6] ?_; refine xK 6 (fun K hK => ?_) ?_
  {
  refine sK #[.int .i64 0, .bool fo, .slice a5 n c5, .int .i64 0] RB.out ?_; intro wz hb ho; have k0 := hb.cell; have x2 := X1.out.then_only ho (fun k (e : k = rb) => by rw [e]; exact LR.out); have ho2 := owns_only HO.out ho (fun b hb (e : b = rb) => by have h1 := (HO.out.lt b hb).1; have h2 := LR3.out; omega); have nb2 := HNB.out.only ho HNR.out; have pb2 := PB.out.only ho (fun e => absurd (blk_ty PB.out (e ▸ RB.out)) (by decide)); have sb2 := SB5.out.only ho HRS.out; clear X1 HO HNB PB SB5 RB ho hb; have X1 := Hd x2; have HO := Hd ho2; have HNB := Hd nb2; have PB := Hd pb2; have SB5 := Hd sb2; clear x2 ho2 nb2 pb2 sb2; refine kG hK ⟨HNB.out.cell, PB.out.cell, SB5.out.cell⟩ fun kh => ?_; (try simp only [kS]); refine rK [7] ?_; refine xK 7 (fun K hK => ?_) ?_
  {
  go_simp; refine kG hK ⟨HNB.out.cell, PB.out.cell, SB5.out.cell⟩ fun kh => ?_; (try simp only [kS]); refine rK [8] ?_; refine xK 8 (fun K hK => ?_) ?_
  { go_simp; refine kG hK ⟨HNB.out.cell, PB.out.cell, SB5.out.cell⟩ fun kh => ?_; (try simp only [kS]); refine dK ?_ _; go_wp2; refine bodyPost_ret (v := .tuple #[.agg #[.int .i64 0, .bool fo, .slice a5 n c5, .int .i64 0], .int .i64 (min p.tail s.fresh), .int .i64 0]) (by simp [results, Tryz.results63, go_sem, k0]) rfl ?_; have hbd : brD s i = ⟨0, fo, (brD s i).units, 0⟩ := (by unfold brD; rw [← HFO.out]); refine ⟨.slice a5 n c5, by rw [HB0.out, HS1.out, HS2.out, hbd] <;> rfl, ?_, X1.out, fun b hb => Nat.le_trans LW.out (HO.out.lt b hb).1⟩; rw [HS1.out]; exact UnIn.of_owns (by rw [HBL.out]; exact HO.out) (by rw [HBL.out]; have := HL.out; omega) }
  exact nK
  }
  exact nK
  }
  exact nK
  }
 }
 {
 have f1 : (e1 != 0) = true := (by simp [h1]); have f2 : (e1 == 0) = false := (by simp [h1]); have hb1 : brErr p s x = e1 := (by unfold brErr; rw [HE1.out, if_pos h1]); have hs1 : bkS p s x = zD := (by unfold bkS; rw [if_neg (by rw [hb1]; exact h1)]); have hs2 : bkN p s x = 0 := (by unfold bkN; rw [if_neg (by rw [hb1]; exact h1)]); have HB1 := Hd hb1; have HS1 := Hd hs1; have HS2 := Hd hs2; clear hb1 hs1 hs2
 go_wp2_with (first
  | (with_reducible refine wpList_storeK (ty := 27) (cells := #[.int .i64 0, .bool false, .slice none 0 0, .int .i64 0]) rfl rfl RB.out ?_ ?_ ?_ ?_ ?_ ?_
     rfl; rfl; kernel_rfl; rfl; simp [Value.oneCell']; rintro w7 hb7 ho7; have k0 := hb7.cell; have x2 := X1.out.then_only ho7 (fun k (e : k = rb) => by rw [e]; exact LR.out); clear X1 RB ho7 hb7; have X1 := Hd x2
     clear x2)
 )
 refine bodyPost_ret (v := .tuple #[sZ, .int .i64 0, .int .i64 e1]) (by simp [results, Tryz.results63, go_sem, k0, sZ]) rfl ?_; exact ⟨.slice none 0 0, by rw [HB1.out, HS1.out, HS2.out] <;> rfl, by rw [HS1.out]; exact UnIn.nil _, X1.out, fun b hb => by cases hb⟩
 }
end Go.Proofs.YtojobdffnnibaaaGreat